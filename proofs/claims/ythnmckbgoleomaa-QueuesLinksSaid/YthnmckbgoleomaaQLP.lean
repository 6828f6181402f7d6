/- Links: LinkRun answers as the sentence says. -/
import Derived.Test.YthnmckbgoleomaaQLF
import Derived.Test.YthnmckbgoleomaaPu
set_option linter.unusedVariables false
set_option linter.unusedSimpArgs false
set_option maxRecDepth 100000
namespace Go.Proofs.Ythnmckbgoleomaa
namespace Am
section
variable {R : Type}
theorem awake_ok (k : Bool → Option R) : ratchetlaw19_awake 2000 k = k true := by kernel_rfl

theorem within_eq (N : Nat) (a lo hi : Int) (k : Bool → Option R) : queues_within N a lo hi k = k (decide (lo ≤ a ∧ a ≤ hi)) := by
  unfold queues_within
  by_cases h : lo ≤ a <;> simp [h]
theorem Within_eq (N : Nat) (a lo hi : Int) (k : Bool → Option R) : ratchetbase_Within N a lo hi k = k (decide (lo ≤ a ∧ a ≤ hi)) := by
  unfold ratchetbase_Within
  by_cases h : lo ≤ a <;> simp [h]
theorem unless_eq (N : Nat) (b : Bool) (e : Int) (k : Int → Option R) : queues_unless N b e k = k (if b = true then 0 else e) := by
  unfold queues_unless; cases b <;> rfl
theorem first_loop (N : Nat) (k0 : Int → Option R) (k1 : Option R) (l : List Int) (hl : l.length ≤ 1000000) : ∀ (n i : Nat), l.length < n + i → i ≤ l.length →
    queues_first_l0 N k0 k1 n l l.length i = match (l.drop i).find? (fun x => decide (x ≠ 0)) with | some x => k0 x | none => k1 := by
  intro n
  induction n with
  | zero => intro i h1 h2; omega
  | succ n ih =>
    intro i h1 h2
    rw [queues_first_l0]
    by_cases h : i < l.length
    · rw [cond_pos (by omega), at?_lt h, some_bind', drop_cons h, List.find?_cons]
      by_cases hx : l[i] = 0
      · rw [cond_neg (by simp [hx]), w64_id (by omega) (by omega)]
        simp only [hx, ne_eq, not_true, decide_false]
        exact ih (i + 1) (by omega) (by omega)
      · rw [cond_pos hx]; simp [hx]
    · rw [cond_neg (by omega)]
      have : i = l.length := by omega
      subst this
      simp
theorem first_eq (N : Nat) (l : List Int) (hN : l.length < N) (hl : l.length ≤ 1000000) (k : Int → Option R) : queues_first N l k = k ((l.find? (fun x => decide (x ≠ 0))).getD 0) := by
  unfold queues_first
  have := first_loop N (fun z => k z) (k 0) l hl N 0 (by omega) (by omega)
  rw [Int.natCast_zero] at this
  rw [this, List.drop_zero]
  cases l.find? (fun x => decide (x ≠ 0)) <;> rfl
theorem first2 (N : Nat) (hN : 3 ≤ N) (a b : Int) (k : Int → Option R) : queues_first N [a, b] k = k (if a = 0 then b else a) := by
  rw [first_eq N _ (by simp; omega) (by simp)]
  by_cases ha : a = 0 <;> by_cases hb : b = 0 <;> simp [ha, hb]

theorem copyInts_eq (N : Nat) (l : List Int) (hl : l.length ≤ 1000000) (k : List Int → Option R) : ratchetbase_CopyInts N l k = k l := by
  unfold ratchetbase_CopyInts; rw [roomB_of (by omega)]; rfl
/-! ### Lists of numbers -/
theorem ints_loop (N : Nat) (k0 : Bool → Option R) (k1 : Option R) (l : List Int) (hl : l.length ≤ 1000000) : ∀ (n i : Nat), l.length < n + i → i ≤ l.length →
    ratchetbase_Ints_l0 N k0 k1 n l l i = k1 := by
  intro n
  induction n with
  | zero => intro i h1 h2; omega
  | succ n ih =>
    intro i h1 h2
    rw [ratchetbase_Ints_l0]
    by_cases h : i < l.length
    · rw [cond_pos (by omega), at?_lt h, some_bind', some_bind', cond_neg (by simp), w64_succ (by omega)]
      exact ih (i + 1) (by omega) (by omega)
    · rw [cond_neg (by omega)]
theorem ints_same (N : Nat) (l : List Int) (hl : l.length ≤ 1000000) (hN : l.length < N) (k : Bool → Option R) : ratchetbase_Ints N l l k = k true := by
  unfold ratchetbase_Ints
  rw [cond_neg (by simp)]
  exact ints_loop N (fun z => k z) (k true) l hl N 0 (by omega) (by omega)

/-! ### Maps, as lists of keys and values -/
def prj' {α : Type} (xs : List (Int × Nat × α)) : List (Int × α) := xs.map fun e => (e.1, e.2.2)
def lkI {α : Type} (t : Int) (z : α) : List (Int × α) → α
  | [] => z
  | (k, v) :: r => if t = k then v else lkI t z r
def delI {α : Type} (t : Int) : List (Int × α) → List (Int × α)
  | [] => []
  | (k, v) :: r => if t = k then r else (k, v) :: delI t r
def putI {α : Type} (t : Int) (y : α) : List (Int × α) → List (Int × α)
  | [] => [(t, y)]
  | (k, v) :: r => if t = k then (t, y) :: r else (k, v) :: putI t y r
theorem eqD_int (a b : Int) : Sh.eqD (Sh.i .i64) a b = decide (a = b) := rfl
theorem mget_prj {α : Type} (t : Int) (z : α) : ∀ xs : List (Int × Nat × α), mgetD (Sh.i .i64) t xs z = lkI t z (prj' xs)
  | [] => rfl
  | (k, n, v) :: r => by
    have ih := mget_prj t z r
    unfold mgetD at ih ⊢
    show (match (bif decide (t = k) then some 0 else (mixD (Sh.i .i64) t r).map (· + 1)) with | none => z | some i => _) = _
    by_cases h : t = k
    · rw [cond_pos h]
      show v = if t = k then v else _
      rw [if_pos h]
    · rw [cond_neg h]
      show _ = if t = k then v else lkI t z (prj' r)
      rw [if_neg h, ← ih]
      cases mixD (Sh.i .i64) t r <;> rfl
theorem mdel_prj {α : Type} (t : Int) : ∀ xs : List (Int × Nat × α), prj' (mdelD (Sh.i .i64) t xs) = delI t (prj' xs)
  | [] => rfl
  | (k, n, v) :: r => by
    have ih := mdel_prj t r
    unfold mdelD at ih ⊢
    show prj' (match (bif decide (t = k) then some 0 else (mixD (Sh.i .i64) t r).map (· + 1)) with | none => _ | some i => _) = if t = k then prj' r else (k, v) :: delI t (prj' r)
    by_cases h : t = k
    · rw [cond_pos h, if_pos h]; rfl
    · rw [cond_neg h, if_neg h, ← ih]
      cases mixD (Sh.i .i64) t r <;> rfl
theorem mput_prj {α : Type} (t : Int) (y : α) (c : Nat) : ∀ xs : List (Int × Nat × α), prj' (mputD (Sh.i .i64) t y c xs) = putI t y (prj' xs)
  | [] => rfl
  | (k, n, v) :: r => by
    have ih := mput_prj t y c r
    unfold mputD at ih ⊢
    show prj' (match (bif decide (t = k) then some 0 else (mixD (Sh.i .i64) t r).map (· + 1)) with | none => _ | some i => _) = if t = k then (t, y) :: prj' r else (k, v) :: putI t y (prj' r)
    by_cases h : t = k
    · rw [cond_pos h, if_pos h]; rfl
    · rw [cond_neg h, if_neg h, ← ih]
      cases mixD (Sh.i .i64) t r <;> rfl
theorem prj_len {α : Type} (xs : List (Int × Nat × α)) : (prj' xs).length = xs.length := by simp [prj']
/-! ### A tick -/
theorem tick_first (N : Nat) (g w cr D : Int) (s : List Int) (k : Int → Int → List Int → List Int → Int → Int → List Int → Nat → Nat → List Int → Nat → (List (Int × Nat × (List Int))) → Nat → (List (Int × Nat × Int)) → Option R) : queues_link_tick N 0 g w cr D s 0 [] 0 [] k = queues_link_tick_v1 N 0 g w cr D s 0 0 [] 0 [] 0 [] k := by kernel_rfl
theorem tick_eq (N : Nat) {t g w cr D : Int} {s : List Int} {off len : Nat} {arr : List Int} {c : Nat} {xs : List (Int × Nat × (List Int))} {c2 : Nat} {ys : List (Int × Nat × Int)} (hoff : off + len = arr.length) (hlen : (arr.drop off ++ mgetD (Sh.i .i64) t xs []).length ≤ 1000000)
    (k : Int → Int → List Int → List Int → Int → Int → List Int → Nat → Nat → List Int → Nat → (List (Int × Nat × (List Int))) → Nat → (List (Int × Nat × Int)) → Option R) (harr : arr.length ≤ 1000000) :
    ∃ (off' len' : Nat) (arr' : List Int) (c' : Nat) (c2' : Nat),
      off' + len' = arr'.length ∧ arr'.length ≤ (arr.drop off ++ mgetD (Sh.i .i64) t xs []).length ∧
      arr'.drop off' = (if w = 1 then (arr.drop off ++ mgetD (Sh.i .i64) t xs []).drop 1 else arr.drop off ++ mgetD (Sh.i .i64) t xs []) ∧
      queues_link_tick_v1 N t g w cr D s off len arr c xs c2 ys k =
        if g = 1 ∧ 0 < s.length ∧ 0 < w64 (cr + mgetD (Sh.i .i64) t ys 0) then
          k (w64 (w64 (cr + mgetD (Sh.i .i64) t ys 0) - 1)) (((mputD (Sh.i .i64) (w64 (t + D)) (s.take 1) c (mdelD (Sh.i .i64) t xs)).length : Nat) : Int) (arr'.drop off') (if w = 1 then (arr.drop off ++ mgetD (Sh.i .i64) t xs []).take 1 else []) (w64 (w64 (cr + mgetD (Sh.i .i64) t ys 0) - 1)) D (s.drop 1) off' len' arr' c' (mputD (Sh.i .i64) (w64 (t + D)) (s.take 1) c (mdelD (Sh.i .i64) t xs)) c2' (if w = 1 ∧ arr.drop off ++ mgetD (Sh.i .i64) t xs [] ≠ [] then mputD (Sh.i .i64) (w64 (t + D)) (w64 (mgetD (Sh.i .i64) (w64 (t + D)) ys 0 + 1)) c2 ys else ys)
        else k (w64 (cr + mgetD (Sh.i .i64) t ys 0)) (((mdelD (Sh.i .i64) t xs).length : Nat) : Int) (arr'.drop off') (if w = 1 then (arr.drop off ++ mgetD (Sh.i .i64) t xs []).take 1 else []) (w64 (cr + mgetD (Sh.i .i64) t ys 0)) D s off' len' arr' c' (mdelD (Sh.i .i64) t xs) c2' (if w = 1 ∧ arr.drop off ++ mgetD (Sh.i .i64) t xs [] ≠ [] then mputD (Sh.i .i64) (w64 (t + D)) (w64 (mgetD (Sh.i .i64) (w64 (t + D)) ys 0 + 1)) c2 ys else ys) := by
  have e0 : List.take (arr.length - off) (List.drop off arr) = arr.drop off := List.take_of_length_le (by simp)
  have e1 : (off + len == arr.length) = true := by simp [hoff]
  have e2 : arr.length + (mgetD (Sh.i .i64) t xs []).length ≤ 3000000 := by
    rw [List.length_append] at hlen; omega
  have e3 : ∀ a : List Int, List.take a.length (List.drop 0 a) = a := fun a => by simp
  unfold queues_link_tick_v1
  rw [roomB_of (by omega), cond_true, e1, cond_true, e0]
  generalize arr.drop off ++ mgetD (Sh.i .i64) t xs [] = H at *
  rw [slB_of (by omega), cond_true]
  have s1 : ∀ a : List Int, List.take (a.length - 1) (List.drop 1 a) = a.drop 1 := fun a => List.take_of_length_le (by simp)
  have d0 : List.drop 0 H = H := rfl
  have g2 : decide (0 + H.length ≤ H.length) = true := decide_eq_true (by omega)
  have r1 : roomB H.length 8 = true := roomB_of (by omega)
  have r2 : roomB (H.drop 1).length 8 = true := roomB_of (by rw [List.length_drop]; omega)
  have r3 : roomB (H.take 1).length 8 = true := roomB_of (by rw [List.length_take]; omega)
  have tk : ∀ a : List Int, List.take 1 (List.drop 0 a) = a.take 1 := fun a => rfl
  simp only [e3, s1, tk, g2, cond_true, r1, r2, r3]
  by_cases hw : w = 1
  · subst hw
    by_cases hH : 0 < H.length
    · have hne : H ≠ [] := fun h => by rw [h] at hH; simp at hH
      have g1 : decide (0 < ((H.length : Nat) : Int)) = true := decide_eq_true (by omega)
      have g3 : slB 0 1 1 H.length 0 H.length = true := slB_of (by omega)
      have g4 : slB 1 ((H.length : Nat) : Int) ((H.length : Nat) : Int) H.length 0 H.length = true := slB_of (by omega)
      have g5 : decide (1 + (H.length - 1) ≤ H.length) = true := decide_eq_true (by omega)
      have g6 : decide (1 ≤ H.length) = true := decide_eq_true (by omega)
      simp only [g1, g3, g4, g5, g6, cond_true, decide_true, if_true, true_and, ne_eq, hne, not_false_eq_true]
      by_cases hg : g = 1
      · by_cases hs : 0 < s.length
        · have q1 : decide (0 < ((s.length : Nat) : Int)) = true := decide_eq_true (by omega)
          have q2 : slP 0 1 s.length = true := slP_of (by omega)
          have q3 : slP 1 ((s.length : Nat) : Int) s.length = true := slP_of (by omega)
          by_cases hc : 0 < w64 (cr + mgetD (Sh.i .i64) t ys 0)
          · refine ⟨1, H.length - 1, H, (mclkD (Sh.i .i64) (w64 (t + D)) c (mdelD (Sh.i .i64) t xs)), (mclkD (Sh.i .i64) (w64 (t + D)) c2 ys), by omega, by simp, rfl, ?_⟩
            rw [if_pos ⟨hg, hs, hc⟩]
            simp only [hg, decide_true, cond_true, q1, q2, q3, decide_eq_true hc]
            try rfl
          · refine ⟨1, H.length - 1, H, c, (mclkD (Sh.i .i64) (w64 (t + D)) c2 ys), by omega, by simp, rfl, ?_⟩
            rw [if_neg (fun h => hc h.2.2)]
            simp only [hg, decide_true, cond_true, q1, decide_eq_false hc, cond_false]
            try rfl
        · have q1 : decide (0 < ((s.length : Nat) : Int)) = false := decide_eq_false (by omega)
          refine ⟨1, H.length - 1, H, c, (mclkD (Sh.i .i64) (w64 (t + D)) c2 ys), by omega, by simp, rfl, ?_⟩
          rw [if_neg (fun h => hs h.2.1)]
          simp only [hg, decide_true, cond_true, q1, cond_false]
          try rfl
      · refine ⟨1, H.length - 1, H, c, (mclkD (Sh.i .i64) (w64 (t + D)) c2 ys), by omega, by simp, rfl, ?_⟩
        rw [if_neg (fun h => hg h.1)]
        simp only [decide_eq_false hg, cond_false]
        try rfl
    · have hne : H = [] := List.eq_nil_of_length_eq_zero (by omega)
      subst hne
      simp only [List.length_nil, Int.natCast_zero, decide_true, cond_true, Int.lt_irrefl, decide_false, cond_false, if_true, true_and, ne_eq, not_true, if_false, Nat.lt_irrefl]
      by_cases hg : g = 1
      · by_cases hs : 0 < s.length
        · have q1 : decide (0 < ((s.length : Nat) : Int)) = true := decide_eq_true (by omega)
          have q2 : slP 0 1 s.length = true := slP_of (by omega)
          have q3 : slP 1 ((s.length : Nat) : Int) s.length = true := slP_of (by omega)
          by_cases hc : 0 < w64 (cr + mgetD (Sh.i .i64) t ys 0)
          · refine ⟨0, 0, [], (mclkD (Sh.i .i64) (w64 (t + D)) c (mdelD (Sh.i .i64) t xs)), c2, by simp, by simp, rfl, ?_⟩
            rw [if_pos ⟨hg, hs, hc⟩]
            simp only [hg, decide_true, cond_true, q1, q2, q3, decide_eq_true hc]
            try rfl
          · refine ⟨0, 0, [], c, c2, by simp, by simp, rfl, ?_⟩
            rw [if_neg (fun h => hc h.2.2)]
            simp only [hg, decide_true, cond_true, q1, decide_eq_false hc, cond_false]
            try rfl
        · have q1 : decide (0 < ((s.length : Nat) : Int)) = false := decide_eq_false (by omega)
          refine ⟨0, 0, [], c, c2, by simp, by simp, rfl, ?_⟩
          rw [if_neg (fun h => hs h.2.1)]
          simp only [hg, decide_true, cond_true, q1, cond_false]
          try rfl
      · refine ⟨0, 0, [], c, c2, by simp, by simp, rfl, ?_⟩
        rw [if_neg (fun h => hg h.1)]
        simp only [decide_eq_false hg, cond_false]
        try rfl
  · simp only [decide_eq_false hw, cond_false, hw, if_false, false_and]
    by_cases hg : g = 1
    · by_cases hs : 0 < s.length
      · have q1 : decide (0 < ((s.length : Nat) : Int)) = true := decide_eq_true (by omega)
        have q2 : slP 0 1 s.length = true := slP_of (by omega)
        have q3 : slP 1 ((s.length : Nat) : Int) s.length = true := slP_of (by omega)
        by_cases hc : 0 < w64 (cr + mgetD (Sh.i .i64) t ys 0)
        · refine ⟨0, H.length, H, (mclkD (Sh.i .i64) (w64 (t + D)) c (mdelD (Sh.i .i64) t xs)), c2, by omega, by simp, rfl, ?_⟩
          rw [if_pos ⟨hg, hs, hc⟩]
          simp only [hg, decide_true, cond_true, q1, q2, q3, decide_eq_true hc]
          try rfl
        · refine ⟨0, H.length, H, c, c2, by omega, by simp, rfl, ?_⟩
          rw [if_neg (fun h => hc h.2.2)]
          simp only [hg, decide_true, cond_true, q1, decide_eq_false hc, cond_false]
          try rfl
      · have q1 : decide (0 < ((s.length : Nat) : Int)) = false := decide_eq_false (by omega)
        refine ⟨0, H.length, H, c, c2, by omega, by simp, rfl, ?_⟩
        rw [if_neg (fun h => hs h.2.1)]
        simp only [hg, decide_true, cond_true, q1, cond_false]
        try rfl
    · refine ⟨0, H.length, H, c, c2, by omega, by simp, rfl, ?_⟩
      rw [if_neg (fun h => hg h.1)]
      simp only [decide_eq_false hg, cond_false]
      try rfl
def mgI {α : Type} (t : Int) (xs : List (Int × Nat × α)) (z : α) : α := mgetD (Sh.i .i64) t xs z
def mdI {α : Type} (t : Int) (xs : List (Int × Nat × α)) : List (Int × Nat × α) := mdelD (Sh.i .i64) t xs
def mpI {α : Type} (t : Int) (y : α) (c : Nat) (xs : List (Int × Nat × α)) : List (Int × Nat × α) := mputD (Sh.i .i64) t y c xs
theorem mgI_prj {α : Type} (t : Int) (z : α) (xs : List (Int × Nat × α)) : mgI t xs z = lkI t z (prj' xs) := mget_prj t z xs
theorem mdI_prj {α : Type} (t : Int) (xs : List (Int × Nat × α)) : prj' (mdI t xs) = delI t (prj' xs) := mdel_prj t xs
theorem mpI_prj {α : Type} (t : Int) (y : α) (c : Nat) (xs : List (Int × Nat × α)) : prj' (mpI t y c xs) = putI t y (prj' xs) := mput_prj t y c xs
theorem tick_eqI (N : Nat) {t g w cr D : Int} {s : List Int} {off len : Nat} {arr : List Int} {c : Nat} {xs : List (Int × Nat × (List Int))} {c2 : Nat} {ys : List (Int × Nat × Int)} (hoff : off + len = arr.length) (hlen : (arr.drop off ++ mgI t xs []).length ≤ 1000000)
    (k : Int → Int → List Int → List Int → Int → Int → List Int → Nat → Nat → List Int → Nat → (List (Int × Nat × (List Int))) → Nat → (List (Int × Nat × Int)) → Option R) (harr : arr.length ≤ 1000000) :
    ∃ (off' len' : Nat) (arr' : List Int) (c' : Nat) (c2' : Nat),
      off' + len' = arr'.length ∧ arr'.length ≤ (arr.drop off ++ mgI t xs []).length ∧
      arr'.drop off' = (if w = 1 then (arr.drop off ++ mgI t xs []).drop 1 else arr.drop off ++ mgI t xs []) ∧
      queues_link_tick_v1 N t g w cr D s off len arr c xs c2 ys k =
        if g = 1 ∧ 0 < s.length ∧ 0 < w64 (cr + mgI t ys 0) then
          k (w64 (w64 (cr + mgI t ys 0) - 1)) (((mpI (w64 (t + D)) (s.take 1) c (mdI t xs)).length : Nat) : Int) (arr'.drop off') (if w = 1 then (arr.drop off ++ mgI t xs []).take 1 else []) (w64 (w64 (cr + mgI t ys 0) - 1)) D (s.drop 1) off' len' arr' c' (mpI (w64 (t + D)) (s.take 1) c (mdI t xs)) c2' (if w = 1 ∧ arr.drop off ++ mgI t xs [] ≠ [] then mpI (w64 (t + D)) (w64 (mgI (w64 (t + D)) ys 0 + 1)) c2 ys else ys)
        else k (w64 (cr + mgI t ys 0)) (((mdI t xs).length : Nat) : Int) (arr'.drop off') (if w = 1 then (arr.drop off ++ mgI t xs []).take 1 else []) (w64 (cr + mgI t ys 0)) D s off' len' arr' c' (mdI t xs) c2' (if w = 1 ∧ arr.drop off ++ mgI t xs [] ≠ [] then mpI (w64 (t + D)) (w64 (mgI (w64 (t + D)) ys 0 + 1)) c2 ys else ys) := tick_eq N hoff hlen k harr
theorem tick_eq2 (N : Nat) {t g w cr D : Int} {s : List Int} {off len : Nat} {arr : List Int} {c : Nat} {xs : List (Int × Nat × (List Int))} {c2 : Nat} {ys : List (Int × Nat × Int)} (hoff : off + len = arr.length) {H : List Int} (hH : H = arr.drop off ++ lkI t [] (prj' xs)) (hlen : H.length ≤ 1000000)
    (k : Int → Int → List Int → List Int → Int → Int → List Int → Nat → Nat → List Int → Nat → (List (Int × Nat × (List Int))) → Nat → (List (Int × Nat × Int)) → Option R) (harr : arr.length ≤ 1000000) {cr1 : Int} (hcr : cr1 = w64 (cr + lkI t 0 (prj' ys))) :
    ∃ (off' len' : Nat) (arr' : List Int) (c' : Nat) (xs' : List (Int × Nat × (List Int))) (c2' : Nat) (ys' : List (Int × Nat × Int)),
      off' + len' = arr'.length ∧ arr'.length ≤ H.length ∧ arr'.drop off' = (if w = 1 then H.drop 1 else H) ∧
      prj' xs' = (if g = 1 ∧ 0 < s.length ∧ 0 < cr1 then putI (w64 (t + D)) (s.take 1) (delI t (prj' xs)) else delI t (prj' xs)) ∧
      prj' ys' = (if w = 1 ∧ H ≠ [] then putI (w64 (t + D)) (w64 (lkI (w64 (t + D)) 0 (prj' ys) + 1)) (prj' ys) else prj' ys) ∧
      queues_link_tick_v1 N t g w cr D s off len arr c xs c2 ys k =
        k (if g = 1 ∧ 0 < s.length ∧ 0 < cr1 then w64 (cr1 - 1) else cr1) ((xs'.length : Nat) : Int) (if w = 1 then H.drop 1 else H) (if w = 1 then H.take 1 else []) (if g = 1 ∧ 0 < s.length ∧ 0 < cr1 then w64 (cr1 - 1) else cr1) D (if g = 1 ∧ 0 < s.length ∧ 0 < cr1 then s.drop 1 else s) off' len' arr' c' xs' c2' ys' := by
  have hH' : arr.drop off ++ mgI t xs [] = H := by rw [mgI_prj, hH]
  have hc' : w64 (cr + mgI t ys 0) = cr1 := by rw [mgI_prj, hcr]
  obtain ⟨off', len', arr', c', c2', e1, e1', e2, e3⟩ := tick_eqI N (t := t) (g := g) (w := w) (cr := cr) (D := D) (s := s) (off := off) (len := len) (arr := arr) (c := c) (xs := xs) (c2 := c2) (ys := ys) hoff (by rw [hH']; exact hlen) k harr
  rw [hH'] at e1' e2
  have hy : ∃ ys', prj' ys' = (if w = 1 ∧ H ≠ [] then putI (w64 (t + D)) (w64 (lkI (w64 (t + D)) 0 (prj' ys) + 1)) (prj' ys) else prj' ys) ∧ ys' = (if w = 1 ∧ arr.drop off ++ mgI t xs [] ≠ [] then mpI (w64 (t + D)) (w64 (mgI (w64 (t + D)) ys 0 + 1)) c2 ys else ys) := by
    refine ⟨_, ?_, rfl⟩
    rw [hH']
    split
    · exact (mpI_prj _ _ _ _).trans (by rw [mgI_prj])
    · rfl
  obtain ⟨ys', hy1, hy2⟩ := hy
  rw [← hy2, hc', e2, hH'] at e3
  by_cases hcond : g = 1 ∧ 0 < s.length ∧ 0 < cr1
  · rw [if_pos hcond] at e3
    refine ⟨off', len', arr', c', mpI (w64 (t + D)) (s.take 1) c (mdI t xs), c2', ys', e1, e1', e2, ?_, hy1, ?_⟩
    · rw [if_pos hcond]; exact (mpI_prj _ _ _ _).trans (by rw [mdI_prj])
    · rw [if_pos hcond, if_pos hcond]; exact e3
  · rw [if_neg hcond] at e3
    refine ⟨off', len', arr', c', mdI t xs, c2', ys', e1, e1', e2, ?_, hy1, ?_⟩
    · rw [if_neg hcond]; exact mdI_prj _ _
    · rw [if_neg hcond, if_neg hcond]; exact e3
/-! ### What a link does -/
abbrev QP := Int × Int
abbrev QH := Int × Int × List Int × List Int
abbrev SP2 (L : List QP) : Prop := L.Pairwise fun p q => p.1 < q.1
def arrv (D t : Int) (L : List QP) : List QP := L.filter fun p => decide (p.1 + D = t)
def gone (D t : Int) (L : List QP) : List QP := L.filter fun p => decide (p.1 + D < t)
def left (D t : Int) (L : List QP) : List QP := L.filter fun p => decide (t ≤ p.1 + D)
def pend (D t : Int) (L : List QP) : List (Int × List Int) := (left D t L).map fun p => (p.1 + D, [p.2])
theorem lk_pend {D t : Int} : ∀ {L : List QP}, SP2 L → lkI t [] (pend D t L) = (arrv D t L).map (·.2)
  | [], _ => rfl
  | p :: r, h => by
    obtain ⟨h1, h2⟩ := List.pairwise_cons.1 h
    have ih := lk_pend (D := D) (t := t) h2
    unfold pend left arrv at ih ⊢
    rw [List.filter_cons, List.filter_cons]
    rcases Int.lt_trichotomy (p.1 + D) t with c | c | c
    · rw [if_neg (by simp; omega), if_neg (by simp; omega)]; exact ih
    · rw [if_pos (by simp; omega), if_pos (by simp; omega), List.map_cons, List.map_cons, lkI, if_pos c.symm]
      have : r.filter (fun p => decide (p.1 + D = t)) = [] := List.filter_eq_nil_iff.2 fun q hq => by have := h1 q hq; simp; omega
      rw [this]; rfl
    · rw [if_pos (by simp; omega), if_neg (by simp; omega), List.map_cons, lkI, if_neg (by omega)]; exact ih
theorem del_pend {D t : Int} : ∀ {L : List QP}, SP2 L → delI t (pend D t L) = pend D (t + 1) L
  | [], _ => rfl
  | p :: r, h => by
    obtain ⟨h1, h2⟩ := List.pairwise_cons.1 h
    have ih := del_pend (D := D) (t := t) h2
    unfold pend left at ih ⊢
    rw [List.filter_cons, List.filter_cons]
    rcases Int.lt_trichotomy (p.1 + D) t with c | c | c
    · rw [if_neg (by simp; omega), if_neg (by simp; omega)]; exact ih
    · rw [if_pos (by simp; omega), if_neg (by simp; omega), List.map_cons, delI, if_pos c.symm]
      congr 1
      refine List.filter_congr fun q hq => ?_
      have := h1 q hq
      rw [decide_eq_decide]; omega
    · rw [if_pos (by simp; omega), if_pos (by simp; omega), List.map_cons, List.map_cons, delI, if_neg (by omega), ih]
theorem gone_succ {D t : Int} : ∀ {L : List QP}, SP2 L → gone D (t + 1) L = gone D t L ++ arrv D t L
  | [], _ => rfl
  | p :: r, h => by
    obtain ⟨h1, h2⟩ := List.pairwise_cons.1 h
    have ih := gone_succ (D := D) (t := t) h2
    unfold gone arrv at ih ⊢
    rw [List.filter_cons, List.filter_cons, List.filter_cons]
    rcases Int.lt_trichotomy (p.1 + D) t with c | c | c
    · rw [if_pos (by simp; omega), if_pos (by simp; omega), if_neg (by simp; omega), ih, List.cons_append]
    · have e1 : r.filter (fun p => decide (p.1 + D = t)) = [] := List.filter_eq_nil_iff.2 fun q hq => by have := h1 q hq; simp; omega
      have e2 : r.filter (fun p => decide (p.1 + D < t)) = [] := List.filter_eq_nil_iff.2 fun q hq => by have := h1 q hq; simp; omega
      rw [if_pos (by simp; omega), if_neg (by simp; omega), if_pos (by simp; omega), ih, e1, e2]; rfl
    · rw [if_neg (by simp; omega), if_neg (by simp; omega), if_neg (by simp; omega), ih]
theorem gone_take {D t : Int} : ∀ {L : List QP}, SP2 L → gone D t L = L.take (gone D t L).length
  | [], _ => rfl
  | p :: r, h => by
    obtain ⟨h1, h2⟩ := List.pairwise_cons.1 h
    have ih := gone_take (D := D) (t := t) h2
    unfold gone at ih ⊢
    rw [List.filter_cons]
    by_cases c : p.1 + D < t
    · rw [if_pos (by simp; omega), List.length_cons, List.take_succ_cons, ← ih]
    · have e2 : r.filter (fun p => decide (p.1 + D < t)) = [] := List.filter_eq_nil_iff.2 fun q hq => by have := h1 q hq; simp; omega
      rw [if_neg (by simp; omega), e2]; rfl
theorem left_succ {D t : Int} : ∀ (L : List QP), (left D t L).length = (arrv D t L).length + (left D (t + 1) L).length
  | [] => rfl
  | p :: r => by
    have ih := left_succ (D := D) (t := t) r
    unfold left arrv at ih ⊢
    rw [List.filter_cons, List.filter_cons, List.filter_cons]
    rcases Int.lt_trichotomy (p.1 + D) t with c | c | c
    · rw [if_neg (by simp; omega), if_neg (by simp; omega), if_neg (by simp; omega), ih]
    · rw [if_pos (by simp; omega), if_pos (by simp; omega), if_neg (by simp; omega), List.length_cons, List.length_cons, ih]; omega
    · rw [if_pos (by simp; omega), if_neg (by simp; omega), if_pos (by simp; omega), List.length_cons, List.length_cons, ih]; omega
theorem gone_left {D t : Int} : ∀ (L : List QP), (gone D t L).length + (left D t L).length = L.length
  | [] => rfl
  | p :: r => by
    have ih := gone_left (D := D) (t := t) r
    unfold left gone at ih ⊢
    rw [List.filter_cons, List.filter_cons, List.length_cons]
    by_cases c : p.1 + D < t
    · rw [if_pos (by simp; omega), if_neg (by simp; omega), List.length_cons]; omega
    · rw [if_neg (by simp; omega), if_pos (by simp; omega), List.length_cons]; omega
theorem zip_sp : ∀ {a b : List Int}, a.Pairwise (· < ·) → SP2 (a.zip b)
  | [], _, _ => by simp [SP2]
  | _ :: _, [], _ => by simp [SP2]
  | x :: a, y :: b, h => by
    obtain ⟨h1, h2⟩ := List.pairwise_cons.1 h
    rw [List.zip_cons_cons]
    refine List.pairwise_cons.2 ⟨fun q hq => ?_, zip_sp h2⟩
    exact h1 _ (List.of_mem_zip (show (q.1, q.2) ∈ a.zip b from hq)).1
theorem zip_snoc : ∀ {a b : List Int} (h : a.length < b.length) (t : Int), (a ++ [t]).zip b = a.zip b ++ [(t, b[a.length])]
  | [], y :: b, _, t => by simp
  | x :: a, y :: b, h, t => by
    have := zip_snoc (a := a) (b := b) (by simpa using h) t
    simp only [List.cons_append, List.zip_cons_cons, this]
    simp
theorem zip_snd : ∀ (a b : List Int), a.length ≤ b.length → (a.zip b).map (·.2) = b.take a.length
  | [], b, _ => by simp
  | x :: a, [], h => by simp at h
  | x :: a, y :: b, h => by simp [zip_snd a b (by simpa using h)]
/-! credits that come back -/
def due (D t : Int) (l : List Int) : List Int := l.filter fun x => decide (x + D = t)
def late (D t : Int) (l : List Int) : List Int := l.filter fun x => decide (t ≤ x + D)
theorem late_succ {D t : Int} : ∀ (l : List Int), (late D t l).length = (due D t l).length + (late D (t + 1) l).length
  | [] => rfl
  | p :: r => by
    have ih := late_succ (D := D) (t := t) r
    unfold late due at ih ⊢
    rw [List.filter_cons, List.filter_cons, List.filter_cons]
    rcases Int.lt_trichotomy (p + D) t with c | c | c
    · rw [if_neg (by simp; omega), if_neg (by simp; omega), if_neg (by simp; omega), ih]
    · rw [if_pos (by simp; omega), if_pos (by simp; omega), if_neg (by simp; omega), List.length_cons, List.length_cons, ih]; omega
    · rw [if_pos (by simp; omega), if_neg (by simp; omega), if_pos (by simp; omega), List.length_cons, List.length_cons, ih]; omega
def bk (D : Int) (l : List Int) : List (Int × Int) := l.map fun x => (x + D, 1)
theorem lk_bk {D t : Int} : ∀ {l : List Int}, l.Pairwise (· < ·) → lkI t 0 (bk D l) = ((due D t l).length : Int)
  | [], _ => rfl
  | p :: r, h => by
    obtain ⟨h1, h2⟩ := List.pairwise_cons.1 h
    have ih := lk_bk (D := D) (t := t) h2
    unfold bk due at ih ⊢
    rw [List.map_cons, lkI, List.filter_cons]
    by_cases c : t = p + D
    · have e1 : r.filter (fun x => decide (x + D = t)) = [] := List.filter_eq_nil_iff.2 fun q hq => by have := h1 q hq; simp; omega
      rw [if_pos c, if_pos (by simp; omega), e1]; rfl
    · rw [if_neg c, if_neg (by simp; omega)]; exact ih
theorem lkI_none {α : Type} {t : Int} {z : α} : ∀ {l : List (Int × α)}, (∀ p ∈ l, p.1 ≠ t) → lkI t z l = z
  | [], _ => rfl
  | (k, v) :: r, h => by
    rw [lkI, if_neg (fun e => h (k, v) (by simp) e.symm)]
    exact lkI_none fun p hp => h p (by simp [hp])
theorem putI_none {α : Type} {t : Int} {y : α} : ∀ {l : List (Int × α)}, (∀ p ∈ l, p.1 ≠ t) → putI t y l = l ++ [(t, y)]
  | [], _ => rfl
  | (k, v) :: r, h => by
    rw [putI, if_neg (fun e => h (k, v) (by simp) e.symm), putI_none fun p hp => h p (by simp [hp])]; rfl
/-! ### The states -/
structure LS where
  cr : Int
  sent : List Int
  back : List Int
  arr : Int
  held : List Int
section
variable (D : Int) (send : List Int) (t : Int) (x : QP) (s : LS)
def LS.L : List QP := s.sent.zip send
def h1 : List Int := s.held ++ (arrv D t (s.L send)).map (·.2)
def c1 : Int := s.cr + ((due D t s.back).length : Int)
def tks : Bool := decide (x.2 = 1 ∧ h1 D send t s ≠ [])
def sds : Bool := decide (x.1 = 1 ∧ s.sent.length < send.length ∧ 0 < c1 D t s)
def took : List Int := if x.2 = 1 then (h1 D send t s).take 1 else []
def nxt : LS := ⟨if sds D send t x s = true then c1 D t s - 1 else c1 D t s, if sds D send t x s = true then s.sent ++ [t] else s.sent, if tks D send t x s = true then s.back ++ [t] else s.back,
  s.arr + ((arrv D t (s.L send)).length : Int), if x.2 = 1 then (h1 D send t s).drop 1 else h1 D send t s⟩
def outp : QH := ((nxt D send t x s).cr, ((nxt D send t x s).sent.length : Int) - (nxt D send t x s).arr, (nxt D send t x s).held, took D send t x s)
end
def runL' (D : Int) (send : List Int) : Int → LS → List QP → List QH
  | _, _, [] => []
  | t, s, x :: r => outp D send t x s :: runL' D send (t + 1) (nxt D send t x s) r
structure IV (D C : Int) (send : List Int) (t : Nat) (s : LS) (tkn : List Int) : Prop where
  ss : s.sent.Pairwise (· < ·)
  sb : ∀ y ∈ s.sent, 0 ≤ y ∧ y < t
  sl : s.sent.length ≤ send.length
  st : s.sent.length ≤ t
  bs : s.back.Pairwise (· < ·)
  bb : ∀ y ∈ s.back, 0 ≤ y ∧ y < t
  bt : s.back.length ≤ t
  arr : s.arr = ((gone D t (s.L send)).length : Int)
  cons : s.cr + ((left D t (s.L send)).length : Int) + (s.held.length : Int) + ((late D t s.back).length : Int) = C
  cr0 : 0 ≤ s.cr
  tk : tkn ++ s.held = (gone D t (s.L send)).map (·.2)
theorem pw_snoc {l : List Int} {t : Int} (h : l.Pairwise (· < ·)) (hb : ∀ y ∈ l, y < t) : (l ++ [t]).Pairwise (· < ·) := by
  refine List.pairwise_append.2 ⟨h, by simp, fun a ha b hb' => ?_⟩
  rw [List.mem_singleton.1 hb']; exact hb a ha
theorem IV.next {D C : Int} (hD : 1 ≤ D) {send : List Int} {t : Nat} {s : LS} {tkn : List Int} (h : IV D C send t s tkn) (x : QP) : IV D C send (t + 1) (nxt D send t x s) (tkn ++ took D send t x s) := by
  have hsp : SP2 (s.L send) := zip_sp h.ss
  have hL : (nxt D send t x s).L send = s.L send ++ (if hs : sds D send t x s = true then [((t : Int), send[s.sent.length]'((of_decide_eq_true hs).2.1))] else []) := by
    unfold LS.L nxt
    by_cases hs : sds D send t x s = true
    · rw [dif_pos hs]; simp only [hs, if_true]
      exact zip_snoc (of_decide_eq_true hs).2.1 t
    · rw [dif_neg hs]; simp only [hs]
      simp
  have hnew : ∀ p ∈ (if hs : sds D send t x s = true then [((t : Int), send[s.sent.length]'((of_decide_eq_true hs).2.1))] else []), p.1 = (t : Int) := by
    intro p hp
    split at hp
    · rw [List.mem_singleton.1 hp]
    · cases hp
  have hnlen : (if hs : sds D send t x s = true then [((t : Int), send[s.sent.length]'((of_decide_eq_true hs).2.1))] else []).length = if sds D send t x s = true then 1 else 0 := by split <;> rfl
  generalize (if hs : sds D send t x s = true then [((t : Int), send[s.sent.length]'((of_decide_eq_true hs).2.1))] else []) = nw at hL hnew hnlen
  have hg : gone D ((t + 1 : Nat) : Int) ((nxt D send t x s).L send) = gone D t (s.L send) ++ arrv D t (s.L send) := by
    rw [hL, show (((t + 1 : Nat)) : Int) = (t : Int) + 1 by omega, ← gone_succ hsp]
    unfold gone
    rw [List.filter_append]
    have : nw.filter (fun p => decide (p.1 + D < (t : Int) + 1)) = [] := List.filter_eq_nil_iff.2 fun q hq => by have := hnew q hq; simp; omega
    rw [this, List.append_nil]
  have hl : left D ((t + 1 : Nat) : Int) ((nxt D send t x s).L send) = left D ((t : Int) + 1) (s.L send) ++ nw := by
    rw [hL, show (((t + 1 : Nat)) : Int) = (t : Int) + 1 by omega]
    unfold left
    rw [List.filter_append]
    congr 1
    exact List.filter_eq_self.2 fun q hq => by have := hnew q hq; simp; omega
  have hh : (nxt D send t x s).held = if x.2 = 1 then (h1 D send t s).drop 1 else h1 D send t s := rfl
  have hlen1 : (h1 D send t s).length = s.held.length + (arrv D t (s.L send)).length := by unfold h1; simp
  have hcr : (nxt D send t x s).cr = if sds D send t x s = true then c1 D t s - 1 else c1 D t s := rfl
  have hback : (nxt D send t x s).back = if tks D send t x s = true then s.back ++ [(t : Int)] else s.back := rfl
  have hsent : (nxt D send t x s).sent = if sds D send t x s = true then s.sent ++ [(t : Int)] else s.sent := rfl
  have hlate : (late D ((t + 1 : Nat) : Int) (nxt D send t x s).back).length = (late D ((t : Int) + 1) s.back).length + if tks D send t x s = true then 1 else 0 := by
    rw [hback, show (((t + 1 : Nat)) : Int) = (t : Int) + 1 by omega]
    split
    · unfold late
      rw [List.filter_append, List.length_append]
      congr 1
      rw [List.filter_cons, if_pos (by simp; omega)]; rfl
    · rfl
  have hls := left_succ (D := D) (t := t) (s.L send)
  have hlt := late_succ (D := D) (t := t) s.back
  have hc1 : c1 D t s = s.cr + ((due D t s.back).length : Int) := rfl
  refine ⟨?_, ?_, ?_, ?_, ?_, ?_, ?_, ?_, ?_, ?_, ?_⟩
  · rw [hsent]; split
    · exact pw_snoc h.ss fun y hy => (h.sb y hy).2
    · exact h.ss
  · rw [hsent]; intro y hy
    split at hy
    · rcases List.mem_append.1 hy with hy | hy
      · have := h.sb y hy; omega
      · rw [List.mem_singleton.1 hy]; omega
    · have := h.sb y hy; omega
  · rw [hsent]; split
    · rename_i hs; have := (of_decide_eq_true hs).2.1; simp; omega
    · exact h.sl
  · have := h.st
    rw [hsent]; split
    · simp; omega
    · omega
  · rw [hback]; split
    · exact pw_snoc h.bs fun y hy => (h.bb y hy).2
    · exact h.bs
  · rw [hback]; intro y hy
    split at hy
    · rcases List.mem_append.1 hy with hy | hy
      · have := h.bb y hy; omega
      · rw [List.mem_singleton.1 hy]; omega
    · have := h.bb y hy; omega
  · have := h.bt
    rw [hback]; split
    · simp; omega
    · omega
  · rw [hg, List.length_append]
    show s.arr + _ = _
    rw [h.arr]; omega
  · have hcons := h.cons
    have hlh : (nxt D send t x s).held.length = (h1 D send t s).length - if tks D send t x s = true then 1 else 0 := by
      rw [hh]
      unfold tks
      by_cases hx : x.2 = 1
      · rw [if_pos hx, List.length_drop]
        by_cases hne : h1 D send t s = []
        · simp [hne]
        · rw [if_pos (by simp [hx, hne])]
      · rw [if_neg hx, if_neg (by simp [hx])]; rfl
    have htk : tks D send t x s = true → 0 < (h1 D send t s).length := fun hk => List.length_pos_iff.2 (of_decide_eq_true hk).2
    rw [hl, List.length_append, hnlen, hlate, hcr, hlh, hc1]
    split
    · rename_i hs
      split
      · rename_i hk; have := htk hk; omega
      · omega
    · split
      · rename_i hk; have := htk hk; omega
      · omega
  · have := h.cr0
    rw [hcr]; split
    · rename_i hs; have := (of_decide_eq_true hs).2.2; omega
    · rw [hc1]; omega
  · rw [hg, List.map_append, ← h.tk, hh]
    unfold took
    split
    · rw [List.append_assoc, List.take_append_drop]; unfold h1; rw [List.append_assoc]
    · rw [List.append_nil]; unfold h1; rw [List.append_assoc]
theorem IV.zero {D C : Int} (hC : 0 ≤ C) (send : List Int) : IV D C send 0 ⟨C, [], [], 0, []⟩ [] := by
  refine ⟨by simp, by simp, by simp, by simp, by simp, by simp, by simp, rfl, ?_, hC, rfl⟩
  show C + 0 + 0 + 0 = C
  omega
/-! ### The program's run -/
theorem LS_take {s : LS} {send : List Int} (h : s.sent.length < send.length) : (send.drop s.sent.length).take 1 = [send[s.sent.length]] := by
  rw [List.drop_eq_getElem_cons h]; rfl
/-- What the program keeps. -/
structure PRq (D : Int) (send : List Int) (t : Nat) (s : LS) (rest : List Int) (off len : Nat) (arr : List Int) (xs : List (Int × Nat × (List Int))) (ys : List (Int × Nat × Int)) : Prop where
  pr : rest = send.drop s.sent.length
  po : off + len = arr.length
  ph : arr.drop off = s.held
  px : prj' xs = pend D t (s.L send)
  py : prj' ys = bk D s.back
theorem IV.lens {D C : Int} {send : List Int} {t : Nat} {s : LS} {tkn : List Int} (h : IV D C send t s tkn) (hC : C ≤ 8) : s.cr ≤ 8 ∧ (left D t (s.L send)).length ≤ 8 ∧ s.held.length ≤ 8 ∧ (late D t s.back).length ≤ 8 := by
  have h1 := h.cons
  have h2 := h.cr0
  omega
theorem tick_run (N : Nat) {D C : Int} (hD : 1 ≤ D) (hD8 : D ≤ 8) (hC : C ≤ 8) {send : List Int} (hsend : send.length ≤ 100) {t : Nat} (ht : t ≤ 100) {s : LS} {tkn : List Int} (hv : IV D C send t s tkn) (x : QP) {rest : List Int} {off len : Nat} {arr : List Int} {c : Nat} {xs : List (Int × Nat × (List Int))} {c2 : Nat} {ys : List (Int × Nat × Int)} (hp : PRq D send t s rest off len arr xs ys) (ha : arr.length ≤ 1000)
    (k : Int → Int → List Int → List Int → Int → Int → List Int → Nat → Nat → List Int → Nat → (List (Int × Nat × (List Int))) → Nat → (List (Int × Nat × Int)) → Option R) :
    ∃ (rest' : List Int) (off' len' : Nat) (arr' : List Int) (c' : Nat) (xs' : List (Int × Nat × (List Int))) (c2' : Nat) (ys' : List (Int × Nat × Int)),
      PRq D send (t + 1) (nxt D send t x s) rest' off' len' arr' xs' ys' ∧ arr'.length ≤ 1000 ∧
      queues_link_tick_v1 N t x.1 x.2 s.cr D rest off len arr c xs c2 ys k = k (outp D send t x s).1 (outp D send t x s).2.1 (outp D send t x s).2.2.1 (outp D send t x s).2.2.2 (nxt D send t x s).cr D rest' off' len' arr' c' xs' c2' ys' := by
  have hsp : SP2 (s.L send) := zip_sp hv.ss
  have hlens := hv.lens hC
  have hg1 : lkI (t : Int) [] (prj' xs) = (arrv D t (s.L send)).map (·.2) := by rw [hp.px, lk_pend hsp]
  have hg2 : lkI (t : Int) 0 (prj' ys) = ((due D t s.back).length : Int) := by rw [hp.py, lk_bk hv.bs]
  have hls := left_succ (D := D) (t := t) (s.L send)
  have hlt := late_succ (D := D) (t := t) s.back
  have hh1 : h1 D send t s = arr.drop off ++ lkI (t : Int) [] (prj' xs) := by rw [hp.ph, hg1]; rfl
  have hh1l : (h1 D send t s).length ≤ 16 := by unfold h1; simp; omega
  have hcons := hv.cons
  have hcr0 := hv.cr0
  have hc1 : c1 D t s = w64 (s.cr + lkI (t : Int) 0 (prj' ys)) := by rw [hg2, w64_id (by omega) (by omega)]; rfl
  have hc1b : 0 ≤ c1 D t s ∧ c1 D t s ≤ 16 := by unfold c1; omega
  have htD : w64 ((t : Int) + D) = (t : Int) + D := w64_id (by omega) (by omega)
  have hnb : ∀ p ∈ bk D s.back, p.1 ≠ (t : Int) + D := by
    intro p hp2
    obtain ⟨y, hy, rfl⟩ := List.mem_map.1 hp2
    have := hv.bb y hy
    show y + D ≠ _
    omega
  have hdel : delI (t : Int) (prj' xs) = pend D ((t : Int) + 1) (s.L send) := by rw [hp.px, del_pend hsp]
  have hnx : ∀ p ∈ pend D ((t : Int) + 1) (s.L send), p.1 ≠ (t : Int) + D := by
    intro p hp2
    unfold pend left at hp2
    obtain ⟨q, hq, rfl⟩ := List.mem_map.1 hp2
    have hq2 := (List.mem_filter.1 hq).1
    have := hv.sb q.1 (List.of_mem_zip (show (q.1, q.2) ∈ s.sent.zip send from hq2)).1
    show q.1 + D ≠ _
    omega
  obtain ⟨off', len', arr', c', xs', c2', ys', e1, e1', e2, ex, ey, e3⟩ := tick_eq2 N (t := t) (g := x.1) (w := x.2) (cr := s.cr) (D := D) (s := rest) (off := off) (len := len) (arr := arr) (c := c) (xs := xs) (c2 := c2) (ys := ys) hp.po hh1 (by omega) k (by omega) hc1
  have hrl : rest.length = send.length - s.sent.length := by rw [hp.pr, List.length_drop]
  have hsl := hv.sl
  have hcast : ((t + 1 : Nat) : Int) = (t : Int) + 1 := by omega
  have hheld : (if x.2 = 1 then (h1 D send t s).drop 1 else h1 D send t s) = (nxt D send t x s).held := rfl
  have hway : ((nxt D send t x s).sent.length : Int) - (nxt D send t x s).arr = ((left D ((t : Int) + 1) ((nxt D send t x s).L send)).length : Int) := by
    have hn := (hv.next hD x)
    have g := gone_left (D := D) (t := ((t + 1 : Nat) : Int)) ((nxt D send t x s).L send)
    have a := hn.arr
    have zl : ((nxt D send t x s).L send).length = (nxt D send t x s).sent.length := by
      unfold LS.L; rw [List.length_zip]; have := hn.sl; omega
    rw [hcast] at g a
    omega
  have hys : prj' ys' = bk D (nxt D send t x s).back := by
    rw [ey, hp.py]
    show _ = bk D (if tks D send t x s = true then s.back ++ [(t : Int)] else s.back)
    unfold tks
    by_cases hk : x.2 = 1 ∧ h1 D send t s ≠ []
    · rw [if_pos hk, if_pos (decide_eq_true hk), htD, lkI_none hnb, show w64 (0 + 1) = 1 from rfl, putI_none hnb]
      unfold bk; rw [List.map_append]; rfl
    · rw [if_neg hk, if_neg (by simpa using hk)]
  have hcond : (x.1 = 1 ∧ 0 < rest.length ∧ 0 < c1 D t s) ↔ sds D send t x s = true := by
    unfold sds
    rw [decide_eq_true_iff]
    constructor
    · rintro ⟨a, b, c⟩; exact ⟨a, by omega, c⟩
    · rintro ⟨a, b, c⟩; exact ⟨a, by omega, c⟩
  have hxs : prj' xs' = pend D ((t : Int) + 1) ((nxt D send t x s).L send) := by
    rw [ex, hdel]
    by_cases hs : sds D send t x s = true
    · have hs' := of_decide_eq_true hs
      rw [if_pos (hcond.2 hs), htD, putI_none hnx, hp.pr, LS_take hs'.2.1]
      have hL : (nxt D send t x s).L send = s.L send ++ [((t : Int), send[s.sent.length]'hs'.2.1)] := by
        unfold LS.L nxt; simp only [hs, if_true]; exact zip_snoc hs'.2.1 t
      rw [hL]
      unfold pend left
      rw [List.filter_append, List.map_append]
      congr 1
      rw [List.filter_cons, if_pos (by simp; omega)]; rfl
    · rw [if_neg (fun h => hs (hcond.1 h))]
      have hL : (nxt D send t x s).L send = s.L send := by unfold LS.L nxt; simp only [hs]; rfl
      rw [hL]
  have hcr : (if x.1 = 1 ∧ 0 < rest.length ∧ 0 < c1 D t s then w64 (c1 D t s - 1) else c1 D t s) = (nxt D send t x s).cr := by
    show _ = if sds D send t x s = true then c1 D t s - 1 else c1 D t s
    by_cases hs : sds D send t x s = true
    · rw [if_pos (hcond.2 hs), if_pos hs, w64_id (by omega) (by omega)]
    · rw [if_neg (fun h => hs (hcond.1 h)), if_neg hs]
  have hl : ((xs'.length : Nat) : Int) = ((nxt D send t x s).sent.length : Int) - (nxt D send t x s).arr := by
    rw [hway, ← prj_len, hxs]; unfold pend; rw [List.length_map]
  refine ⟨if x.1 = 1 ∧ 0 < rest.length ∧ 0 < c1 D t s then rest.drop 1 else rest, off', len', arr', c', xs', c2', ys', ⟨?_, e1, e2.trans hheld, by rw [hcast]; exact hxs, hys⟩, by omega, ?_⟩
  case refine_2 => rw [e3, hcr, hl]; rfl
  · show _ = send.drop (if sds D send t x s = true then s.sent ++ [(t : Int)] else s.sent).length
    by_cases hs : sds D send t x s = true
    · rw [if_pos (hcond.2 hs), if_pos hs, hp.pr, List.drop_drop, List.length_append]; rfl
    · rw [if_neg (fun h => hs (hcond.1 h)), if_neg hs, hp.pr]
/-! ### The whole run -/
theorem anyN_loop (N : Nat) (k0 : Int → Option R) (k1 : Option R) (g : Option R) (p : Int → Bool) (hp : ∀ x (k : Bool → Option R), queues_LinkRun_c1 N x k = k (p x)) (hk : ∀ i : Nat, k0 i = g) (l : List Int) (hl : l.length ≤ 1000000) : ∀ (n i : Nat), l.length < n + i → i ≤ l.length →
    slices_IndexFunc_Lint_int_v3_l0 N k0 k1 n l l.length i = if (l.drop i).any p then g else k1 := by
  intro n
  induction n with
  | zero => intro i h1 h2; omega
  | succ n ih =>
    intro i h1 h2
    rw [slices_IndexFunc_Lint_int_v3_l0]
    by_cases h : i < l.length
    · rw [cond_pos (by omega), at?_lt h, some_bind', hp, drop_cons h, List.any_cons]
      cases e : p l[i]
      · rw [cond_false, w64_succ (by omega), Bool.false_or]
        exact ih (i + 1) (by omega) (by omega)
      · rw [cond_true, hk]; simp
    · rw [cond_neg (by omega)]
      have : i = l.length := by omega
      subst this
      simp
theorem anyN_eq (N : Nat) (p : Int → Bool) (hp : ∀ x (k : Bool → Option R), queues_LinkRun_c1 N x k = k (p x)) (l : List Int) (hl : l.length ≤ 1000000) (hN : l.length < N) (k : Bool → Option R) :
    slices_ContainsFunc_Lint_int_v3 N l k = k (l.any p) := by
  unfold slices_ContainsFunc_Lint_int_v3 slices_IndexFunc_Lint_int_v3
  have := anyN_loop N (fun z4 => k (decide (0 ≤ z4))) (k (decide (0 ≤ (-1 : Int)))) (k true) p hp (fun i => by simp) l hl N 0 (by omega) (by omega)
  rw [Int.natCast_zero] at this
  rw [this, List.drop_zero]
  cases l.any p <;> simp
theorem anyT_loop (N : Nat) (k0 : Int → Option R) (k1 : Option R) (g : Option R) (p : QP → Bool) (hp : ∀ (x : QP) (k : Bool → Option R), queues_LinkRun_c2 N x.1 x.2 k = k (p x)) (hk : ∀ i : Nat, k0 i = g) (l : List QP) (hl : l.length ≤ 1000000) : ∀ (n i : Nat), l.length < n + i → i ≤ l.length →
    slices_IndexFunc_QueueTick_QueueTick_l0 N k0 k1 n l l.length i = if (l.drop i).any p then g else k1 := by
  intro n
  induction n with
  | zero => intro i h1 h2; omega
  | succ n ih =>
    intro i h1 h2
    rw [slices_IndexFunc_QueueTick_QueueTick_l0]
    by_cases h : i < l.length
    · rw [cond_pos (by omega), at?_lt h, some_bind', hp, drop_cons h, List.any_cons]
      cases e : p l[i]
      · rw [cond_false, w64_succ (by omega), Bool.false_or]
        exact ih (i + 1) (by omega) (by omega)
      · rw [cond_true, hk]; simp
    · rw [cond_neg (by omega)]
      have : i = l.length := by omega
      subst this
      simp
theorem anyT_eq (N : Nat) (p : QP → Bool) (hp : ∀ (x : QP) (k : Bool → Option R), queues_LinkRun_c2 N x.1 x.2 k = k (p x)) (l : List QP) (hl : l.length ≤ 1000000) (hN : l.length < N) (k : Bool → Option R) :
    slices_ContainsFunc_QueueTick_QueueTick N l k = k (l.any p) := by
  unfold slices_ContainsFunc_QueueTick_QueueTick slices_IndexFunc_QueueTick_QueueTick
  have := anyT_loop N (fun z4 => k (decide (0 ≤ z4))) (k (decide (0 ≤ (-1 : Int)))) (k true) p hp (fun i => by simp) l hl N 0 (by omega) (by omega)
  rw [Int.natCast_zero] at this
  rw [this, List.drop_zero]
  cases l.any p <;> simp
def okN (x : Int) : Bool := decide (0 ≤ x ∧ x ≤ 1000000)
def okT (q : QP) : Bool := decide (0 ≤ q.2 ∧ q.2 ≤ 1) && decide (0 ≤ q.1 ∧ q.1 ≤ 1)
theorem numC (N : Nat) (x : Int) (k : Bool → Option R) : queues_LinkRun_c1 N x k = k (!okN x) := by
  unfold queues_LinkRun_c1 queues_isNumber; rw [within_eq]; rfl
theorem tickC (N : Nat) (x : QP) (k : Bool → Option R) : queues_LinkRun_c2 N x.1 x.2 k = k (!okT x) := by
  unfold queues_LinkRun_c2 queues_isFlag okT
  rw [within_eq, within_eq]
  by_cases h : 0 ≤ x.2 ∧ x.2 ≤ 1
  · rw [decide_eq_true h]; rfl
  · rw [decide_eq_false h]; rfl
def lerr (C D : Int) (send : List Int) (ticks : List QP) : Int :=
  if ¬ ((0 ≤ C ∧ C ≤ 8) ∧ (1 ≤ D ∧ D ≤ 8)) then 2 else if 100 < send.length then 8 else if send.any (fun x => !okN x) = true then 2 else if 100 < ticks.length then 8 else if ticks.any (fun x => !okT x) = true then 2 else 0
theorem link_loop (N : Nat) {D C : Int} (hD : 1 ≤ D) (hD8 : D ≤ 8) (hC : C ≤ 8) {send : List Int} (hsend : send.length ≤ 100) {ticks : List QP} (hticks : ticks.length ≤ 100) (k0 : List QH → Option R) : ∀ (n t : Nat) (s : LS) (tkn : List Int) (rest : List Int) (off len : Nat) (arr : List Int) (c : Nat) (xs : List (Int × Nat × (List Int))) (c2 : Nat) (ys : List (Int × Nat × Int)) (out : List QH),
    ticks.length < n + t → t ≤ ticks.length → out.length = t → IV D C send t s tkn → PRq D send t s rest off len arr xs ys → arr.length ≤ 1000 →
    queues_LinkRun_l0 N k0 n ticks ticks.length t s.cr D rest off len arr c xs c2 ys out = k0 (out ++ runL' D send t s (ticks.drop t)) := by
  intro n
  induction n with
  | zero => intro t s tkn rest off len arr c xs c2 ys out h1 h2; omega
  | succ n ih =>
    intro t s tkn rest off len arr c xs c2 ys out h1 h2 ho hv hp ha
    rw [queues_LinkRun_l0]
    by_cases h : t < ticks.length
    · rw [cond_pos (by omega), at?_lt h, some_bind']
      obtain ⟨rest', off', len', arr', c', xs', c2', ys', e1, e2, e3⟩ := tick_run N hD hD8 hC hsend (show t ≤ 100 by omega) hv ticks[t] (c := c) (c2 := c2) hp ha (fun y2 y3 y4 y5 y6 y7 y8 y9 y10 y11 y12 y13 y14 y15 => (bif roomB (out.length + 1) 64 then (queues_LinkRun_l0 N k0 n ticks ticks.length (w64 (t + 1)) y6 y7 y8 y9 y10 y11 y12 y13 y14 y15 (out ++ [(y2, y3, y4, y5)])) else none))
      refine e3.trans ?_
      rw [roomB_of (by omega), cond_true, w64_succ (by omega), ih (t + 1) _ _ _ _ _ _ _ _ _ _ _ (by omega) (by omega) (by simp [ho]) (hv.next hD _) e1 e2, drop_cons h, List.append_assoc]
      rfl
    · have : t = ticks.length := by omega
      subst this
      rw [cond_neg (by omega)]; simp [runL']
def L0 (C : Int) : LS := ⟨C, [], [], 0, []⟩
theorem PRq_zero (C D : Int) (send : List Int) : PRq D send 0 (L0 C) send 0 0 [] [] [] := ⟨rfl, rfl, rfl, rfl, rfl⟩
theorem link_j0 {D C : Int} (hC0 : 0 ≤ C) (hC : C ≤ 8) (hD : 1 ≤ D) (hD8 : D ≤ 8) {send : List Int} (hsend : send.length ≤ 100) {ticks : List QP} (hticks : ticks.length ≤ 100) (k0 : Int → Option R) (k1 : Int → List QH → Option R) : queues_LinkRun_j0 2000 k0 k1 send ticks 0 C D = k1 0 (runL' D send 0 (L0 C) ticks) := by
  unfold queues_LinkRun_j0
  rw [cond_neg (by simp)]
  by_cases h : 0 < ticks.length
  · rw [cond_pos (by omega), show at? ticks 0 = some ticks[0] from at?_lt (n := 0) h, some_bind', tick_first]
    obtain ⟨rest', off', len', arr', c', xs', c2', ys', e1, e2, e3⟩ := tick_run 2000 hD hD8 hC hsend (show 0 ≤ 100 by omega) (IV.zero hC0 send) ticks[0] (c := 0) (c2 := 0) (PRq_zero C D send) (by simp) (fun y2 y3 y4 y5 y6 y7 y8 y9 y10 y11 y12 y13 y14 y15 => (queues_LinkRun_l0 2000 (fun z16 => (k1 0 z16)) 2000 ticks ((ticks.length : Nat) : Int) 1 y6 y7 y8 y9 y10 y11 y12 y13 y14 y15 [(y2, y3, y4, y5)]))
    refine e3.trans ?_
    have := link_loop 2000 hD hD8 hC hsend hticks (fun z16 => (k1 0 z16)) 2000 1 _ _ _ _ _ _ c' _ c2' _ [outp D send 0 ticks[0] (L0 C)] (by omega) (by omega) rfl ((IV.zero hC0 send).next hD ticks[0]) e1 e2
    refine this.trans ?_
    congr 1
    conv => rhs; rw [show ticks = ticks[0] :: ticks.drop 1 from by rw [← drop_cons h]; rfl]
    rfl
  · have : ticks = [] := List.eq_nil_of_length_eq_zero (by omega)
    subst this
    rw [cond_neg (by simp)]; rfl
theorem linkRun_eq (C D : Int) (send : List Int) (ticks : List QP) (hs : send.length ≤ 1000) (ht : ticks.length ≤ 1000) (k : List QH → Int → Option R) : queues_LinkRun 2000 C D send ticks k = k (if lerr C D send ticks = 0 then runL' D send 0 (L0 C) ticks else []) (lerr C D send ticks) := by
  unfold queues_LinkRun
  rw [anyN_eq 2000 _ (numC 2000) send (by omega) (by omega), anyT_eq 2000 _ (tickC 2000) ticks (by omega) (by omega), within_eq]
  have hj : ∀ (e : Int), e = lerr C D send ticks → (queues_LinkRun_j0 2000 (fun z17 => (k [] z17)) (fun z18 z19 => (k z19 z18)) send ticks e C D) = k (if lerr C D send ticks = 0 then runL' D send 0 (L0 C) ticks else []) (lerr C D send ticks) := by
    intro e he
    by_cases h0 : lerr C D send ticks = 0
    · rw [he, h0, if_pos rfl]
      unfold lerr at h0
      split at h0
      · cases h0
      · rename_i c1
        split at h0
        · cases h0
        · rename_i c2
          split at h0
          · cases h0
          · split at h0
            · cases h0
            · exact link_j0 (by omega) (by omega) (by omega) (by omega) (by omega) (by omega) _ _
    · rw [if_neg h0, he]
      unfold queues_LinkRun_j0
      rw [cond_pos h0]
  by_cases hC : 0 ≤ C ∧ C ≤ 8
  · rw [decide_eq_true hC, cond_true, within_eq]
    simp only [unless_eq]
    rw [first_eq 2000 _ (by simp) (by simp)]
    refine hj _ ?_
    unfold lerr
    by_cases a1 : 1 ≤ D ∧ D ≤ 8
    · by_cases a2 : 100 < send.length
      · simp [hC, a1, a2, show ¬ (send.length : Int) ≤ 100 by omega]
      · by_cases a3 : send.any (fun x => !okN x) = true
        · simp only [hC, a1, a2, a3]; simp [show (send.length : Int) ≤ 100 by omega]
        · by_cases a4 : 100 < ticks.length
          · simp only [hC, a1, a2, a3, a4]; simp [show (send.length : Int) ≤ 100 by omega, show ¬ (ticks.length : Int) ≤ 100 by omega]
          · by_cases a5 : ticks.any (fun x => !okT x) = true
            · simp only [hC, a1, a2, a3, a4, a5]; simp [show (send.length : Int) ≤ 100 by omega, show (ticks.length : Int) ≤ 100 by omega]
            · simp only [hC, a1, a2, a3, a4, a5]; simp [show (send.length : Int) ≤ 100 by omega, show (ticks.length : Int) ≤ 100 by omega]
    · simp [hC, a1]
  · rw [decide_eq_false hC, cond_false]
    simp only [unless_eq]
    rw [first_eq 2000 _ (by simp) (by simp)]
    refine hj _ ?_
    unfold lerr
    simp [hC]
/-! ### The reference -/
theorem linkErr_l0 (N : Nat) (k0 : Int → Option R) (k1 : List QP → Option R) (l : List Int) (tk : List QP) (hl : l.length ≤ 1000) : ∀ (n i : Nat), l.length < n + i → i ≤ l.length →
    ratchetref19_LinkErr_l0 N k0 k1 n l tk i = if (l.drop i).any (fun x => !okN x) then k0 2 else k1 tk := by
  intro n
  induction n with
  | zero => intro i h1 h2; omega
  | succ n ih =>
    intro i h1 h2
    rw [ratchetref19_LinkErr_l0]
    by_cases h : i < l.length
    · rw [cond_pos (by omega), at?_lt h, some_bind', Within_eq, drop_cons h, List.any_cons]
      change (bif (!okN l[i]) then k0 2 else _) = _
      cases e : okN l[i]
      · simp
      · rw [show (!true) = false from rfl, cond_false, w64_succ (by omega), Bool.false_or]
        exact ih (i + 1) (by omega) (by omega)
    · rw [cond_neg (by omega)]
      have : i = l.length := by omega
      subst this
      simp
theorem linkErr_l1 (N : Nat) (k0 : Int → Option R) (k1 : Option R) (l : List QP) (hl : l.length ≤ 1000) : ∀ (n i : Nat), l.length < n + i → i ≤ l.length →
    ratchetref19_LinkErr_l1 N k0 k1 n l i = if (l.drop i).any (fun x => !okT x) then k0 2 else k1 := by
  intro n
  induction n with
  | zero => intro i h1 h2; omega
  | succ n ih =>
    intro i h1 h2
    rw [ratchetref19_LinkErr_l1]
    by_cases h : i < l.length
    · rw [cond_pos (by omega), at?_lt h, some_bind', some_bind', Within_eq, Within_eq, drop_cons h, List.any_cons]
      have e0 : okT l[i] = (decide (0 ≤ l[i].2 ∧ l[i].2 ≤ 1) && decide (0 ≤ l[i].1 ∧ l[i].1 ≤ 1)) := rfl
      rw [e0, w64_succ (by omega)]
      by_cases e : 0 ≤ l[i].2 ∧ l[i].2 ≤ 1
      · by_cases e' : 0 ≤ l[i].1 ∧ l[i].1 ≤ 1
        · simp only [decide_eq_true e, decide_eq_true e', Bool.not_true, cond_false, Bool.and_self, Bool.false_or]
          exact ih (i + 1) (by omega) (by omega)
        · simp only [decide_eq_true e, decide_eq_false e', Bool.not_true, cond_false, Bool.not_false, cond_true, Bool.and_false, Bool.true_or, if_true]
      · simp only [decide_eq_false e, Bool.not_false, cond_true, Bool.false_and, Bool.true_or, if_true]
    · rw [cond_neg (by omega)]
      have : i = l.length := by omega
      subst this
      simp
theorem linkErr_eq (C D : Int) (send : List Int) (ticks : List QP) (hs : send.length ≤ 1000) (ht : ticks.length ≤ 1000) (k : Int → Option R) : ratchetref19_LinkErr 2000 C D send ticks k = k (lerr C D send ticks) := by
  unfold ratchetref19_LinkErr
  rw [Within_eq, Within_eq]
  have h0 := linkErr_l0 2000 (fun z3 => (k z3)) (fun z4 => (bif decide (100 < ((z4.length : Nat) : Int)) then (k 8) else (ratchetref19_LinkErr_l1 2000 (fun z5 => (k z5)) (k 0) 2000 z4 0))) send ticks hs 2000 0 (by omega) (by omega)
  have h1 := linkErr_l1 2000 (fun z5 => (k z5)) (k 0) ticks ht 2000 0 (by omega) (by omega)
  rw [Int.natCast_zero, List.drop_zero] at h0 h1
  rw [h1] at h0
  rw [h0]
  unfold lerr
  by_cases c1 : 0 ≤ C ∧ C ≤ 8
  · by_cases c2 : 1 ≤ D ∧ D ≤ 8
    · rw [decide_eq_true c1, decide_eq_true c2, if_neg (show ¬ ¬ ((0 ≤ C ∧ C ≤ 8) ∧ (1 ≤ D ∧ D ≤ 8)) from fun h => h ⟨c1, c2⟩)]
      by_cases c3 : 100 < send.length
      · rw [if_pos c3]; simp [show (100 : Int) < send.length by omega]
      · rw [if_neg c3]; simp only [Bool.not_true, cond_false, show ¬ (100 : Int) < send.length by omega, decide_false]
        by_cases c4 : send.any (fun x => !okN x) = true
        · rw [if_pos c4, if_pos c4]
        · rw [if_neg c4, if_neg c4]
          by_cases c5 : 100 < ticks.length
          · rw [if_pos c5]; simp [show (100 : Int) < ticks.length by omega]
          · rw [if_neg c5, decide_eq_false (by omega), cond_false]
            split <;> rfl
    · rw [decide_eq_true c1, decide_eq_false c2, if_pos (show ¬ ((0 ≤ C ∧ C ≤ 8) ∧ (1 ≤ D ∧ D ≤ 8)) from fun h => c2 h.2)]; rfl
  · rw [decide_eq_false c1, if_pos (show ¬ ((0 ≤ C ∧ C ≤ 8) ∧ (1 ≤ D ∧ D ≤ 8)) from fun h => c1 h.1)]; rfl
theorem arrv_cons (D t : Int) (p : QP) (r : List QP) : arrv D t (p :: r) = if p.1 + D = t then p :: arrv D t r else arrv D t r := by
  unfold arrv; rw [List.filter_cons]; by_cases h : p.1 + D = t <;> simp [h]
theorem due_cons (D t : Int) (p : Int) (r : List Int) : due D t (p :: r) = if p + D = t then p :: due D t r else due D t r := by
  unfold due; rw [List.filter_cons]; by_cases h : p + D = t <;> simp [h]
theorem ref_l1 (N : Nat) {k0 k1 k2} (k3 : List Int → (List (Int × Int)) → Int → Int → Int → Int → Int → (List (Int × Int × (List Int) × (List Int))) → List Int → List Int → List Int → Option R) {send : List Int} {ticks : List QP} {cr t C D : Int} {out : List QH} {sent back : List Int} (hs : sent.length ≤ 1000) (hl : sent.length ≤ send.length) (hb : ∀ y ∈ sent, 0 ≤ y ∧ y ≤ 1000) (hD : 0 ≤ D ∧ D ≤ 8) : ∀ (n i : Nat) (arr : Nat) (held : List Int), sent.length < n + i → i ≤ sent.length → arr + (sent.length - i) ≤ 10000 → held.length + (sent.length - i) ≤ 10000 →
    ratchetref19_Link_l1 N k0 k1 k2 k3 n send ticks cr arr t i C D out sent back held = k3 send ticks cr ((arr : Int) + ((arrv D t ((sent.drop i).zip (send.drop i))).length : Int)) t C D out sent back (held ++ (arrv D t ((sent.drop i).zip (send.drop i))).map (·.2)) := by
  intro n
  induction n with
  | zero => intro i arr held h1 h2; omega
  | succ n ih =>
    intro i arr held h1 h2 ha hh
    rw [ratchetref19_Link_l1]
    by_cases h : i < sent.length
    · have hi : (i : Int).toNat = i := rfl
      have := hb sent[i] (List.getElem_mem h)
      rw [cond_pos (by omega), inR_of (by omega) (by omega), cond_true, hi, List.getElem?_eq_getElem h, some_bind', w64_id (x := sent[i] + D) (by omega) (by omega), at?_lt (show i < send.length by omega), some_bind', drop_cons h, drop_cons (show i < send.length by omega), List.zip_cons_cons, arrv_cons]
      by_cases c : sent[i] + D = t
      · rw [cond_pos c, if_pos c, roomB_of (by omega), cond_true, w64_succ (by omega), w64_succ (by omega), ih (i + 1) (arr + 1) _ (by omega) (by omega) (by omega) (by simp; omega)]
        have e : ∀ m : Nat, ((arr + 1 : Nat) : Int) + (m : Int) = (arr : Int) + ((m + 1 : Nat) : Int) := by intro m; omega
        simp only [List.length_cons, List.map_cons, List.append_assoc, List.cons_append, List.nil_append, e]
      · rw [cond_neg c, if_neg c, w64_succ (by omega), ih (i + 1) arr _ (by omega) (by omega) (by omega) (by omega)]
    · rw [cond_neg (by omega)]
      have : i = sent.length := by omega
      subst this
      simp [arrv]
theorem ref_l2 (N : Nat) {k0 k1 k2} (k3 : List Int → (List (Int × Int)) → Int → Int → Int → Int → Int → (List (Int × Int × (List Int) × (List Int))) → List Int → List Int → List Int → Option R) {send : List Int} {ticks : List QP} {arr t C D : Int} {out : List QH} {sent back held : List Int} (hs : back.length ≤ 1000) (hb : ∀ y ∈ back, 0 ≤ y ∧ y ≤ 1000) (hD : 0 ≤ D ∧ D ≤ 8) : ∀ (n i : Nat) (cr : Int), back.length < n + i → i ≤ back.length → 0 ≤ cr → cr + ((back.length : Int) - i) ≤ 10000 →
    ratchetref19_Link_l2 N k0 k1 k2 k3 n send ticks cr arr t i C D out sent back held = k3 send ticks (cr + ((due D t (back.drop i)).length : Int)) arr t C D out sent back held := by
  intro n
  induction n with
  | zero => intro i cr h1 h2; omega
  | succ n ih =>
    intro i cr h1 h2 h0 ha
    rw [ratchetref19_Link_l2]
    by_cases h : i < back.length
    · have hi : (i : Int).toNat = i := rfl
      have := hb back[i] (List.getElem_mem h)
      rw [cond_pos (by omega), inR_of (by omega) (by omega), cond_true, hi, List.getElem?_eq_getElem h, some_bind', w64_id (x := back[i] + D) (by omega) (by omega), drop_cons h, due_cons]
      by_cases c : back[i] + D = t
      · rw [cond_pos c, if_pos c, w64_succ (by omega), w64_id (by omega) (by omega), ih (i + 1) (cr + 1) (by omega) (by omega) (by omega) (by omega)]
        have e : ∀ m : Nat, cr + 1 + (m : Int) = cr + ((m + 1 : Nat) : Int) := by intro m; omega
        simp only [List.length_cons, e]
      · rw [cond_neg c, if_neg c, w64_succ (by omega), ih (i + 1) cr (by omega) (by omega) (by omega) (by omega)]
    · rw [cond_neg (by omega)]
      have : i = back.length := by omega
      subst this
      simp [due]
theorem at?_at {α : Type} {l : List α} {n : Nat} (h : n < l.length) : at? l (n : Int) = some l[n] := at?_lt h
theorem ref_tick (N : Nat) {C D : Int} {send : List Int} {ticks : List QP} {out : List QH} {t : Nat} (h : t < ticks.length) (ho : out.length ≤ 1000) {s : LS} {held' : List Int} {cr' : Int} (hb1 : (s.back ++ [(t : Int)]).length ≤ 1000)
    {k0} (k1 : List Int → (List (Int × Int)) → Int → Int → Int → Int → Int → (List (Int × Int × (List Int) × (List Int))) → List Int → List Int → List Int → Option R)
    (hc : cr' = c1 D t s) (hh : held' = h1 D send t s) (hl : held'.length ≤ 1000) (hcr : 0 ≤ cr' ∧ cr' ≤ 1000) {arr : Int} (harr : arr = s.arr + ((arrv D t (s.L send)).length : Int)) (hsl : s.sent.length ≤ 1000) (hse : send.length ≤ 1000) (ha0 : 0 ≤ arr ∧ arr ≤ 1000) :
    ratchetref19_Link_j1 N k0 k1 send ticks cr' arr t C D out s.sent s.back held' =
      k1 send ticks (nxt D send t ticks[t] s).cr (nxt D send t ticks[t] s).arr t C D (out ++ [outp D send t ticks[t] s]) (nxt D send t ticks[t] s).sent (nxt D send t ticks[t] s).back (nxt D send t ticks[t] s).held := by
  have hj3 : ∀ {k0} (kk : List Int → (List (Int × Int)) → Int → Int → Int → Int → Int → (List (Int × Int × (List Int) × (List Int))) → List Int → List Int → List Int → Option R) (cr2 : Int) (sent2 back2 held2 tk2 : List Int), held2.length ≤ 1000 → sent2.length ≤ 2000 → ratchetref19_Link_j3 N k0 kk send ticks cr2 arr t C D out sent2 back2 held2 tk2 = kk send ticks cr2 arr t C D (out ++ [(cr2, (sent2.length : Int) - arr, held2, tk2)]) sent2 back2 held2 := by
    intro k0 kk cr2 sent2 back2 held2 tk2 q1 q2
    unfold ratchetref19_Link_j3
    rw [copyInts_eq N _ (by omega), roomB_of (by omega), cond_true, w64_id (by omega) (by omega)]
  have hj2 : ∀ {k0} (kk : List Int → (List (Int × Int)) → Int → Int → Int → Int → Int → (List (Int × Int × (List Int) × (List Int))) → List Int → List Int → List Int → Option R) (back2 held2 tk2 : List Int), held2.length ≤ 1000 → ratchetref19_Link_j2 N k0 kk send ticks cr' arr t C D out s.sent back2 held2 tk2 = kk send ticks (nxt D send t ticks[t] s).cr arr t C D (out ++ [((nxt D send t ticks[t] s).cr, ((nxt D send t ticks[t] s).sent.length : Int) - arr, held2, tk2)]) (nxt D send t ticks[t] s).sent back2 held2 := by
    intro k0 kk back2 held2 tk2 q1
    unfold ratchetref19_Link_j2
    rw [at?_lt h, some_bind']
    have ecr : (nxt D send t ticks[t] s).cr = if sds D send t ticks[t] s = true then c1 D t s - 1 else c1 D t s := rfl
    have esn : (nxt D send t ticks[t] s).sent = if sds D send t ticks[t] s = true then s.sent ++ [(t : Int)] else s.sent := rfl
    have no : ∀ (h : ¬ (ticks[t].1 = 1 ∧ s.sent.length < send.length ∧ 0 < c1 D t s)), (nxt D send t ticks[t] s).cr = cr' ∧ (nxt D send t ticks[t] s).sent = s.sent := by
      intro h
      have : sds D send t ticks[t] s = false := decide_eq_false h
      rw [ecr, esn, this, hc]; exact ⟨rfl, rfl⟩
    by_cases a : ticks[t].1 = 1
    · rw [cond_pos a]
      by_cases b : s.sent.length < send.length
      · rw [cond_pos (by omega)]
        by_cases c : 0 < cr'
        · have : sds D send t ticks[t] s = true := decide_eq_true ⟨a, b, hc ▸ c⟩
          rw [cond_pos c, roomB_of (by omega), cond_true, hj3 _ _ _ _ _ _ q1 (by simp; omega), w64_id (by omega) (by omega), ecr, esn, this, hc]; rfl
        · obtain ⟨n1, n2⟩ := no (fun h => c (hc ▸ h.2.2))
          rw [cond_neg c, hj3 _ _ _ _ _ _ q1 (by omega), n1, n2]
      · obtain ⟨n1, n2⟩ := no (fun h => b h.2.1)
        rw [cond_neg (by omega), hj3 _ _ _ _ _ _ q1 (by omega), n1, n2]
    · obtain ⟨n1, n2⟩ := no (fun h => a h.1)
      rw [cond_neg a, hj3 _ _ _ _ _ _ q1 (by omega), n1, n2]
  unfold ratchetref19_Link_j1
  rw [at?_lt h, some_bind']
  have ear : (nxt D send t ticks[t] s).arr = arr := harr.symm
  have ebk : (nxt D send t ticks[t] s).back = if tks D send t ticks[t] s = true then s.back ++ [(t : Int)] else s.back := rfl
  have ehd : (nxt D send t ticks[t] s).held = if ticks[t].2 = 1 then (h1 D send t s).drop 1 else h1 D send t s := rfl
  have etk : took D send t ticks[t] s = if ticks[t].2 = 1 then (h1 D send t s).take 1 else [] := rfl
  have eo : outp D send t ticks[t] s = ((nxt D send t ticks[t] s).cr, ((nxt D send t ticks[t] s).sent.length : Int) - (nxt D send t ticks[t] s).arr, (nxt D send t ticks[t] s).held, took D send t ticks[t] s) := rfl
  rw [eo, ear, ebk, ehd, etk, ← hh]
  by_cases a : ticks[t].2 = 1
  · rw [cond_pos a, if_pos a, if_pos a]
    by_cases b : 0 < held'.length
    · have : tks D send t ticks[t] s = true := decide_eq_true ⟨a, fun e => by rw [← hh] at e; rw [e] at b; simp at b⟩
      have hb0 : held'[0]? = some held'[0] := List.getElem?_eq_getElem b
      rw [cond_pos (by omega), inR_of (by omega) (by omega), cond_true, hb0, some_bind', slB_of (by omega), cond_true, cond_pos (by omega), List.take_of_length_le (by simp), copyInts_eq N _ (by simp; omega), roomB_of (by simp at hb1; omega), cond_true, hj2 _ _ _ _ (by simp; omega), this, if_pos rfl]
      have e1 : held'.take 1 = [held'[0]] := by
        conv => lhs; rw [← List.drop_zero (l := held'), List.drop_eq_getElem_cons b]
        rfl
      rw [e1]
    · have e0 : held' = [] := List.eq_nil_of_length_eq_zero (by omega)
      have : tks D send t ticks[t] s = false := decide_eq_false (fun e => e.2 (by rw [← hh, e0]))
      rw [cond_neg (by omega), hj2 _ _ _ _ (by omega), this, e0]; rfl
  · have : tks D send t ticks[t] s = false := decide_eq_false (fun e => a e.1)
    rw [cond_neg a, if_neg a, if_neg a, hj2 _ _ _ _ (by omega), this]; rfl
theorem ref_loop (N : Nat) (hN : 1000 ≤ N) {D C : Int} (hD : 1 ≤ D) (hD8 : D ≤ 8) (hC : C ≤ 8) {send : List Int} (hsend : send.length ≤ 100) {ticks : List QP} (hticks : ticks.length ≤ 100) (k0 : Option R) (k1 : List QH → Option R) : ∀ (n t : Nat) (s : LS) (tkn : List Int) (out : List QH),
    ticks.length < n + t → t ≤ ticks.length → out.length = t → IV D C send t s tkn →
    ratchetref19_Link_l0 N k0 k1 n send ticks s.cr s.arr t C D out s.sent s.back s.held = k1 (out ++ runL' D send t s (ticks.drop t)) := by
  intro n
  induction n with
  | zero => intro t s tkn out g1 g2; omega
  | succ n ih =>
    intro t s tkn out g1 g2 ho hv
    rw [ratchetref19_Link_l0]
    by_cases h : t < ticks.length
    · have hst := hv.st
      have hbt := hv.bt
      have hsl := hv.sl
      have harr := hv.arr
      have hcons := hv.cons
      have hcr0 := hv.cr0
      have hlens := hv.lens hC
      have hls := left_succ (D := D) (t := t) (s.L send)
      have hlt := late_succ (D := D) (t := t) s.back
      have hgl := gone_left (D := D) (t := t) (s.L send)
      have hzl : (s.L send).length = s.sent.length := by unfold LS.L; rw [List.length_zip]; omega
      rw [cond_pos (by omega)]
      have e1 := ref_l1 N (k0 := fun z3 z4 z5 z6 z7 z8 z9 => (ratchetref19_Link_j0 N (fun z252 z253 z254 z255 z256 z257 z258 z259 z260 => (ratchetref19_Link_l0 N k0 k1 n z252 z253 z254 z255 (w64 (z256 + 1)) z257 z258 z259 z260 [] [])) (fun z261 z262 z263 z264 z265 z266 z267 z268 z269 z270 z271 => (ratchetref19_Link_l0 N k0 k1 n z261 z262 z263 z264 (w64 (z265 + 1)) z266 z267 z268 z269 z270 z271)) z3 z4 z5 z6 z7 z8 z9 [] [] [] []))
        (k1 := fun z272 z273 z274 z275 z276 z277 z278 z279 z280 => (ratchetref19_Link_j0 N (fun z281 z282 z283 z284 z285 z286 z287 z288 z289 => (ratchetref19_Link_l0 N k0 k1 n z281 z282 z283 z284 (w64 (z285 + 1)) z286 z287 z288 z289 [] [])) (fun z290 z291 z292 z293 z294 z295 z296 z297 z298 z299 z300 => (ratchetref19_Link_l0 N k0 k1 n z290 z291 z292 z293 (w64 (z294 + 1)) z295 z296 z297 z298 z299 z300)) z272 z273 z274 z275 z276 z277 z278 z279 z280 [] []))
        (k2 := fun z301 z302 z303 z304 z305 z306 z307 z308 z309 z310 => (ratchetref19_Link_j0 N (fun z311 z312 z313 z314 z315 z316 z317 z318 z319 => (ratchetref19_Link_l0 N k0 k1 n z311 z312 z313 z314 (w64 (z315 + 1)) z316 z317 z318 z319 [] [])) (fun z320 z321 z322 z323 z324 z325 z326 z327 z328 z329 z330 => (ratchetref19_Link_l0 N k0 k1 n z320 z321 z322 z323 (w64 (z324 + 1)) z325 z326 z327 z328 z329 z330)) z301 z302 z303 z304 z305 z306 z307 z308 z309 [] z310))
        (fun z331 z332 z333 z334 z335 z336 z337 z338 z339 z340 z341 => (ratchetref19_Link_j0 N (fun z342 z343 z344 z345 z346 z347 z348 z349 z350 => (ratchetref19_Link_l0 N k0 k1 n z342 z343 z344 z345 (w64 (z346 + 1)) z347 z348 z349 z350 [] [])) (fun z351 z352 z353 z354 z355 z356 z357 z358 z359 z360 z361 => (ratchetref19_Link_l0 N k0 k1 n z351 z352 z353 z354 (w64 (z355 + 1)) z356 z357 z358 z359 z360 z361)) z331 z332 z333 z334 z335 z336 z337 z338 z339 z340 z341))
        (send := send) (ticks := ticks) (cr := s.cr) (t := t) (C := C) (D := D) (out := out) (sent := s.sent) (back := s.back) (by omega) hsl (fun y hy => by have := hv.sb y hy; omega) (by omega) N 0 (gone D t (s.L send)).length s.held (by omega) (by omega) (by omega) (by omega)
      rw [← harr, List.drop_zero, List.drop_zero] at e1
      refine e1.trans ?_
      unfold ratchetref19_Link_j0
      refine (ref_l2 N _ (by omega) (fun y hy => by have := hv.bb y hy; omega) (by omega) N 0 s.cr (by omega) (by omega) (by omega) (by omega)).trans ?_
      rw [List.drop_zero]
      refine (ref_tick N h (by omega) (s := s) (by simp; omega) _ rfl rfl ?_ ?_ rfl (by omega) (by omega) ?_).trans ?_
      · unfold h1
        rw [List.length_append, List.length_map]; omega
      · show 0 ≤ s.cr + ((due D t s.back).length : Int) ∧ s.cr + ((due D t s.back).length : Int) ≤ 1000
        omega
      · show 0 ≤ s.arr + ((arrv D t (s.L send)).length : Int) ∧ s.arr + ((arrv D t (s.L send)).length : Int) ≤ 1000
        omega
      · show ratchetref19_Link_l0 N k0 k1 n send ticks _ _ (w64 ((t : Int) + 1)) C D _ _ _ _ = _
        rw [w64_succ (by omega), ih (t + 1) _ _ _ (by omega) (by omega) (by simp [ho]) (hv.next hD _), drop_cons h, List.append_assoc]
        rfl
    · have : t = ticks.length := by omega
      subst this
      rw [cond_neg (by omega)]; simp [runL']
theorem ref_eq {D C : Int} (hC0 : 0 ≤ C) (hC : C ≤ 8) (hD : 1 ≤ D) (hD8 : D ≤ 8) {send : List Int} (hsend : send.length ≤ 100) {ticks : List QP} (hticks : ticks.length ≤ 100) (k : List QH → Option R) : ratchetref19_Link 2000 C D send ticks k = k (runL' D send 0 (L0 C) ticks) := by
  unfold ratchetref19_Link
  have := ref_loop 2000 (by omega) hD hD8 hC hsend hticks (k []) (fun z => k z) 2000 0 (L0 C) [] [] (by omega) (by omega) rfl (IV.zero hC0 send)
  rw [List.drop_zero, List.nil_append] at this
  exact this
/-! ### The law -/
theorem runL_drop (D : Int) (send : List Int) : ∀ (tk : List QP) (t : Int) (s : LS), (runL' D send t s tk).length = tk.length
  | [], _, _ => rfl
  | x :: r, t, s => by rw [runL', List.length_cons, List.length_cons, runL_drop D send r]
theorem sameHeld_eq (a : QH) (h1 : a.2.2.1.length ≤ 1000) (h2 : a.2.2.2.length ≤ 1000) (k : Bool → Option R) : ratchetref19_SameHeld 2000 a.1 a.2.1 a.2.2.1 a.2.2.2 a.1 a.2.1 a.2.2.1 a.2.2.2 k = k true := by
  unfold ratchetref19_SameHeld
  rw [cond_pos rfl, cond_pos rfl, ints_same 2000 _ (by omega) (by omega), cond_true, ints_same 2000 _ (by omega) (by omega)]
theorem prefix_take {D C : Int} {send : List Int} {t : Nat} {s : LS} {tkn : List Int} (hv : IV D C send t s tkn) : tkn ++ s.held = send.take (tkn ++ s.held).length ∧ (tkn ++ s.held).length ≤ send.length := by
  have hg := gone_take (D := D) (t := t) (zip_sp (b := send) hv.ss)
  have hz := zip_snd s.sent send hv.sl
  have htk := hv.tk
  have hgl := gone_left (D := D) (t := t) (s.L send)
  have hzl : (s.L send).length = s.sent.length := by unfold LS.L; rw [List.length_zip]; have := hv.sl; omega
  have e : tkn ++ s.held = send.take (gone D t (s.L send)).length := by
    rw [htk]
    conv => lhs; rw [show gone D t (s.L send) = (s.L send).take (gone D t (s.L send)).length from hg]
    rw [List.map_take]
    show List.take _ ((s.sent.zip send).map (·.2)) = _
    rw [hz, List.take_take]
    congr 1
    omega
  have l : (tkn ++ s.held).length = (gone D t (s.L send)).length := by rw [htk, List.length_map]
  have := hv.sl
  exact ⟨by rw [l]; exact e, by omega⟩
theorem law_loop {D C : Int} (hD : 1 ≤ D) (hD8 : D ≤ 8) (hC : C ≤ 8) {send : List Int} (hsend : send.length ≤ 100) (outs : List QH) (houts : outs.length ≤ 100) (k0 : Bool → Option R) (k1 : Option R) : ∀ (n t : Nat) (s : LS) (tkn : List Int) (tk : List QP),
    outs.length < n + t → t ≤ outs.length → outs.drop t = runL' D send t s tk → IV D C send t s tkn →
    ratchetlaw19_QueuesLinks_l0 2000 k0 k1 n send outs outs t C D tkn = k1 := by
  intro n
  induction n with
  | zero => intro t s tkn tk h1 h2; omega
  | succ n ih =>
    intro t s tkn tk h1 h2 ho hv
    rw [ratchetlaw19_QueuesLinks_l0]
    by_cases h : t < outs.length
    · rw [drop_cons h] at ho
      cases tk with
      | nil => cases ho
      | cons x tk =>
        rw [runL'] at ho
        obtain ⟨e1, e2⟩ := List.cons.inj ho
        have hn := hv.next hD x
        obtain ⟨p1, p2⟩ := prefix_take hn
        have hlens := hn.lens hC
        have hcons := hn.cons
        have harr := hn.arr
        have hcr0 := hn.cr0
        have hgl := gone_left (D := D) (t := ((t + 1 : Nat) : Int)) ((nxt D send t x s).L send)
        have hzl : ((nxt D send t x s).L send).length = (nxt D send t x s).sent.length := by unfold LS.L; rw [List.length_zip]; have := hn.sl; omega
        rw [cond_pos (by omega), at?_lt h, some_bind', some_bind', e1]
        have o1 : (outp D send t x s).1 = (nxt D send t x s).cr := rfl
        have o2 : (outp D send t x s).2.1 = ((nxt D send t x s).sent.length : Int) - (nxt D send t x s).arr := rfl
        have o3 : (outp D send t x s).2.2.1 = (nxt D send t x s).held := rfl
        have o4 : (outp D send t x s).2.2.2 = took D send t x s := rfl
        rw [List.length_append, List.length_append] at p2
        have hr1 : (tkn ++ took D send t x s ++ (nxt D send t x s).held).length = tkn.length + (took D send t x s).length + (nxt D send t x s).held.length := by simp; omega
        rw [sameHeld_eq _ (by rw [o3]; omega) (by rw [o4]; omega), show (!true) = false from rfl, cond_false]
        simp only [at?_lt h, some_bind', e1, o1, o2, o3, o4]
        rw [roomB_of (by omega), cond_true, copyInts_eq 2000 _ (by simp; omega), roomB_of (by simp; omega), cond_true, cond_neg (by omega), cond_neg (by omega), slP_of (by omega), cond_true, List.drop_zero, ← p1, ints_same 2000 _ (by omega) (by omega), show (!true) = false from rfl, cond_false, w64_id (x := (nxt D send t x s).cr + _) (by omega) (by omega), w64_id (by omega) (by omega), cond_neg (by omega), w64_succ (by omega)]
        exact ih (t + 1) _ _ tk (by omega) (by omega) (by rw [show (((t + 1 : Nat)) : Int) = (t : Int) + 1 by omega]; exact e2) hn
    · rw [cond_neg (by omega)]
theorem links_j0 (C D : Int) (send : List Int) (ticks : List QP) (hs : send.length ≤ 1000) (ht : ticks.length ≤ 1000) (k0 : Bool → Option R) : ratchetlaw19_QueuesLinks_j0 2000 k0 send ticks C D = k0 true := by
  unfold ratchetlaw19_QueuesLinks_j0
  rw [copyInts_eq 2000 _ (by omega), roomB_of (by omega), cond_true, linkRun_eq C D send ticks hs ht, linkErr_eq C D send ticks hs ht]
  by_cases h0 : lerr C D send ticks = 0
  · have hq := h0
    unfold lerr at h0
    split at h0
    · cases h0
    · rename_i c1
      split at h0
      · cases h0
      · rename_i c2
        split at h0
        · cases h0
        · split at h0
          · cases h0
          · have hl := runL_drop D send ticks 0 (L0 C)
            rw [hq, if_pos rfl, cond_neg (by simp), ref_eq (by omega) (by omega) (by omega) (by omega) (by omega) (by omega), cond_neg (by simp), cond_neg (by simp)]
            exact law_loop (by omega) (by omega) (by omega) (by omega) _ (by omega) _ _ 2000 0 (L0 C) [] ticks (by omega) (by omega) rfl (IV.zero (by omega) send)
  · rw [if_neg h0, cond_pos h0, cond_pos rfl]; rfl
theorem pureQueuesLinks : PureQueuesLinks := by
  intro a send ticks ok0 ok1 ok2
  refine ⟨2000, fun {R} k => ?_⟩
  unfold ratchetlaw19_QueuesLinks
  rw [awake_ok, show (!true) = false from rfl, cond_false]
  by_cases h1 : 102 < send.length
  · rw [cond_pos (show (40 : Int) < send.length by omega), cond_neg (show ¬ (send.length : Int) ≤ 100 by omega), cond_pos (show (102 : Int) < send.length by omega)]
  · by_cases h2 : 102 < ticks.length
    · simp only [decide_eq_false (show ¬ (102 : Int) < send.length by omega), decide_eq_true (show (102 : Int) < ticks.length by omega), decide_eq_true (show (40 : Int) < ticks.length by omega), decide_eq_false (show ¬ (ticks.length : Int) ≤ 100 by omega), cond_true, cond_false]
      generalize decide ((40 : Int) < send.length) = a; generalize decide ((send.length : Int) ≤ 100) = b
      cases a <;> cases b <;> rfl
    · simp only [decide_eq_false (show ¬ (102 : Int) < send.length by omega), decide_eq_false (show ¬ (102 : Int) < ticks.length by omega), links_j0 _ _ send ticks (by omega) (by omega), cond_true, cond_false]
      generalize decide ((40 : Int) < send.length) = a; generalize decide ((send.length : Int) ≤ 100) = b
      generalize decide ((40 : Int) < ticks.length) = c; generalize decide ((ticks.length : Int) ≤ 100) = d
      cases a <;> cases b <;> cases c <;> cases d <;> rfl
end
end Am
end Go.Proofs.Ythnmckbgoleomaa
