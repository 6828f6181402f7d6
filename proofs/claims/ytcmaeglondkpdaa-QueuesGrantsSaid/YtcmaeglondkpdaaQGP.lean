/- The statement about grants on plain data. -/
import Derived.Test.YtcmaeglondkpdaaQGF
import Derived.Test.YtcmaeglondkpdaaPu
set_option linter.unusedVariables false
set_option linter.unusedSimpArgs false
set_option maxRecDepth 100000
namespace Go.Proofs.Ytcmaeglondkpdaa
namespace Am
section
variable {R : Type}
theorem awake_ok (k : Bool → Option R) : ratchetlaw19_awake 2000 k = k true := by kernel_rfl

theorem within_eq (N : Nat) (a lo hi : Int) (k : Bool → Option R) : queues_within N a lo hi k = k (decide (lo ≤ a ∧ a ≤ hi)) := by
  unfold queues_within
  by_cases h : lo ≤ a <;> simp [h]
theorem Within_eq (N : Nat) (a lo hi : Int) (k : Bool → Option R) : ratchetbase_Within N a lo hi k = k (decide (lo ≤ a ∧ a ≤ hi)) := by
  unfold ratchetbase_Within
  by_cases h : lo ≤ a <;> simp [h]
theorem unless_eq (N : Nat) (b : Bool) (e : Int) (k : Int → Option R) : queues_unless N b e k = k (if b = true then 0 else e) := by
  unfold queues_unless; cases b <;> rfl
theorem first_loop (N : Nat) (k0 : Int → Option R) (k1 : Option R) (l : List Int) (hl : l.length ≤ 1000000) : ∀ (n i : Nat), l.length < n + i → i ≤ l.length →
    queues_first_l26 N k0 k1 n l l.length i = match (l.drop i).find? (fun x => decide (x ≠ 0)) with | some x => k0 x | none => k1 := by
  intro n
  induction n with
  | zero => intro i h1 h2; omega
  | succ n ih =>
    intro i h1 h2
    rw [queues_first_l26]
    by_cases h : i < l.length
    · rw [cond_pos (by omega), at?_lt h, some_bind', drop_cons h, List.find?_cons]
      by_cases hx : l[i] = 0
      · rw [cond_neg (by simp [hx]), w64_id (by omega) (by omega)]
        simp only [hx, ne_eq, not_true, decide_false]
        exact ih (i + 1) (by omega) (by omega)
      · rw [cond_pos hx]; simp [hx]
    · rw [cond_neg (by omega)]
      have : i = l.length := by omega
      subst this
      simp
theorem first_eq (N : Nat) (l : List Int) (hN : l.length < N) (hl : l.length ≤ 1000000) (k : Int → Option R) : queues_first N l k = k ((l.find? (fun x => decide (x ≠ 0))).getD 0) := by
  unfold queues_first
  have := first_loop N (fun z => k z) (k 0) l hl N 0 (by omega) (by omega)
  rw [Int.natCast_zero] at this
  rw [this, List.drop_zero]
  cases l.find? (fun x => decide (x ≠ 0)) <;> rfl
theorem first2 (N : Nat) (hN : 3 ≤ N) (a b : Int) (k : Int → Option R) : queues_first N [a, b] k = k (if a = 0 then b else a) := by
  rw [first_eq N _ (by simp; omega) (by simp)]
  by_cases ha : a = 0 <;> by_cases hb : b = 0 <;> simp [ha, hb]

/-! ### Lists of numbers -/
theorem ints_loop (N : Nat) (k0 : Bool → Option R) (k1 : Option R) (l : List Int) (hl : l.length ≤ 1000000) : ∀ (n i : Nat), l.length < n + i → i ≤ l.length →
    ratchetbase_Ints_l58 N k0 k1 n l l i = k1 := by
  intro n
  induction n with
  | zero => intro i h1 h2; omega
  | succ n ih =>
    intro i h1 h2
    rw [ratchetbase_Ints_l58]
    by_cases h : i < l.length
    · rw [cond_pos (by omega), at?_lt h, some_bind', some_bind', cond_neg (by simp), w64_succ (by omega)]
      exact ih (i + 1) (by omega) (by omega)
    · rw [cond_neg (by omega)]
theorem ints_same (N : Nat) (l : List Int) (hl : l.length ≤ 1000000) (hN : l.length < N) (k : Bool → Option R) : ratchetbase_Ints N l l k = k true := by
  unfold ratchetbase_Ints
  rw [cond_neg (by simp)]
  exact ints_loop N (fun z => k z) (k true) l hl N 0 (by omega) (by omega)

theorem copyInts_eq (N : Nat) (l : List Int) (hl : l.length ≤ 1000000) (k : List Int → Option R) : ratchetbase_CopyInts N l k = k l := by
  unfold ratchetbase_CopyInts; rw [roomB_of (by omega)]; rfl
theorem any0_loop (N : Nat) (k0 : Int → Option R) (k1 : Option R) (g : Option R) (p : Int → Bool) (hp : ∀ x (k : Bool → Option R), queues_asksErr_c1 N x k = k (p x)) (hk : ∀ i : Nat, k0 i = g) (l : List Int) (hl : l.length ≤ 1000000) : ∀ (n i : Nat), l.length < n + i → i ≤ l.length →
    slices_IndexFunc_Lint_int_v2_l26 N k0 k1 n l l.length i = if (l.drop i).any p then g else k1 := by
  intro n
  induction n with
  | zero => intro i h1 h2; omega
  | succ n ih =>
    intro i h1 h2
    rw [slices_IndexFunc_Lint_int_v2_l26]
    by_cases h : i < l.length
    · rw [cond_pos (by omega), at?_lt h, some_bind', hp, drop_cons h, List.any_cons]
      cases e : p l[i]
      · rw [cond_false, w64_succ (by omega), Bool.false_or]
        exact ih (i + 1) (by omega) (by omega)
      · rw [cond_true, hk]; simp
    · rw [cond_neg (by omega)]
      have : i = l.length := by omega
      subst this
      simp
theorem any0_eq (N : Nat) (p : Int → Bool) (hp : ∀ x (k : Bool → Option R), queues_asksErr_c1 N x k = k (p x)) (l : List Int) (hl : l.length ≤ 1000000) (hN : l.length < N) (k : Bool → Option R) :
    slices_ContainsFunc_Lint_int_v2 N l k = k (l.any p) := by
  unfold slices_ContainsFunc_Lint_int_v2 slices_IndexFunc_Lint_int_v2
  have := any0_loop N (fun z4 => k (decide (0 ≤ z4))) (k (decide (0 ≤ (-1 : Int)))) (k true) p hp (fun i => by simp) l hl N 0 (by omega) (by omega)
  rw [Int.natCast_zero] at this
  rw [this, List.drop_zero]
  cases l.any p <;> simp
def flag (x : Int) : Bool := decide (0 ≤ x ∧ x ≤ 1)
def aserr (l : List Int) : Int := if 1 ≤ l.length ∧ l.length ≤ 8 then (if l.any (fun x => !flag x) then 2 else 0) else 10
theorem asksErr_eq (N : Nat) (l : List Int) (hl : l.length ≤ 1000000) (hN : l.length + 3 ≤ N) (k : Int → Option R) : queues_asksErr N l k = k (aserr l) := by
  unfold queues_asksErr aserr
  rw [any0_eq N (fun x => !flag x) (fun x k => by unfold queues_asksErr_c1 queues_isFlag flag; rw [within_eq]) l hl (by omega), within_eq, unless_eq, unless_eq, first2 N (by omega)]
  by_cases c : 1 ≤ l.length ∧ l.length ≤ 8
  · have c' : (1 : Int) ≤ l.length ∧ (l.length : Int) ≤ 8 := by omega
    cases l.any (fun x => !flag x) <;> simp [c, c']
  · have c' : ¬ ((1 : Int) ≤ l.length ∧ (l.length : Int) ≤ 8) := by omega
    cases l.any (fun x => !flag x) <;> simp [c, c']
theorem AsksErr_loop (N : Nat) (k0 : Int → Option R) (k1 : Option R) (l : List Int) (hl : l.length ≤ 1000000) : ∀ (n i : Nat), l.length < n + i → i ≤ l.length →
    ratchetref19_AsksErr_l58 N k0 k1 n l i = if (l.drop i).any (fun x => !flag x) then k0 2 else k1 := by
  intro n
  induction n with
  | zero => intro i h1 h2; omega
  | succ n ih =>
    intro i h1 h2
    rw [ratchetref19_AsksErr_l58]
    by_cases h : i < l.length
    · rw [cond_pos (by omega), at?_lt h, some_bind', Within_eq, drop_cons h, List.any_cons]
      have := ih (i + 1) (by omega) (by omega)
      unfold flag at this ⊢
      by_cases e : 0 ≤ l[i] ∧ l[i] ≤ 1
      · rw [decide_eq_true e, w64_succ (by omega)]; simpa using this
      · rw [decide_eq_false e]; simp
    · rw [cond_neg (by omega)]
      have : i = l.length := by omega
      subst this
      simp
theorem AsksErr_eq (N : Nat) (l : List Int) (hl : l.length ≤ 1000000) (hN : l.length < N) (k : Int → Option R) : ratchetref19_AsksErr N l k = k (aserr l) := by
  unfold ratchetref19_AsksErr aserr
  rw [Within_eq]
  have e := AsksErr_loop N (fun z => k z) (k 0) l hl N 0 (by omega) (by omega)
  rw [Int.natCast_zero] at e
  rw [e, List.drop_zero]
  by_cases c : 1 ≤ l.length ∧ l.length ≤ 8
  · rw [decide_eq_true (by omega), if_pos c]; cases l.any (fun x => !flag x) <;> rfl
  · rw [decide_eq_false (by omega), if_neg c]; rfl

/-- Who is granted, b being the first place to look at. -/
def gfrom (l : List Int) (b : Nat) : Nat → Nat → Int
  | 0, _ => -1
  | d + 1, i => if l[(b + i) % l.length]? = some 1 then (((b + i) % l.length : Nat) : Int) else gfrom l b d (i + 1)
theorem gfrom_hit {l : List Int} {b d i : Nat} (h : l[(b + i) % l.length]? = some 1) : gfrom l b (d + 1) i = (((b + i) % l.length : Nat) : Int) := by
  rw [gfrom, if_pos h]
theorem gfrom_miss {l : List Int} {b d i : Nat} (h : ¬ l[(b + i) % l.length]? = some 1) : gfrom l b (d + 1) i = gfrom l b d (i + 1) := by
  rw [gfrom, if_neg h]
def mgrant (last : Int) (l : List Int) : Int := gfrom l (last + 1).toNat l.length 0
theorem grant_loop (N : Nat) (k0 : Int → Option R) (k1 : Option R) (last : Int) (l : List Int) (h0 : l ≠ []) (hl : l.length ≤ 1000) (hb : -1 ≤ last ∧ last ≤ 1000) : ∀ (d n i : Nat), i + d = l.length → d < n →
    queues_grant_l26 N k0 k1 n last l l.length i = if gfrom l (last + 1).toNat d i = -1 then k1 else k0 (gfrom l (last + 1).toNat d i) := by
  have hp : 0 < l.length := List.length_pos_iff.2 h0
  intro d
  induction d with
  | zero =>
    intro n i h1 h2
    obtain ⟨m, rfl⟩ : ∃ m, n = m + 1 := ⟨n - 1, by omega⟩
    rw [queues_grant_l26, cond_neg (by omega), gfrom]; simp
  | succ d ih =>
    intro n i h1 h2
    obtain ⟨m, rfl⟩ : ∃ m, n = m + 1 := ⟨n - 1, by omega⟩
    have hm : ((last + 1).toNat + i) % l.length < l.length := Nat.mod_lt _ hp
    have w : w64 (w64 (last + 1) + (i : Int)) = (((last + 1).toNat + i : Nat) : Int) := by
      rw [w64_id (x := last + 1) (by omega) (by omega), w64_id (by omega) (by omega)]; omega
    rw [queues_grant_l26, cond_pos (by omega), cond_neg (by omega), w, tmod_nat, at?_lt hm, some_bind']
    by_cases e : l[((last + 1).toNat + i) % l.length] = 1
    · rw [cond_pos e, gfrom_hit (by rw [List.getElem?_eq_getElem hm, e]), if_neg (by have := Int.natCast_nonneg (((last + 1).toNat + i) % l.length); omega)]
    · rw [cond_neg e, gfrom_miss (by rw [List.getElem?_eq_getElem hm]; simpa using e), w64_succ (by omega)]
      exact ih m (i + 1) (by omega) (by omega)
theorem Grant_loop (N : Nat) (k0 : Int → Option R) (k1 : Option R) (last : Int) (l : List Int) (h0 : l ≠ []) (hl : l.length ≤ 1000) (hb : -1 ≤ last ∧ last ≤ 1000) : ∀ (d n i : Nat), i + d = l.length → d < n →
    ratchetref19_Grant_l26 N k0 k1 n last l ((i + 1 : Nat) : Int) = if gfrom l (last + 1).toNat d i = -1 then k1 else k0 (gfrom l (last + 1).toNat d i) := by
  have hp : 0 < l.length := List.length_pos_iff.2 h0
  intro d
  induction d with
  | zero =>
    intro n i h1 h2
    obtain ⟨m, rfl⟩ : ∃ m, n = m + 1 := ⟨n - 1, by omega⟩
    rw [ratchetref19_Grant_l26, cond_neg (by omega), gfrom]; simp
  | succ d ih =>
    intro n i h1 h2
    obtain ⟨m, rfl⟩ : ∃ m, n = m + 1 := ⟨n - 1, by omega⟩
    have hm : ((last + 1).toNat + i) % l.length < l.length := Nat.mod_lt _ hp
    have w : w64 (last + ((i + 1 : Nat) : Int)) = (((last + 1).toNat + i : Nat) : Int) := by
      rw [w64_id (by omega) (by omega)]; omega
    rw [ratchetref19_Grant_l26, cond_pos (by omega), cond_neg (by omega), w, tmod_nat, at?_lt hm, some_bind']
    by_cases e : l[((last + 1).toNat + i) % l.length] = 1
    · rw [cond_pos e, gfrom_hit (by rw [List.getElem?_eq_getElem hm, e]), if_neg (by have := Int.natCast_nonneg (((last + 1).toNat + i) % l.length); omega)]
    · rw [cond_neg e, gfrom_miss (by rw [List.getElem?_eq_getElem hm]; simpa using e), w64_succ (by omega)]
      exact ih m (i + 1) (by omega) (by omega)
theorem grant_eq (N : Nat) (last : Int) (l : List Int) (h0 : l ≠ []) (hl : l.length ≤ 1000) (hb : -1 ≤ last ∧ last ≤ 1000) (hN : l.length < N) (k : Int → Option R) : queues_grant N last l k = k (mgrant last l) := by
  unfold queues_grant mgrant
  have := grant_loop N (fun z => k z) (k (-1)) last l h0 hl hb l.length N 0 (by omega) (by omega)
  rw [Int.natCast_zero] at this
  rw [this]; split
  · rename_i e; rw [e]
  · rfl
theorem Grant_eq (N : Nat) (last : Int) (l : List Int) (h0 : l ≠ []) (hl : l.length ≤ 1000) (hb : -1 ≤ last ∧ last ≤ 1000) (hN : l.length < N) (k : Int → Option R) : ratchetref19_Grant N last l k = k (mgrant last l) := by
  unfold ratchetref19_Grant mgrant
  have := Grant_loop N (fun z => k z) (k (-1)) last l h0 hl hb l.length N 0 (by omega) (by omega)
  rw [show ((0 + 1 : Nat) : Int) = 1 from rfl] at this
  rw [this]; split
  · rename_i e; rw [e]
  · rfl
theorem gfrom_range (l : List Int) (b : Nat) (h0 : l ≠ []) : ∀ (d i : Nat), gfrom l b d i = -1 ∨ (0 ≤ gfrom l b d i ∧ gfrom l b d i < l.length)
  | 0, i => .inl rfl
  | d + 1, i => by
    unfold gfrom
    split
    · have := Nat.mod_lt (b + i) (List.length_pos_iff.2 h0)
      exact .inr ⟨Int.natCast_nonneg _, by exact_mod_cast this⟩
    · exact gfrom_range l b h0 d (i + 1)
theorem aserr_ok {l : List Int} (h : aserr l = 0) : l ≠ [] ∧ l.length ≤ 8 ∧ ∀ x, x ∈ l → 0 ≤ x ∧ x ≤ 1 := by
  unfold aserr at h
  split at h
  · rename_i c
    split at h
    · cases h
    · rename_i e
      refine ⟨fun q => by subst q; simp at c, c.2, fun x hx => ?_⟩
      have e2 : ∀ x, x ∈ l → flag x = true := by simpa using e
      have := e2 x hx
      unfold flag at this
      exact of_decide_eq_true this
  · cases h
def lerr (last : Int) (l : List Int) : Int := if -1 ≤ last ∧ last ≤ (l.length : Int) - 1 then 0 else 2
theorem lastErr_eq (N : Nat) (last : Int) (l : List Int) (hl : l.length ≤ 1000) (k : Int → Option R) : ratchetref19_LastErr N last l k = k (lerr last l) := by
  unfold ratchetref19_LastErr lerr
  rw [Within_eq, w64_id (by omega) (by omega)]
  by_cases c : -1 ≤ last ∧ last ≤ (l.length : Int) - 1 <;> simp [c]
theorem grantOf_eq (N : Nat) (last : Int) (l : List Int) (hl : l.length ≤ 1000) (hN : l.length + 3 ≤ N) (k : Int → Int → Option R) :
    queues_GrantOf N last l k = if aserr l = 0 then (if lerr last l = 0 then (if mgrant last l = -1 then k 0 12 else k (mgrant last l) 0) else k 0 (lerr last l)) else k 0 (aserr l) := by
  unfold queues_GrantOf
  rw [asksErr_eq N l (by omega) (by omega), within_eq, w64_id (by omega) (by omega), unless_eq, first2 N (by omega)]
  by_cases a : aserr l = 0
  · rw [if_pos a, if_pos a]
    obtain ⟨a1, a2, _⟩ := aserr_ok a
    by_cases c : -1 ≤ last ∧ last ≤ (l.length : Int) - 1
    · rw [grant_eq N last l a1 hl (by omega) (by omega)]
      unfold lerr
      by_cases d : mgrant last l = -1 <;> simp [c, d]
    · unfold lerr; simp [c]
  · rw [if_neg a, if_neg a, cond_pos a]

/-! ### Rounds -/
theorem copyLists_loop (N : Nat) (k0 : Option R) (k1 : List (List Int) → Option R) (l : List (List Int)) (hl : l.length ≤ 1000) (hi : ∀ x, x ∈ l → x.length ≤ 1000) : ∀ (n i : Nat), l.length < n + i → i ≤ l.length →
    ratchetbase_CopyLists_l58 N k0 k1 n l i (l.take i) = k1 l := by
  intro n
  induction n with
  | zero => intro i h1 h2; omega
  | succ n ih =>
    intro i h1 h2
    rw [ratchetbase_CopyLists_l58]
    by_cases h : i < l.length
    · have := hi l[i] (List.getElem_mem h)
      rw [cond_pos (by omega), at?_lt h, some_bind', copyInts_eq N _ (by omega), roomB_of (by rw [List.length_take]; omega), cond_true, w64_succ (by omega), ← List.take_succ_eq_append_getElem h]
      exact ih (i + 1) (by omega) (by omega)
    · rw [cond_neg (by omega), List.take_of_length_le (by omega)]
theorem copyLists_eq (N : Nat) (l : List (List Int)) (hl : l.length ≤ 1000) (hi : ∀ x, x ∈ l → x.length ≤ 1000) (hN : l.length < N) (k : List (List Int) → Option R) : ratchetbase_CopyLists N l k = k l := by
  unfold ratchetbase_CopyLists
  have := copyLists_loop N (k []) (fun z => k z) l hl hi N 0 (by omega) (by omega)
  rw [Int.natCast_zero, List.take_zero] at this
  exact this
/-- The error of a round; of the rounds, m being the askers of the first one. -/
def rerr (m : Nat) (l : List Int) : Int := if l.length = m then aserr l else 10
def rerrs (m : Nat) : List (List Int) → Int
  | [] => 0
  | x :: l => if rerr m x = 0 then rerrs m l else rerr m x
def rndErr (l : List (List Int)) : Int := if l.length ≤ 100 then rerrs (l.headD []).length l else 8
theorem rounds_loop (N : Nat) (k0 : Int → Int → List (List Int) → Option R) (k1 : List (List Int) → Option R) (g : Int → Option R) (l : List (List Int)) (hk : ∀ i e, k0 i e l = g e) (x : List Int) (r : List (List Int)) (e : l = x :: r) (hl : l.length ≤ 1000) (hi : ∀ x, x ∈ l → x.length ≤ 1000) (hN : 1010 ≤ N) : ∀ (n i : Nat), l.length < n + i → i ≤ l.length →
    queues_each_Lint_l26 N k0 k1 n l l.length i l = if rerrs x.length (l.drop i) = 0 then k1 l else g (rerrs x.length (l.drop i)) := by
  intro n
  induction n with
  | zero => intro i h1 h2; omega
  | succ n ih =>
    intro i h1 h2
    rw [queues_each_Lint_l26]
    by_cases h : i < l.length
    · have hq := hi l[i] (List.getElem_mem h)
      have e0 : at? l 0 = some x := by rw [e]; rfl
      unfold queues_GrantsFor_c1
      rw [cond_pos (by omega), at?_lt h, some_bind', e0, some_bind', unless_eq, asksErr_eq N _ (by omega) (by omega), first2 N (by omega), drop_cons h, rerrs]
      dsimp only
      have := ih (i + 1) (by omega) (by omega)
      rw [w64_succ (by omega)]
      unfold rerr
      by_cases c : l[i].length = x.length
      · have c' : ((l[i].length : Int) = (x.length : Int)) := by omega
        rw [if_pos c]
        simp only [c', decide_true, if_true]
        by_cases d : aserr l[i] = 0
        · rw [if_pos d, cond_neg (by simp [d]), this]
        · rw [if_neg d, cond_pos d, hk, if_neg d]
      · have c' : ¬ ((l[i].length : Int) = (x.length : Int)) := by omega
        rw [if_neg c]
        simp [c', hk]
    · rw [cond_neg (by omega)]
      have : i = l.length := by omega
      subst this
      simp [rerrs]
theorem RoundsErr_loop (N : Nat) (k0 : Int → Option R) (k1 : Option R) (l : List (List Int)) (x : List Int) (r : List (List Int)) (e : l = x :: r) (hl : l.length ≤ 1000) (hi : ∀ x, x ∈ l → x.length ≤ 1000) (hN : 1010 ≤ N) : ∀ (n i : Nat), l.length < n + i → i ≤ l.length →
    ratchetref19_RoundsErr_l58 N k0 k1 n l i = if rerrs x.length (l.drop i) = 0 then k1 else k0 (rerrs x.length (l.drop i)) := by
  intro n
  induction n with
  | zero => intro i h1 h2; omega
  | succ n ih =>
    intro i h1 h2
    rw [ratchetref19_RoundsErr_l58]
    by_cases h : i < l.length
    · have hq := hi l[i] (List.getElem_mem h)
      have e0 : at? l 0 = some x := by rw [e]; rfl
      have := ih (i + 1) (by omega) (by omega)
      rw [cond_pos (by omega), at?_lt h, some_bind', e0, some_bind', some_bind', AsksErr_eq N _ (by omega) (by omega), w64_succ (by omega), this, drop_cons h, rerrs]
      unfold rerr
      by_cases c : l[i].length = x.length
      · rw [cond_neg (by omega), if_pos c]
        by_cases d : aserr l[i] = 0
        · rw [if_pos d, cond_neg (by simp [d])]
        · rw [if_neg d, cond_pos d, if_neg d]
      · rw [cond_pos (by omega), if_neg c]
        simp
    · rw [cond_neg (by omega)]
      have : i = l.length := by omega
      subst this
      simp [rerrs]
theorem RoundsErr_eq (N : Nat) (l : List (List Int)) (hl : l.length ≤ 1000) (hi : ∀ x, x ∈ l → x.length ≤ 1000) (hN : 1010 ≤ N) (k : Int → Option R) : ratchetref19_RoundsErr N l k = k (rndErr l) := by
  unfold ratchetref19_RoundsErr rndErr
  by_cases c : l.length ≤ 100
  · rw [cond_neg (by omega), if_pos c]
    match l, hl, hi, c with
    | [], _, _, _ =>
      obtain ⟨m, rfl⟩ : ∃ m, N = m + 1 := ⟨N - 1, by omega⟩
      rw [ratchetref19_RoundsErr_l58]; simp [rerrs]
    | x :: r, hl, hi, _ =>
      have e := RoundsErr_loop N (fun z => k z) (k 0) (x :: r) x r rfl hl hi hN N 0 (by omega) (by omega)
      rw [Int.natCast_zero] at e
      rw [e, List.drop_zero, List.headD_cons]
      split
      · rename_i q; rw [q]
      · rfl
  · rw [cond_pos (by omega), if_neg c]

/-- Who is granted in each round. -/
def mgrants : Int → List (List Int) → List Int
  | _, [] => []
  | last, x :: l => mgrant last x :: mgrants (if mgrant last x = -1 then last else mgrant last x) l
theorem mgrants_len : ∀ (last : Int) (l : List (List Int)), (mgrants last l).length = l.length
  | _, [] => rfl
  | last, x :: l => by simp [mgrants, mgrants_len _ l]
def Gd (m : Nat) (l : List (List Int)) : Prop := ∀ x, x ∈ l → x ≠ [] ∧ x.length = m ∧ m ≤ 8 ∧ ∀ y, y ∈ x → 0 ≤ y ∧ y ≤ 1
theorem good_of {m : Nat} : ∀ {l : List (List Int)}, rerrs m l = 0 → Gd m l
  | [], _, x, hx => by cases hx
  | y :: l, h, x, hx => by
    unfold rerrs at h
    split at h
    · rename_i e
      rcases List.mem_cons.1 hx with rfl | hx
      · unfold rerr at e
        split at e
        · rename_i q
          obtain ⟨a1, a2, a3⟩ := aserr_ok e
          exact ⟨a1, q, by omega, a3⟩
        · cases e
      · exact good_of h x hx
    · rename_i e; exact absurd h e
theorem next_range {last : Int} {x : List Int} (h0 : x ≠ []) (hx : x.length ≤ 8) (hb : -1 ≤ last ∧ last ≤ 7) : -1 ≤ (if mgrant last x = -1 then last else mgrant last x) ∧ (if mgrant last x = -1 then last else mgrant last x) ≤ 7 := by
  have := gfrom_range x (last + 1).toNat h0 x.length 0
  unfold mgrant
  split <;> omega
theorem grantsFor_loop (N : Nat) (hN : 1010 ≤ N) (k0 : Option R) (k1 : List Int → Option R) (m : Nat) (l : List (List Int)) (hl : l.length ≤ 1000) (hg : Gd m l) : ∀ (n i : Nat) (last : Int) (out : List Int), l.length < n + i → i ≤ l.length → -1 ≤ last ∧ last ≤ 7 → out.length ≤ i →
    queues_GrantsFor_l506 N k0 k1 n last l l.length i out = k1 (out ++ mgrants last (l.drop i)) := by
  intro n
  induction n with
  | zero => intro i last out h1 h2; omega
  | succ n ih =>
    intro i last out h1 h2 hb ho
    rw [queues_GrantsFor_l506]
    by_cases h : i < l.length
    · obtain ⟨g1, g2, g3, g4⟩ := hg l[i] (List.getElem_mem h)
      rw [cond_pos (by omega), at?_lt h, some_bind', grant_eq N last _ g1 (by omega) (by omega) (by omega), roomB_of (by omega), cond_true, w64_succ (by omega), drop_cons h, mgrants]
      have hn := next_range (last := last) g1 (by omega) hb
      by_cases c : mgrant last l[i] = -1
      · rw [cond_neg (by simp [c])]
        rw [if_pos c] at hn ⊢
        rw [ih (i + 1) last _ (by omega) (by omega) hn (by simp; omega), List.append_assoc]; rfl
      · rw [cond_pos c]
        rw [if_neg c] at hn ⊢
        rw [ih (i + 1) _ _ (by omega) (by omega) hn (by simp; omega), List.append_assoc]; rfl
    · rw [cond_neg (by omega)]
      have : i = l.length := by omega
      subst this
      simp [mgrants]
theorem Grants_loop (N : Nat) (hN : 1010 ≤ N) (k0 : Option R) (k1 : List Int → Option R) (m : Nat) (l : List (List Int)) (hl : l.length ≤ 1000) (hg : Gd m l) : ∀ (n i : Nat) (last : Int) (out : List Int), l.length < n + i → i ≤ l.length → -1 ≤ last ∧ last ≤ 7 → out.length ≤ i →
    ratchetref19_Grants_l122 N k0 k1 n l last i out = k1 (out ++ mgrants last (l.drop i)) := by
  intro n
  induction n with
  | zero => intro i last out h1 h2; omega
  | succ n ih =>
    intro i last out h1 h2 hb ho
    rw [ratchetref19_Grants_l122]
    by_cases h : i < l.length
    · obtain ⟨g1, g2, g3, g4⟩ := hg l[i] (List.getElem_mem h)
      rw [cond_pos (by omega), at?_lt h, some_bind', Grant_eq N last _ g1 (by omega) (by omega) (by omega), roomB_of (by omega), cond_true, cond_true, w64_succ (by omega), drop_cons h, mgrants]
      have hn := next_range (last := last) g1 (by omega) hb
      by_cases c : mgrant last l[i] = -1
      · rw [cond_neg (by simp [c])]
        rw [if_pos c] at hn ⊢
        rw [ih (i + 1) last _ (by omega) (by omega) hn (by simp; omega), List.append_assoc]; rfl
      · rw [cond_pos c]
        rw [if_neg c] at hn ⊢
        rw [ih (i + 1) _ _ (by omega) (by omega) hn (by simp; omega), List.append_assoc]; rfl
    · rw [cond_neg (by omega)]
      have : i = l.length := by omega
      subst this
      simp [mgrants]
theorem grantsFor_eq (N : Nat) (hN : 1010 ≤ N) (l : List (List Int)) (hl : l.length ≤ 1000) (hi : ∀ x, x ∈ l → x.length ≤ 1000) (k : List Int → Int → Option R) : queues_GrantsFor N l k = if rndErr l = 0 then k (mgrants (-1) l) 0 else k [] (rndErr l) := by
  unfold queues_GrantsFor rndErr
  by_cases c : l.length ≤ 100
  · rw [cond_neg (by omega), if_pos c]
    unfold queues_each_Lint
    match l, hl, hi, c with
    | [], _, _, _ =>
      obtain ⟨m, rfl⟩ : ∃ m, N = m + 1 := ⟨N - 1, by omega⟩
      rw [queues_each_Lint_l26]
      simp only [List.length_nil, Int.natCast_zero]
      rw [cond_neg (by omega), cond_neg (by simp), queues_GrantsFor_l506]
      simp [rerrs, mgrants]
    | x :: r, hl, hi, _ =>
      have e := rounds_loop N (fun z4 z5 z6 => bif decide (z5 ≠ 0) then k [] z5 else queues_GrantsFor_l506 N (k [] 0) (fun z4 => k z4 0) N (-1) z6 ((z6.length : Nat) : Int) 0 []) (fun z7 => bif decide ((0 : Int) ≠ 0) then k [] 0 else queues_GrantsFor_l506 N (k [] 0) (fun z4 => k z4 0) N (-1) z7 ((z7.length : Nat) : Int) 0 []) (fun z5 => bif decide (z5 ≠ 0) then k [] z5 else queues_GrantsFor_l506 N (k [] 0) (fun z4 => k z4 0) N (-1) (x :: r) (((x :: r).length : Nat) : Int) 0 []) (x :: r) (fun i e => rfl) x r rfl hl hi hN N 0 (by omega) (by omega)
      rw [Int.natCast_zero] at e
      rw [e, List.drop_zero, List.headD_cons]
      by_cases q : rerrs x.length (x :: r) = 0
      · rw [if_pos q, if_pos q, cond_neg (by simp)]
        have := grantsFor_loop N hN (k [] 0) (fun z4 => k z4 0) x.length (x :: r) hl (good_of q) N 0 (-1) [] (by omega) (by omega) (by omega) (by simp)
        simpa using this
      · rw [if_neg q, if_neg q, cond_pos q]
  · rw [cond_pos (by omega), if_neg c]; rfl
theorem Grants_eq (N : Nat) (hN : 1010 ≤ N) (m : Nat) (l : List (List Int)) (hl : l.length ≤ 1000) (hg : Gd m l) (k : List Int → Option R) : ratchetref19_Grants N l k = k (mgrants (-1) l) := by
  unfold ratchetref19_Grants
  have := Grants_loop N hN (k []) (fun z4 => k z4) m l hl hg N 0 (-1) [] (by omega) (by omega) (by omega) (by simp)
  simpa using this

/-! ### Whoever asks long enough is granted -/
/-- How far an asker is behind the last one that was granted. -/
def dist (m : Nat) (last : Int) (k : Nat) : Nat := (k + m - ((last + 1).toNat % m)) % m
theorem gfrom_before (l : List Int) (b : Nat) (h0 : l ≠ []) : ∀ (d i j : Nat), i ≤ j → j < i + d → l[(b + j) % l.length]? = some 1 → ∃ p, i ≤ p ∧ p ≤ j ∧ gfrom l b d i = (((b + p) % l.length : Nat) : Int)
  | 0, i, j, h1, h2, _ => by omega
  | d + 1, i, j, h1, h2, h3 => by
    unfold gfrom
    split
    · exact ⟨i, Nat.le_refl _, h1, rfl⟩
    · rename_i hne
      have : i ≠ j := fun e => hne (e ▸ h3)
      obtain ⟨p, p1, p2, p3⟩ := gfrom_before l b h0 d (i + 1) j (by omega) (by omega) h3
      exact ⟨p, by omega, p2, p3⟩
theorem dist_lt {m : Nat} (hm : 0 < m) (last : Int) (k : Nat) : dist m last k < m := Nat.mod_lt _ hm
theorem mod_two {a m : Nat} (h : a < 2 * m) : a % m = if a < m then a else a - m := by
  split
  · exact Nat.mod_eq_of_lt (by assumption)
  · rw [Nat.mod_eq_sub_mod (by omega), Nat.mod_eq_of_lt (by omega)]
theorem dist_step {l : List Int} {last : Int} {k : Nat} (h0 : l ≠ []) (hl : l.length ≤ 8) (hk : k < l.length) (hb : -1 ≤ last ∧ last ≤ 7) (ha : l[k]? = some 1) : mgrant last l = k ∨ (0 ≤ mgrant last l ∧ dist l.length (mgrant last l) k < dist l.length last k) := by
  have hp : 0 < l.length := List.length_pos_iff.2 h0
  unfold mgrant
  generalize hb' : (last + 1).toNat = b
  have hd : dist l.length last k = (k + l.length - b % l.length) % l.length := by unfold dist; rw [hb']
  have hbm : b % l.length < l.length := Nat.mod_lt _ hp
  have hdl := dist_lt hp last k
  have hq : (b + dist l.length last k) % l.length = k := by
    rw [← Nat.mod_add_mod, hd]
    rw [mod_two (a := k + l.length - b % l.length) (by omega)]
    split <;> rw [mod_two (by omega)] <;> split <;> omega
  obtain ⟨p, p1, p2, p3⟩ := gfrom_before l b h0 l.length 0 (dist l.length last k) (by omega) (by omega) (by rw [hq]; exact ha)
  rw [p3]
  by_cases e : p = dist l.length last k
  · left; rw [e, hq]
  · right
    refine ⟨Int.natCast_nonneg _, ?_⟩
    have hpl : p < dist l.length last k := by omega
    unfold dist at hpl ⊢
    rw [hb'] at hpl ⊢
    have e1 : ((((b + p) % l.length : Nat) : Int) + 1).toNat = (b + p) % l.length + 1 := by omega
    rw [e1, Nat.mod_add_mod]
    have e2 : (b + p) % l.length = (b % l.length + p) % l.length := by rw [Nat.mod_add_mod]
    have e3 : (b + p + 1) % l.length = (b % l.length + (p + 1)) % l.length := by rw [Nat.mod_add_mod, Nat.add_assoc]
    rw [e3]
    generalize b % l.length = c at *
    have hpp : p + 1 ≤ l.length := by omega
    rw [mod_two (a := c + (p + 1)) (by omega)]
    have e4 : (k + l.length - c) % l.length = if k < c then k + l.length - c else k - c := by
      rw [mod_two (by omega)]; split <;> split <;> omega
    rw [e4] at hpl ⊢
    have e5 : (k + l.length - (if c + (p + 1) < l.length then c + (p + 1) else c + (p + 1) - l.length)) % l.length = if k < c then k + l.length - c - (p + 1) else k - c - (p + 1) := by
      rw [mod_two (by split <;> omega)]
      by_cases q1 : c + (p + 1) < l.length <;> by_cases q2 : k < c <;> simp only [q1, q2, if_true, if_false] at hpl ⊢ <;> (split <;> omega)
    rw [e5]
    by_cases q2 : k < c <;> simp only [q2, if_true, if_false] at hpl ⊢ <;> omega
theorem wait_loop (N : Nat) (k0 : Bool → Option R) (k1 : List (List Int) → List Int → Int → Int → Option R) (m : Nat) (l : List (List Int)) (g : List Int) (hl : l.length ≤ 1000) (hg : Gd m l) (hgl : g.length = l.length) (hm : 0 < m) (k : Nat) (hk : k < m) : ∀ (n i : Nat) (last : Int) (wt : Nat), l.length < n + i → i ≤ l.length → -1 ≤ last ∧ last ≤ 7 → g.drop i = mgrants last (l.drop i) → wt + dist m last k ≤ m - 1 →
    ratchetlaw19_QueuesGrants_l33553702 N k0 k1 n l g m k wt i = k1 l g m k := by
  intro n
  induction n with
  | zero => intro i last wt h1 h2; omega
  | succ n ih =>
    intro i last wt h1 h2 hb he hw
    rw [ratchetlaw19_QueuesGrants_l33553702]
    by_cases h : i < l.length
    · have h' : i < g.length := by omega
      obtain ⟨g1, g2, g3, g4⟩ := hg l[i] (List.getElem_mem h)
      have hk' : k < l[i].length := by omega
      have g5 := g4 _ (List.getElem_mem hk')
      have hn := next_range (last := last) g1 (by omega) hb
      rw [drop_cons h, drop_cons h', mgrants] at he
      injection he with he he'
      rw [cond_pos (by omega), at?_lt h, some_bind', at?_lt hk', some_bind', at?_lt h', some_bind', w64_succ (show i ≤ _ by omega)]
      have hd := dist_lt hm (if mgrant last l[i] = -1 then last else mgrant last l[i]) k
      by_cases c : l[i][k] = 0
      · rw [cond_pos c, cond_neg (by omega)]
        exact ih (i + 1) _ 0 (by omega) (by omega) hn he' (by omega)
      · rw [cond_neg c]
        by_cases d : g[i] = k
        · rw [cond_pos d, cond_neg (by omega)]
          exact ih (i + 1) _ 0 (by omega) (by omega) hn he' (by omega)
        · have ha : l[i][k]? = some 1 := by rw [List.getElem?_eq_getElem hk']; congr 1; omega
          rcases dist_step g1 (by omega) hk' hb ha with q | ⟨q1, q2⟩
          · exact absurd (he.trans q) d
          · rw [if_neg (by omega)] at hn he' hd
            rw [g2] at q2
            rw [cond_neg d, w64_succ (by omega), cond_neg (by omega)]
            exact ih (i + 1) _ (wt + 1) (by omega) (by omega) hn he' (by omega)
    · rw [cond_neg (by omega)]
theorem fair_loop (N : Nat) (hN : 1010 ≤ N) (k0 : Bool → Option R) (k1 : Option R) (m : Nat) (l : List (List Int)) (hl : l.length ≤ 1000) (hg : Gd m l) (hm : 0 < m) (hm8 : m ≤ 8) : ∀ (n k : Nat), m < n + k → k ≤ m →
    ratchetlaw19_QueuesGrants_l262138 N k0 k1 n l (mgrants (-1) l) m k = k1 := by
  intro n
  induction n with
  | zero => intro k h1 h2; omega
  | succ n ih =>
    intro k h1 h2
    rw [ratchetlaw19_QueuesGrants_l262138]
    by_cases h : k < m
    · rw [cond_pos (by omega)]
      have hd := dist_lt hm (-1) k
      have := wait_loop N (fun z4 => k0 z4) (fun z5 z6 z7 z8 => ratchetlaw19_QueuesGrants_l262138 N k0 k1 n z5 z6 z7 (w64 (z8 + 1))) m l (mgrants (-1) l) hl hg (mgrants_len _ _) hm k h N 0 (-1) 0 (by omega) (by omega) (by omega) (by simp) (by omega)
      simp only [Int.natCast_zero] at this
      rw [this, w64_succ (by omega)]
      exact ih (k + 1) (by omega) (by omega)
    · rw [cond_neg (by omega)]
theorem len_loop (N : Nat) (k0 : Bool → Option R) (k1 : Int → List Int → List (List Int) → Option R) (last : Int) (a : List Int) (l : List (List Int)) (hl : l.length ≤ 1000) : ∀ (n i : Nat), l.length < n + i → i ≤ l.length →
    ratchetlaw19_QueuesGrants_l122 N k0 k1 n last a l i = if (l.drop i).all (fun x => decide (x.length ≤ 10)) then k1 last a l else k0 true := by
  intro n
  induction n with
  | zero => intro i h1 h2; omega
  | succ n ih =>
    intro i h1 h2
    rw [ratchetlaw19_QueuesGrants_l122]
    by_cases h : i < l.length
    · rw [cond_pos (by omega), at?_lt h, some_bind', drop_cons h, List.all_cons]
      by_cases c : l[i].length ≤ 10
      · rw [cond_neg (by omega), w64_succ (by omega), ih (i + 1) (by omega) (by omega)]; simp [c]
      · rw [cond_pos (by omega)]; simp [c]
    · rw [cond_neg (by omega)]
      have : i = l.length := by omega
      subst this
      simp
/-- What is asked of the rounds. -/
theorem tail_ok (l : List (List Int)) (hl : l.length ≤ 102) (hi : ∀ x, x ∈ l → x.length ≤ 1000) (k : Bool → Option R) :
    (if rndErr l = 0 then
      (ratchetref19_Grants 2000 l fun y16 => ratchetbase_Ints 2000 (mgrants (-1) l) y16 fun y17 => bif !y17 then k false else bif decide (((l.length : Nat) : Int) = 0) then k true else (at? l 0).bind fun x18 => ratchetlaw19_QueuesGrants_l262138 2000 (fun z19 => k z19) (k true) 2000 l (mgrants (-1) l) ((x18.length : Nat) : Int) 0)
      else k true) = k true := by
  by_cases c : rndErr l = 0
  · rw [if_pos c]
    unfold rndErr at c
    split at c
    · have hg := good_of c
      rw [Grants_eq 2000 (by omega) _ l (by omega) hg, ints_same 2000 _ (by rw [mgrants_len]; omega) (by rw [mgrants_len]; omega)]
      match l, hl, hg with
      | [], _, _ => simp
      | x :: r, hl, hg =>
        obtain ⟨q1, q2, q3, q4⟩ := hg x List.mem_cons_self
        have e0 : at? (x :: r) 0 = some x := rfl
        rw [show (!true) = false from rfl, cond_false, cond_neg (by simp only [List.length_cons]; omega), e0, some_bind']
        have := fair_loop 2000 (by omega) (fun z19 => k z19) (k true) x.length (x :: r) (by omega) hg (List.length_pos_iff.2 q1) q3 2000 0 (by omega) (by omega)
        simpa using this
    · cases c
  · rw [if_neg c]
theorem pureQueuesGrants : PureQueuesGrants := by
  intro last a l ok0 ok1 ok2
  refine ⟨2000, fun {R} k => ?_⟩
  unfold ratchetlaw19_QueuesGrants
  rw [awake_ok, show (!true) = false from rfl, cond_false]
  by_cases ha : a.length ≤ 10
  · by_cases hl : l.length ≤ 102
    · rw [cond_neg (by omega), cond_neg (by omega)]
      rw [show (0 : Int) = ((0 : Nat) : Int) from rfl, len_loop 2000 _ _ last a l (by omega) 2000 0 (by omega) (by omega), List.drop_zero]
      by_cases hi : l.all (fun x => decide (x.length ≤ 10)) = true
      · have hi' : ∀ x, x ∈ l → x.length ≤ 1000 := fun x hx => by
          have := List.all_eq_true.1 hi x hx
          have := of_decide_eq_true this
          omega
        have ht := tail_ok l hl hi' k
        rw [if_pos hi]
        simp only [copyInts_eq 2000 a (by omega), grantOf_eq 2000 last a (by omega) (by omega), copyLists_eq 2000 l (by omega) hi' (by omega), AsksErr_eq 2000 a (by omega) (by omega), lastErr_eq 2000 last a (by omega), grantsFor_eq 2000 (by omega) l (by omega) hi', RoundsErr_eq 2000 l (by omega) hi' (by omega), Int.natCast_zero]
        by_cases c : aserr a = 0
        · obtain ⟨a1, a2, a3⟩ := aserr_ok c
          by_cases d : lerr last a = 0
          · have hb : -1 ≤ last ∧ last ≤ 1000 := by
              unfold lerr at d; split at d
              · omega
              · cases d
            by_cases e : mgrant last a = -1
            · by_cases f : rndErr l = 0
              · rw [if_pos f] at ht
                simpa [c, d, e, f, Grant_eq 2000 last a a1 (by omega) hb (by omega)] using ht
              · simp [c, d, e, f, Grant_eq 2000 last a a1 (by omega) hb (by omega)]
            · by_cases f : rndErr l = 0
              · rw [if_pos f] at ht
                simpa [c, d, e, f, Grant_eq 2000 last a a1 (by omega) hb (by omega)] using ht
              · simp [c, d, e, f, Grant_eq 2000 last a a1 (by omega) hb (by omega)]
          · by_cases f : rndErr l = 0
            · rw [if_pos f] at ht
              simpa [c, d, f] using ht
            · simp [c, d, f]
        · by_cases f : rndErr l = 0
          · rw [if_pos f] at ht
            simpa [c, f] using ht
          · simp [c, f]
      · rw [if_neg hi]
    · rw [cond_neg (by omega), cond_pos (by omega)]
  · rw [cond_pos (by omega)]
end
end Am
end Go.Proofs.Ytcmaeglondkpdaa
