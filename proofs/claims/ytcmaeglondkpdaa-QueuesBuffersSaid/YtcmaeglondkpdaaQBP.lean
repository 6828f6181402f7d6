/- The statement about completion buffers on plain data. -/
import Derived.Test.YtcmaeglondkpdaaQBF
import Derived.Test.YtcmaeglondkpdaaPu
set_option linter.unusedVariables false
set_option linter.unusedSimpArgs false
namespace Go.Proofs.Ytcmaeglondkpdaa
namespace Am
section
variable {R : Type}
theorem awake_ok (k : Bool → Option R) : ratchetlaw19_awake 300 k = k true := by kernel_rfl

theorem within_eq (N : Nat) (a lo hi : Int) (k : Bool → Option R) : queues_within N a lo hi k = k (decide (lo ≤ a ∧ a ≤ hi)) := by
  unfold queues_within
  by_cases h : lo ≤ a <;> simp [h]
theorem Within_eq (N : Nat) (a lo hi : Int) (k : Bool → Option R) : ratchetbase_Within N a lo hi k = k (decide (lo ≤ a ∧ a ≤ hi)) := by
  unfold ratchetbase_Within
  by_cases h : lo ≤ a <;> simp [h]
theorem unless_eq (N : Nat) (b : Bool) (e : Int) (k : Int → Option R) : queues_unless N b e k = k (if b = true then 0 else e) := by
  unfold queues_unless; cases b <;> rfl
theorem first_loop (N : Nat) (k0 : Int → Option R) (k1 : Option R) (l : List Int) (hl : l.length ≤ 1000000) : ∀ (n i : Nat), l.length < n + i → i ≤ l.length →
    queues_first_l26 N k0 k1 n l l.length i = match (l.drop i).find? (fun x => decide (x ≠ 0)) with | some x => k0 x | none => k1 := by
  intro n
  induction n with
  | zero => intro i h1 h2; omega
  | succ n ih =>
    intro i h1 h2
    rw [queues_first_l26]
    by_cases h : i < l.length
    · rw [cond_pos (by omega), at?_lt h, some_bind', drop_cons h, List.find?_cons]
      by_cases hx : l[i] = 0
      · rw [cond_neg (by simp [hx]), w64_id (by omega) (by omega)]
        simp only [hx, ne_eq, not_true, decide_false]
        exact ih (i + 1) (by omega) (by omega)
      · rw [cond_pos hx]; simp [hx]
    · rw [cond_neg (by omega)]
      have : i = l.length := by omega
      subst this
      simp
theorem first_eq (N : Nat) (l : List Int) (hN : l.length < N) (hl : l.length ≤ 1000000) (k : Int → Option R) : queues_first N l k = k ((l.find? (fun x => decide (x ≠ 0))).getD 0) := by
  unfold queues_first
  have := first_loop N (fun z => k z) (k 0) l hl N 0 (by omega) (by omega)
  rw [Int.natCast_zero] at this
  rw [this, List.drop_zero]
  cases l.find? (fun x => decide (x ≠ 0)) <;> rfl
theorem first2 (N : Nat) (hN : 3 ≤ N) (a b : Int) (k : Int → Option R) : queues_first N [a, b] k = k (if a = 0 then b else a) := by
  rw [first_eq N _ (by simp; omega) (by simp)]
  by_cases ha : a = 0 <;> by_cases hb : b = 0 <;> simp [ha, hb]

theorem isNumber_eq (N : Nat) (a : Int) (k : Bool → Option R) : queues_isNumber N a k = k (decide (0 ≤ a ∧ a ≤ 1000000)) := by
  unfold queues_isNumber; rw [within_eq]

/-- The error of an act. -/
def aerr (s : Int) (x : Int × Int × Int) : Int :=
  if 0 ≤ x.1 ∧ x.1 ≤ 2 then (if x.1 = 1 ∧ ¬ ((0 ≤ x.2.1 ∧ x.2.1 ≤ s - 1) ∧ (0 ≤ x.2.2 ∧ x.2.2 ≤ 1000000)) then 2 else 0) else 15
theorem c1_eq (N : Nat) (hN : 3 ≤ N) (i : Int) (x : Int × Int × Int) (s : Int) (h1 : 1 ≤ s) (h2 : s ≤ 8) (k : Int → Int → Option R) : queues_BufferRun_c1 N i x.1 x.2.1 x.2.2 s k = k (aerr s x) s := by
  unfold queues_BufferRun_c1 aerr
  have w : w64 (s - 1) = s - 1 := w64_id (by omega) (by omega)
  simp only [within_eq, isNumber_eq, unless_eq, first2 N hN, w]
  by_cases a : 0 ≤ x.1 ∧ x.1 ≤ 2 <;> by_cases b : x.1 = 1 <;> by_cases c : 0 ≤ x.2.1 ∧ x.2.1 ≤ s - 1 <;> by_cases d : 0 ≤ x.2.2 ∧ x.2.2 ≤ 1000000 <;> simp [a, b, c, d]

/-- The error of acts. -/
def aerrs (s : Int) (l : List (Int × Int × Int)) : Int := ((l.map (aerr s)).find? (fun x => decide (x ≠ 0))).getD 0
theorem aerrs_cons (s : Int) (x : Int × Int × Int) (l : List (Int × Int × Int)) : aerrs s (x :: l) = if aerr s x = 0 then aerrs s l else aerr s x := by
  unfold aerrs; rw [List.map_cons, List.find?_cons]
  by_cases h : aerr s x = 0 <;> simp [h]
theorem each_loop (N : Nat) (hN : 3 ≤ N) (s : Int) (h1 : 1 ≤ s) (h2 : s ≤ 8) (k0 : Int → Int → Int → Option R) (k1 : Int → Option R) (g : Int → Option R) (hk : ∀ i e, e ≠ 0 → k0 i e s = g e) (l : List (Int × Int × Int)) (hl : l.length ≤ 1000) : ∀ (n i : Nat), l.length < n + i → i ≤ l.length →
    queues_each_QueueAct_l26 N k0 k1 n l l.length i s = if aerrs s (l.drop i) = 0 then k1 s else g (aerrs s (l.drop i)) := by
  intro n
  induction n with
  | zero => intro i h1 h2; omega
  | succ n ih =>
    intro i q1 q2
    rw [queues_each_QueueAct_l26]
    by_cases h : i < l.length
    · rw [cond_pos (by omega), at?_lt h, some_bind', c1_eq N hN _ _ _ h1 h2, drop_cons h, aerrs_cons]
      by_cases hx : aerr s l[i] = 0
      · rw [cond_neg (by simp [hx]), w64_id (by omega) (by omega), if_pos hx]
        exact ih (i + 1) (by omega) (by omega)
      · rw [cond_pos hx, if_neg hx, hk _ _ hx, if_neg hx]
    · rw [cond_neg (by omega)]
      have : i = l.length := by omega
      subst this
      simp [aerrs]
theorem each_eq (N : Nat) (s : Int) (h1 : 1 ≤ s) (h2 : s ≤ 8) (l : List (Int × Int × Int)) (hl : l.length ≤ 1000) (hN : l.length + 3 ≤ N) (k : Int → Int → Int → Option R) (g : Int → Option R) (hk : ∀ i e, e ≠ 0 → k i e s = g e) :
    queues_each_QueueAct N l s k = if aerrs s l = 0 then k 0 0 s else g (aerrs s l) := by
  unfold queues_each_QueueAct
  have := each_loop N (by omega) s h1 h2 (fun z4 z5 z6 => k z4 z5 z6) (fun z7 => k 0 0 z7) g hk l hl N 0 (by omega) (by omega)
  rw [Int.natCast_zero] at this
  rw [this, List.drop_zero]

theorem actsErr_loop (N : Nat) (s : Int) (h1 : 1 ≤ s) (h2 : s ≤ 8) (k0 : Int → Option R) (k1 : Option R) (l : List (Int × Int × Int)) (hl : l.length ≤ 1000) : ∀ (n i : Nat), l.length < n + i → i ≤ l.length →
    ratchetref19_ActsErr_l122 N k0 k1 n s l i = if aerrs s (l.drop i) = 0 then k1 else k0 (aerrs s (l.drop i)) := by
  intro n
  induction n with
  | zero => intro i h1 h2; omega
  | succ n ih =>
    intro i q1 q2
    rw [ratchetref19_ActsErr_l122]
    by_cases h : i < l.length
    · rw [cond_pos (by omega), at?_lt h, some_bind', drop_cons h, aerrs_cons]
      have w : w64 (s - 1) = s - 1 := w64_id (by omega) (by omega)
      have w1 : w64 ((i : Int) + 1) = ((i + 1 : Nat) : Int) := w64_id (by omega) (by omega)
      have r := ih (i + 1) (by omega) (by omega)
      simp only [Within_eq, w, w1, r]
      unfold aerr
      generalize aerrs s (l.drop (i + 1)) = z
      generalize l[i] = x
      by_cases a : 0 ≤ x.1 ∧ x.1 ≤ 2 <;> by_cases b : x.1 = 1 <;> by_cases c : 0 ≤ x.2.1 ∧ x.2.1 ≤ s - 1 <;> by_cases d : 0 ≤ x.2.2 ∧ x.2.2 ≤ 1000000 <;> simp [a, b, c, d]
    · rw [cond_neg (by omega)]
      have : i = l.length := by omega
      subst this
      simp [aerrs]
/-- The error of all. -/
def berr (s : Int) (l : List (Int × Int × Int)) : Int := if 1 ≤ s ∧ s ≤ 8 then (if l.length ≤ 100 then aerrs s l else 8) else 2
theorem actsErr_eq (N : Nat) (s : Int) (l : List (Int × Int × Int)) (hN : 200 ≤ N) (k : Int → Option R) : ratchetref19_ActsErr N s l k = k (berr s l) := by
  unfold ratchetref19_ActsErr berr
  simp only [Within_eq]
  by_cases a : 1 ≤ s ∧ s ≤ 8
  · by_cases b : l.length ≤ 100
    · have e := actsErr_loop N s a.1 a.2 (fun z => k z) (k 0) l (by omega) N 0 (by omega) (by omega)
      rw [Int.natCast_zero] at e
      rw [e, List.drop_zero, cond_neg (show ¬ (100 : Int) < l.length by omega), if_pos a, if_pos b]
      by_cases c : aerrs s l = 0 <;> simp [a, c]
    · rw [cond_pos (show (100 : Int) < l.length by omega), if_pos a, if_neg b]
      simp [a]
  · rw [if_neg a]; simp [a]

/-! ### The buffer -/
abbrev BS := Nat × Nat × List (Int × Bool)
def mact (s : Nat) (x : Int × Int × Int) (st : BS) : Int × BS :=
  if x.1 = 0 then (if st.2.1 < s then ((((st.1 + st.2.1) % s : Nat) : Int), (st.1, st.2.1 + 1, st.2.2.set ((st.1 + st.2.1) % s) (0, false))) else (-1, st))
  else if x.1 = 1 then (if (x.2.1.toNat + s - st.1) % s < st.2.1 ∧ (st.2.2[x.2.1.toNat]?.map (·.2)) = some false then (0, (st.1, st.2.1, st.2.2.set x.2.1.toNat (x.2.2, true))) else (-1, st))
  else if 0 < st.2.1 ∧ (st.2.2[st.1]?.map (·.2)) = some true then ((st.2.2[st.1]?.map (·.1)).getD 0, ((st.1 + 1) % s, st.2.1 - 1, st.2.2)) else (-1, st)
structure WF (s : Nat) (st : BS) : Prop where
  s1 : 1 ≤ s
  s8 : s ≤ 8
  o : st.1 < s
  u : st.2.1 ≤ s
  l : st.2.2.length = s
  v : ∀ (p : Nat) (z : Int), st.2.2[p]? = some (z, true) → 0 ≤ z
def valid (s : Nat) (x : Int × Int × Int) : Prop := x.1 = 0 ∨ (x.1 = 1 ∧ 0 ≤ x.2.1 ∧ x.2.1.toNat < s ∧ 0 ≤ x.2.2 ∧ x.2.2 ≤ 1000000) ∨ x.1 = 2
theorem valid_of {s : Nat} {x : Int × Int × Int} (h : aerr s x = 0) : valid s x := by
  unfold aerr at h; unfold valid
  split at h
  · split at h
    · cases h
    · omega
  · cases h
theorem valids_of {s : Nat} : ∀ {l : List (Int × Int × Int)}, aerrs s l = 0 → ∀ x, x ∈ l → valid s x
  | [], _, x, hx => by cases hx
  | y :: l, h, x, hx => by
    rw [aerrs_cons] at h
    split at h
    · rename_i e
      rcases List.mem_cons.1 hx with rfl | hx
      · exact valid_of e
      · exact valids_of h x hx
    · rename_i e; exact absurd h e
theorem mod2 {a s : Nat} (h : a < 2 * s) : a % s = if a < s then a else a - s := by
  split
  · exact Nat.mod_eq_of_lt (by assumption)
  · rw [Nat.mod_eq_sub_mod (by omega), Nat.mod_eq_of_lt (by omega)]
theorem mact_wf {s : Nat} {x : Int × Int × Int} {st : BS} (h : WF s st) (hv : valid s x) : WF s (mact s x st).2 := by
  obtain ⟨o, u, pl⟩ := st
  obtain ⟨s1, s8, ho, hu, hl, hp⟩ := h
  dsimp only at ho hu hl hp
  have hm : ∀ a, a % s < s := fun a => Nat.mod_lt _ (by omega)
  unfold mact
  dsimp only
  split
  · split
    · refine ⟨s1, s8, ho, (by dsimp only; omega), (by simpa using hl), fun p z hz => ?_⟩
      dsimp only at hz
      rw [List.getElem?_set] at hz
      split at hz
      · split at hz
        · injection hz with hz; injection hz with _ hz; cases hz
        · cases hz
      · exact hp p z hz
    · exact ⟨s1, s8, ho, hu, hl, hp⟩
  · split
    · rename_i e
      split
      · refine ⟨s1, s8, ho, hu, (by simpa using hl), fun p z hz => ?_⟩
        dsimp only at hz
        rw [List.getElem?_set] at hz
        split at hz
        · split at hz
          · injection hz with hz; injection hz with hz _; subst hz
            rcases hv with hv | hv | hv <;> omega
          · cases hz
        · exact hp p z hz
      · exact ⟨s1, s8, ho, hu, hl, hp⟩
    · split
      · exact ⟨s1, s8, hm _, (by dsimp only; omega), hl, hp⟩
      · exact ⟨s1, s8, ho, hu, hl, hp⟩
theorem act_eq (N s : Nat) (x : Int × Int × Int) (st : BS) (h : WF s st) (hv : valid s x) (k : Int → Int → Int → List (Int × Bool) → Option R) :
    queues_buffer_act N x.1 x.2.1 x.2.2 st.1 st.2.1 st.2.2 k = k (mact s x st).1 (mact s x st).2.1 (mact s x st).2.2.1 (mact s x st).2.2.2 := by
  obtain ⟨o, u, pl⟩ := st
  obtain ⟨s1, s8, ho, hu, hl, hp⟩ := h
  dsimp only at ho hu hl hp ⊢
  subst hl
  have hm : ∀ a, a % pl.length < pl.length := fun a => Nat.mod_lt _ (by omega)
  have w1 : w64 ((o : Int) + u) = ((o + u : Nat) : Int) := w64_id (by omega) (by omega)
  have w2 : w64 ((u : Int) + 1) = ((u + 1 : Nat) : Int) := w64_id (by omega) (by omega)
  have w3 : w64 ((o : Int) + 1) = ((o + 1 : Nat) : Int) := w64_id (by omega) (by omega)
  have hne : ¬ ((pl.length : Int) = 0) := by omega
  unfold queues_buffer_act mact
  dsimp only
  rw [inR_nat, cond_pos ho]
  rcases hv with hv | ⟨hv, b1, b2, b3, b4⟩ | hv
  · rw [cond_pos hv, if_pos hv]
    by_cases c : u < pl.length
    · rw [cond_pos (by omega), cond_neg hne, w1, w2, tmod_nat, inR_nat, cond_pos (hm _), Int.toNat_natCast, List.getElem?_eq_getElem (hm _), some_bind', if_pos c]
    · rw [cond_neg (by omega), cond_neg (by omega), cond_neg (by omega), if_neg c]
  · have hx : x.2.1 = ((x.2.1.toNat : Nat) : Int) := by omega
    have w4 : w64 (w64 (x.2.1 - (o : Int)) + (pl.length : Int)) = ((x.2.1.toNat + pl.length - o : Nat) : Int) := by
      rw [w64_id (x := x.2.1 - (o : Int)) (by omega) (by omega), w64_id (by omega) (by omega)]; omega
    rw [cond_neg (by omega), cond_pos hv, if_neg (by omega), if_pos hv]
    unfold queues_buffer_isReserved
    rw [cond_neg hne, w4, tmod_nat, List.getElem?_eq_getElem b2]
    dsimp only
    by_cases c : (x.2.1.toNat + pl.length - o) % pl.length < u
    · rw [cond_pos (by omega), inR_of b1 (by omega)]
      simp only [cond_true, some_bind', Option.map_some, Option.some.injEq]
      cases e : pl[x.2.1.toNat].2
      · simp [c, e, List.getElem?_eq_getElem b2]
      · simp [c, e, hv, List.getElem?_eq_getElem b2]
    · rw [cond_neg (by omega), cond_neg (by omega), if_neg (by omega)]
  · rw [cond_neg (by omega), cond_neg (by omega), cond_pos hv, if_neg (by omega), if_neg (by omega)]
    by_cases c : 0 < u
    · have w5 : w64 ((u : Int) - 1) = ((u - 1 : Nat) : Int) := by rw [w64_id (by omega) (by omega)]; omega
      rw [cond_pos (by omega), Int.toNat_natCast, List.getElem?_eq_getElem ho, some_bind', cond_neg hne, w3, w5, tmod_nat]
      cases e : pl[o].2 <;> simp [c, e]
    · rw [cond_neg (by omega), if_neg (by omega)]
/-- The results of all acts. -/
def mrun (s : Nat) : List (Int × Int × Int) → BS → List Int
  | [], _ => []
  | x :: r, st => (mact s x st).1 :: mrun s r (mact s x st).2
theorem mrun_len (s : Nat) : ∀ (l : List (Int × Int × Int)) (st : BS), (mrun s l st).length = l.length
  | [], _ => rfl
  | x :: r, st => by simp [mrun, mrun_len s r]
theorem run_loop (N s : Nat) (k0 : Option R) (k1 : List Int → Option R) (l : List (Int × Int × Int)) (hl : l.length ≤ 1000) (hv : ∀ x, x ∈ l → valid s x) : ∀ (n i : Nat) (st : BS) (out : List Int), l.length < n + i → i ≤ l.length → WF s st → out.length ≤ i →
    queues_BufferRun_l506 N k0 k1 n l l.length i st.1 st.2.1 st.2.2 out = k1 (out ++ mrun s (l.drop i) st) := by
  intro n
  induction n with
  | zero => intro i st out h1 h2; omega
  | succ n ih =>
    intro i st out q1 q2 hw ho
    rw [queues_BufferRun_l506]
    by_cases h : i < l.length
    · have hx := hv l[i] (List.getElem_mem h)
      rw [cond_pos (by omega), at?_lt h, some_bind', act_eq N s _ st hw hx, drop_cons h, roomB_of (by omega), cond_true, w64_succ (by omega)]
      rw [ih (i + 1) _ _ (by omega) (by omega) (mact_wf hw hx) (by simp; omega), mrun, List.append_assoc]
      rfl
    · rw [cond_neg (by omega)]
      have : i = l.length := by omega
      subst this
      simp [mrun]
theorem wf0 {s : Nat} (h1 : 1 ≤ s) (h8 : s ≤ 8) : WF s (0, 0, List.replicate s (0, false)) :=
  ⟨h1, h8, by dsimp only; omega, Nat.zero_le _, List.length_replicate, fun p z h => by
    dsimp only at h
    rw [List.getElem?_replicate] at h
    split at h
    · injection h with h; injection h with _ h; cases h
    · cases h⟩
theorem bufferRun_eq (N : Nat) (s : Int) (l : List (Int × Int × Int)) (hl : l.length ≤ 1000) (hN : l.length + 3 ≤ N) (k : List Int → Int → Option R) :
    queues_BufferRun N s l k = if berr s l = 0 then k (mrun s.toNat l (0, 0, List.replicate s.toNat (0, false))) 0 else k [] (berr s l) := by
  unfold queues_BufferRun berr
  simp only [within_eq, unless_eq, first2 N (by omega)]
  by_cases a : 1 ≤ s ∧ s ≤ 8
  · by_cases b : l.length ≤ 100
    · have b' : (l.length : Int) ≤ 100 := by omega
      rw [each_eq N s a.1 a.2 l hl hN _ (fun e => k [] e) (fun i e he => by rw [cond_pos he])]
      by_cases c : aerrs s l = 0
      · obtain ⟨m, rfl⟩ : ∃ m : Nat, s = m := ⟨s.toNat, by omega⟩
        have e := run_loop N m (k [] 0) (fun z8 => k z8 0) l hl (valids_of c) N 0 (0, 0, List.replicate m (0, false)) [] (by omega) (by omega) (wf0 (by omega) (by omega)) (by simp)
        simp only [Int.natCast_zero, List.drop_zero, List.nil_append] at e
        simp [a, b, b', c, roomB_of (show m * 16 ≤ _ by omega), e]
      · simp [a, b, b', c]
    · have b' : ¬ (l.length : Int) ≤ 100 := by omega
      simp [a, b, b']
  · simp [a]

/-! ### The reference -/
def cf (p v o x : Int) : Int := if o = p ∧ x = -1 then v else x
def hit (p : Int) : List Int → List Int → Bool
  | o :: os, x :: xs => decide (o = p ∧ x = -1) || hit p os xs
  | _, _ => false
theorem inner_loop (N : Nat) (k0 : Int → List (Int × Int × Int) → Int → Int → Int → Option R) (k1 : Int → List (Int × Int × Int) → Int → Int → Int → List Int → List Int → List Int → Option R) (s next : Int) (l : List (Int × Int × Int)) (i : Nat) (hi : i < l.length) (op out : List Int) (hop : op.length ≤ 1000) :
    ∀ (n k : Nat) (vals : List Int) (res : Int), op.length < n + k → k ≤ op.length → vals.length = op.length →
      ratchetref19_Buffer_l4100794 N k0 k1 n s l next i res k op vals out = k1 s l next i (if hit l[i].2.1 (op.drop k) (vals.drop k) then 0 else res) op (vals.take k ++ List.zipWith (cf l[i].2.1 l[i].2.2) (op.drop k) (vals.drop k)) out := by
  intro n
  induction n with
  | zero => intro k vals res h1 h2; omega
  | succ n ih =>
    intro k vals res q1 q2 q3
    rw [ratchetref19_Buffer_l4100794]
    by_cases h : k < op.length
    · have h' : k < vals.length := by omega
      rw [cond_pos (by omega), inR_nat, cond_pos h, Int.toNat_natCast, List.getElem?_eq_getElem h, some_bind', at?_lt hi, some_bind', inR_nat, decide_eq_true h', List.getElem?_eq_getElem h']
      simp only [cond_true, some_bind', w64_succ (show k ≤ _ by omega)]
      have hd := drop_cons h
      have hd' := drop_cons h'
      rw [hd, hd', List.zipWith_cons_cons, hit]
      by_cases c : op[k] = l[i].2.1
      · rw [cond_pos c]
        by_cases d : vals[k] = -1
        · rw [cond_pos d, ih (k + 1) _ _ (by omega) (by omega) (by simpa using q3)]
          have t1 : (vals.set k l[i].2.2).take (k + 1) = vals.take k ++ [l[i].2.2] := by
            rw [List.take_add_one, List.take_set_of_le (Nat.le_refl _), List.getElem?_set_self h']; rfl
          have t2 : (vals.set k l[i].2.2).drop (k + 1) = vals.drop (k + 1) := List.drop_set_of_lt (by omega)
          rw [t1, t2, show cf l[i].2.1 l[i].2.2 op[k] vals[k] = l[i].2.2 from if_pos ⟨c, d⟩, decide_eq_true (⟨c, d⟩ : op[k] = l[i].2.1 ∧ vals[k] = -1)]
          simp
        · rw [cond_neg d, ih (k + 1) _ _ (by omega) (by omega) q3]
          rw [show cf l[i].2.1 l[i].2.2 op[k] vals[k] = vals[k] from if_neg (fun e => d e.2), decide_eq_false (fun e : op[k] = l[i].2.1 ∧ vals[k] = -1 => d e.2), Bool.false_or]
          rw [List.take_succ_eq_append_getElem h', List.append_assoc]; rfl
      · rw [cond_neg c, ih (k + 1) _ _ (by omega) (by omega) q3]
        rw [show cf l[i].2.1 l[i].2.2 op[k] vals[k] = vals[k] from if_neg (fun e => c e.1), decide_eq_false (fun e : op[k] = l[i].2.1 ∧ vals[k] = -1 => c e.1), Bool.false_or]
        rw [List.take_succ_eq_append_getElem h', List.append_assoc]; rfl
    · rw [cond_neg (by omega)]
      have : k = op.length := by omega
      subst this
      rw [List.drop_eq_nil_of_le (Nat.le_refl _), List.take_of_length_le (by omega)]
      simp [hit]

def va (pl : List (Int × Bool)) (p : Nat) : Int := match pl[p]? with
  | some (z, true) => z
  | _ => -1
def gop (s : Nat) (st : BS) : List Int := (List.range st.2.1).map fun j => (((st.1 + j) % s : Nat) : Int)
def gva (s : Nat) (st : BS) : List Int := (List.range st.2.1).map fun j => va st.2.2 ((st.1 + j) % s)

theorem hit_map (p : Int) (a b : Nat → Int) : ∀ l : List Nat, hit p (l.map a) (l.map b) = l.any fun j => decide (a j = p ∧ b j = -1)
  | [] => rfl
  | x :: l => by simp [hit, hit_map p a b l]
theorem zip_map (f : Int → Int → Int) (a b : Nat → Int) : ∀ l : List Nat, List.zipWith f (l.map a) (l.map b) = l.map fun j => f (a j) (b j)
  | [] => rfl
  | x :: l => by simp [zip_map f a b l]
/-- The completion, as the reference has it. -/
theorem complete_ref {s : Nat} {x : Int × Int × Int} {st : BS} (h : WF s st) (hx : x.1 = 1) (b1 : 0 ≤ x.2.1) (b2 : x.2.1.toNat < s) :
    (if hit x.2.1 (gop s st) (gva s st) then (0 : Int) else -1) = (mact s x st).1 ∧ List.zipWith (cf x.2.1 x.2.2) (gop s st) (gva s st) = gva s (mact s x st).2 ∧ gop s (mact s x st).2 = gop s st ∧ (mact s x st).2.1 = st.1 ∧ (mact s x st).2.2.1 = st.2.1 := by
  obtain ⟨o, u, pl⟩ := st
  obtain ⟨s1, s8, ho, hu, hl, hp⟩ := h
  dsimp only at ho hu hl hp ⊢
  obtain ⟨k, ⟨y, z⟩⟩ := x
  dsimp only at hx b1 b2 ⊢
  subst hx
  obtain ⟨p, rfl⟩ : ∃ p : Nat, y = p := ⟨y.toNat, by omega⟩
  simp only [Int.toNat_natCast] at b2 ⊢
  have key : ∀ j, j < u → (((o + j) % s : Nat) = p ↔ j = (p + s - o) % s) := by
    intro j hj
    rw [mod2 (show o + j < 2 * s by omega), mod2 (show p + s - o < 2 * s by omega)]
    split <;> split <;> omega
  have hva : ∀ q, q < s → (va pl q = -1 ↔ (pl[q]?.map (·.2)) = some false) := by
    intro q hq
    unfold va
    rw [List.getElem?_eq_getElem (by omega)]
    have := hp q (pl[q]'(by omega)).1
    rw [List.getElem?_eq_getElem (by omega)] at this
    revert this
    generalize pl[q]'(by omega) = w
    obtain ⟨a, b⟩ := w
    intro this
    cases b
    · simp
    · have := this rfl
      simp; omega
  unfold gop gva
  dsimp only
  rw [hit_map, zip_map]
  have hhit : ((List.range u).any fun j => decide ((((o + j) % s : Nat) : Int) = (p : Int) ∧ va pl ((o + j) % s) = -1)) = decide ((p + s - o) % s < u ∧ (pl[p]?.map (·.2)) = some false) := by
    rw [Bool.eq_iff_iff]
    simp only [List.any_eq_true, List.mem_range, decide_eq_true_eq]
    constructor
    · rintro ⟨j, hj, h1, h2⟩
      have h1' : (o + j) % s = p := by omega
      rw [h1'] at h2
      exact ⟨((key j hj).1 h1') ▸ hj, (hva p b2).1 h2⟩
    · rintro ⟨h1, h2⟩
      have h3 := (key _ h1).2 rfl
      exact ⟨_, h1, by rw [h3], by rw [h3]; exact (hva p b2).2 h2⟩
  rw [hhit]
  unfold mact
  dsimp only
  rw [if_neg (show ¬ ((1 : Int) = 0) by omega), if_pos (show (1 : Int) = 1 from rfl)]
  simp only [Int.toNat_natCast, decide_eq_true_eq]
  by_cases c : (p + s - o) % s < u ∧ (pl[p]?.map (·.2)) = some false
  · rw [if_pos c, if_pos c]
    refine ⟨rfl, ?_, rfl, rfl, rfl⟩
    refine List.map_congr_left fun j hj => ?_
    rw [List.mem_range] at hj
    unfold cf
    by_cases d : (o + j) % s = p
    · rw [d, if_pos ⟨rfl, (hva p b2).2 c.2⟩]
      unfold va
      rw [List.getElem?_set_self (by omega)]
    · rw [if_neg (fun e => d (by omega))]
      unfold va
      rw [List.getElem?_set_ne (fun e => d e.symm)]
  · rw [if_neg c, if_neg c]
    refine ⟨rfl, ?_, rfl, rfl, rfl⟩
    refine List.map_congr_left fun j hj => ?_
    rw [List.mem_range] at hj
    unfold cf
    rw [if_neg]
    rintro ⟨e1, e2⟩
    have d : (o + j) % s = p := by omega
    rw [d] at e2
    exact c ⟨((key j hj).1 d) ▸ hj, (hva p b2).1 e2⟩

theorem gop_len (s : Nat) (st : BS) : (gop s st).length = st.2.1 := by simp [gop]
theorem gva_len (s : Nat) (st : BS) : (gva s st).length = st.2.1 := by simp [gva]
theorem ref_loop (N s : Nat) (k0 : Option R) (k1 : List Int → Option R) (l : List (Int × Int × Int)) (hl : l.length ≤ 1000) (hv : ∀ x, x ∈ l → valid s x) (hN : 10 ≤ N) : ∀ (n i : Nat) (st : BS) (out : List Int), l.length < n + i → i ≤ l.length → WF s st → out.length ≤ i →
    ratchetref19_Buffer_l250 N k0 k1 n s l (((st.1 + st.2.1) % s : Nat) : Int) i (gop s st) (gva s st) out = k1 (out ++ mrun s (l.drop i) st) := by
  intro n
  induction n with
  | zero => intro i st out h1 h2; omega
  | succ n ih =>
    intro i st out q1 q2 hw ho
    rw [ratchetref19_Buffer_l250]
    by_cases h : i < l.length
    · have hx := hv l[i] (List.getElem_mem h)
      have hw' := mact_wf hw hx
      have nxt := fun y => ih (i + 1) (mact s l[i] st).2 (out ++ [y]) (by omega) (by omega) hw' (by simp; omega)
      rw [cond_pos (by omega), at?_lt h, some_bind', drop_cons h, mrun, w64_succ (show i ≤ 1000000000000 by omega), roomB_of (show (out.length + 1) * 8 ≤ _ by omega)]
      simp only [gop_len, gva_len, cond_true]
      obtain ⟨s1, s8, ho1, hu, hl1, hp⟩ := hw
      rw [roomB_of (show (st.2.1 + 1) * 8 ≤ _ by omega)]
      have hsplit : ∀ y, out ++ y :: mrun s (l.drop (i + 1)) (mact s l[i] st).2 = (out ++ [y]) ++ mrun s (l.drop (i + 1)) (mact s l[i] st).2 := by intro y; simp
      rw [hsplit]
      generalize hxx : l[i] = x at *
      rcases hx with e | ⟨e, b1, b2, b3, b4⟩ | e
      · rw [cond_pos e]
        unfold mact at nxt ⊢
        rw [if_pos e] at nxt ⊢
        by_cases c : st.2.1 < s
        · rw [cond_pos (by omega), cond_neg (by omega), w64_succ (Nat.le_trans (Nat.le_of_lt (Nat.mod_lt _ (show 0 < s by omega))) (by omega)), tmod_nat]
          rw [if_pos c] at nxt ⊢
          dsimp only at nxt ⊢
          rw [← nxt]
          have hm : (st.1 + st.2.1) % s < s := Nat.mod_lt _ (by omega)
          have e1 : ((st.1 + st.2.1) % s + 1) % s = (st.1 + (st.2.1 + 1)) % s := by rw [Nat.mod_add_mod, Nat.add_assoc]
          have e2 : gop s st ++ [(((st.1 + st.2.1) % s : Nat) : Int)] = gop s (st.1, st.2.1 + 1, st.2.2.set ((st.1 + st.2.1) % s) (0, false)) := by
            unfold gop; dsimp only; rw [List.range_succ, List.map_append]; rfl
          have e3 : gva s st ++ [-1] = gva s (st.1, st.2.1 + 1, st.2.2.set ((st.1 + st.2.1) % s) (0, false)) := by
            unfold gva; dsimp only; rw [List.range_succ, List.map_append]
            congr 1
            · refine List.map_congr_left fun j hj => ?_
              rw [List.mem_range] at hj
              unfold va
              rw [List.getElem?_set_ne]
              rw [mod2 (show st.1 + st.2.1 < 2 * s by omega), mod2 (show st.1 + j < 2 * s by omega)]
              split <;> split <;> omega
            · simp only [List.map_cons, List.map_nil]
              unfold va
              rw [List.getElem?_set_self (by omega)]
          rw [e1, e2, e3]
          rfl
        · rw [cond_neg (by omega)]
          rw [if_neg c] at nxt ⊢
          exact nxt _
      · have hr := complete_ref ⟨s1, s8, ho1, hu, hl1, hp⟩ e b1 b2
        rw [cond_neg (by omega), cond_pos e]
        have hi := inner_loop N (fun z6 z7 z8 z9 z10 => (ratchetref19_Buffer_l250 N k0 k1 n z6 z7 z8 (w64 (z9 + 1)) [] [] [z10])) (fun z11 z12 z13 z14 z15 z16 z17 z18 => (bif roomB (z18.length + 1) 8 then (ratchetref19_Buffer_l250 N k0 k1 n z11 z12 z13 (w64 (z14 + 1)) z16 z17 (z18 ++ [z15])) else none))
          s (((st.1 + st.2.1) % s : Nat) : Int) l i h (gop s st) out (by rw [gop_len]; omega) N 0 (gva s st) (-1) (by rw [gop_len]; omega) (by omega) (by rw [gop_len, gva_len])
        rw [Int.natCast_zero] at hi
        rw [hi]
        simp only [List.drop_zero, List.take_zero, List.nil_append, hxx, hr.1, hr.2.1]
        rw [roomB_of (show (out.length + 1) * 8 ≤ _ by omega), cond_true, w64_succ (by omega)]
        have := nxt (mact s x st).1
        rw [hr.2.2.1, hr.2.2.2.1, hr.2.2.2.2] at this
        exact this
      · rw [cond_neg (by omega), cond_neg (by omega)]
        unfold mact at nxt ⊢
        rw [if_neg (by omega), if_neg (by omega)] at nxt ⊢
        by_cases c : 0 < st.2.1
        · have e0 : (gva s st)[0]? = some (va st.2.2 st.1) := by
            unfold gva
            rw [List.getElem?_map, List.getElem?_range c]
            simp [Nat.mod_eq_of_lt ho1]
          have hva : (va st.2.2 st.1 = -1) ↔ ¬ (st.2.2[st.1]?.map (·.2)) = some true := by
            unfold va
            rw [List.getElem?_eq_getElem (by omega)]
            have := hp st.1 (st.2.2[st.1]'(by omega)).1
            rw [List.getElem?_eq_getElem (by omega)] at this
            revert this
            generalize st.2.2[st.1]'(by omega) = w
            obtain ⟨a, b⟩ := w
            intro this
            cases b
            · simp
            · have := this rfl
              simp; omega
          have hr0 : inR 0 st.2.1 = true := inR_of (by omega) (by omega)
          rw [cond_pos (by omega), hr0, cond_true, e0, some_bind']
          by_cases d : (st.2.2[st.1]?.map (·.2)) = some true
          · rw [cond_pos (show va st.2.2 st.1 ≠ -1 from fun e => (hva.1 e) d), cond_true, some_bind', slB_of (by omega), cond_true]
            rw [if_pos ⟨c, d⟩] at nxt ⊢
            have hb : ((1 + (st.2.1 - 1)) == st.2.1) = true := by simp; omega
            rw [hb]
            simp only [cond_true]
            have hres : (st.2.2[st.1]?.map (·.1)).getD 0 = va st.2.2 st.1 := by
              unfold va
              cases q : st.2.2[st.1]? with
              | none => rw [q] at d; cases d
              | some w =>
                obtain ⟨a, b⟩ := w
                rw [q] at d
                simp only [Option.map_some, Option.some.injEq] at d
                subst d; rfl
            dsimp only at nxt ⊢
            rw [hres, ← nxt]
            have e1 : ((st.1 + 1) % s + (st.2.1 - 1)) % s = (st.1 + st.2.1) % s := by rw [Nat.mod_add_mod]; congr 1; omega
            have hr1 : List.range st.2.1 = 0 :: (List.range (st.2.1 - 1)).map Nat.succ := by
              conv => lhs; rw [show st.2.1 = (st.2.1 - 1) + 1 by omega]
              exact List.range_succ_eq_map
            have e2 : (gop s st).drop 1 = gop s ((st.1 + 1) % s, st.2.1 - 1, st.2.2) := by
              unfold gop; dsimp only
              rw [hr1]
              simp only [List.map_cons, List.drop_succ_cons, List.drop_zero, List.map_map]
              refine List.map_congr_left fun j hj => ?_
              simp only [Function.comp_apply]
              rw [Nat.mod_add_mod]; congr 2; omega
            have e3 : (gva s st).drop 1 = gva s ((st.1 + 1) % s, st.2.1 - 1, st.2.2) := by
              unfold gva; dsimp only
              rw [hr1]
              simp only [List.map_cons, List.drop_succ_cons, List.drop_zero, List.map_map]
              refine List.map_congr_left fun j hj => ?_
              simp only [Function.comp_apply]
              rw [Nat.mod_add_mod]; congr 2; omega
            rw [e1, e2, e3]
          · rw [cond_neg (show ¬ (va st.2.2 st.1 ≠ -1) from fun e => e (hva.2 d))]
            rw [if_neg (fun e => d e.2)] at nxt ⊢
            exact nxt _
        · rw [cond_neg (by omega)]
          rw [if_neg (fun e => c e.1)] at nxt ⊢
          exact nxt _
    · rw [cond_neg (by omega)]
      have : i = l.length := by omega
      subst this
      simp [mrun]

theorem buffer_eq (N s : Nat) (h1 : 1 ≤ s) (h8 : s ≤ 8) (l : List (Int × Int × Int)) (hl : l.length ≤ 1000) (hv : ∀ x, x ∈ l → valid s x) (hN : l.length + 10 ≤ N) (k : List Int → Option R) :
    ratchetref19_Buffer N s l k = k (mrun s l (0, 0, List.replicate s (0, false))) := by
  unfold ratchetref19_Buffer
  have := ref_loop N s (k []) (fun z21 => k z21) l hl hv (by omega) N 0 (0, 0, List.replicate s (0, false)) [] (by omega) (by omega) (wf0 h1 h8) (by simp)
  simp only [List.drop_zero, List.nil_append, Nat.add_zero, Nat.zero_mod, Int.natCast_zero] at this
  exact this

/-! ### Lists of numbers -/
theorem ints_loop (N : Nat) (k0 : Bool → Option R) (k1 : Option R) (l : List Int) (hl : l.length ≤ 1000000) : ∀ (n i : Nat), l.length < n + i → i ≤ l.length →
    ratchetbase_Ints_l58 N k0 k1 n l l i = k1 := by
  intro n
  induction n with
  | zero => intro i h1 h2; omega
  | succ n ih =>
    intro i h1 h2
    rw [ratchetbase_Ints_l58]
    by_cases h : i < l.length
    · rw [cond_pos (by omega), at?_lt h, some_bind', some_bind', cond_neg (by simp), w64_succ (by omega)]
      exact ih (i + 1) (by omega) (by omega)
    · rw [cond_neg (by omega)]
theorem ints_same (N : Nat) (l : List Int) (hl : l.length ≤ 1000000) (hN : l.length < N) (k : Bool → Option R) : ratchetbase_Ints N l l k = k true := by
  unfold ratchetbase_Ints
  rw [cond_neg (by simp)]
  exact ints_loop N (fun z => k z) (k true) l hl N 0 (by omega) (by omega)

/-! ### The law's own loop -/
/-- What the law knows of a buffer: how many were reserved and drained, the values. -/
structure Kn (s : Nat) (st : BS) (r d : Nat) (vs : List Int) : Prop where
  rd : r = d + st.2.1
  o : d % s = st.1
  l : vs.length = s
  v : ∀ p z, p < s → (p + s - st.1) % s < st.2.1 → st.2.2[p]? = some (z, true) → vs[p]? = some z
theorem law_loop (N s : Nat) (k0 : Bool → Option R) (k1 : Option R) (l : List (Int × Int × Int)) (hl : l.length ≤ 1000) (hv : ∀ x, x ∈ l → valid s x) (res : List Int) (hr : res.length = l.length) : ∀ (n i : Nat) (st : BS) (r d : Nat) (vs : List Int), l.length < n + i → i ≤ l.length → WF s st → Kn s st r d vs → res.drop i = mrun s (l.drop i) st → r ≤ i → d ≤ i →
    ratchetlaw19_QueuesBuffers_l4090 N k0 k1 n s l res r d i vs = k1 := by
  intro n
  induction n with
  | zero => intro i st r d vs h1 h2; omega
  | succ n ih =>
    intro i st r d vs q1 q2 hw hk he hri hdi
    rw [ratchetlaw19_QueuesBuffers_l4090]
    by_cases h : i < l.length
    · have h' : i < res.length := by omega
      have hx := hv l[i] (List.getElem_mem h)
      have hw' := mact_wf hw hx
      rw [drop_cons h, drop_cons h', mrun] at he
      injection he with he he'
      have nxt := fun r d vs => ih (i + 1) (mact s l[i] st).2 r d vs (by omega) (by omega) hw'
      rw [cond_pos (by omega), at?_lt h', some_bind', at?_lt h, w64_succ (show i ≤ 1000000000000 by omega)]
      simp only [some_bind', at?_lt h', at?_lt h]
      obtain ⟨s1, s8, ho1, hu, hl1, hp⟩ := hw
      obtain ⟨o, u, pl⟩ := st
      obtain ⟨krd, ko, kl, kv⟩ := hk
      dsimp only at krd ko kl kv ho1 hu hl1 hp
      have hm : ∀ a, a % s < s := fun a => Nat.mod_lt _ (by omega)
      rw [he]
      rcases hx with e | ⟨e, b1, b2, b3, b4⟩ | e
      · unfold mact at nxt he' ⊢
        rw [if_pos e] at nxt he' ⊢
        dsimp only at nxt he' ⊢
        by_cases c : u < s
        · rw [if_pos c] at nxt he' ⊢
          dsimp only at nxt he' ⊢
          have hrm : r % s = (o + u) % s := by rw [krd, ← ko, Nat.mod_add_mod]
          rw [cond_neg (by have := Int.natCast_nonneg ((o + u) % s); omega), cond_pos e, cond_neg (by omega), tmod_nat, hrm, cond_neg (by simp), w64_succ (show r ≤ 1000000000000 by omega), w64_id (x := ((r + 1 : Nat) : Int) - d) (by omega) (by omega), Within_eq, decide_eq_true (by omega)]
          refine nxt (r + 1) d vs ⟨(by dsimp only; omega), ko, kl, fun p z hps hpu hpz => ?_⟩ he' (by omega) (by omega)
          dsimp only at hps hpu hpz
          rw [List.getElem?_set] at hpz
          split at hpz
          · split at hpz
            · injection hpz with hpz; injection hpz with _ hpz; cases hpz
            · cases hpz
          · rename_i hne
            refine kv p z hps ?_ hpz
            rcases Nat.lt_or_ge ((p + s - o) % s) u with q | q
            · exact q
            · exfalso
              have q' : (p + s - o) % s = u := by omega
              apply hne
              rw [← q', mod2 (show p + s - o < 2 * s by omega)]
              split
              · rw [mod2 (by omega)]; split <;> omega
              · rw [mod2 (by omega)]; split <;> omega
        · rw [if_neg c] at nxt he' ⊢
          rw [cond_pos rfl]
          exact nxt r d vs ⟨krd, ko, kl, kv⟩ he' (by omega) (by omega)
      · unfold mact at nxt he' ⊢
        rw [if_neg (show ¬ l[i].1 = 0 by omega), if_pos e] at nxt he' ⊢
        dsimp only at nxt he' ⊢
        by_cases c : (l[i].2.1.toNat + s - o) % s < u ∧ (pl[l[i].2.1.toNat]?.map (·.2)) = some false
        · rw [if_pos c] at nxt he' ⊢
          dsimp only at nxt he' ⊢
          rw [cond_neg (by omega), cond_neg (show ¬ l[i].1 = 0 by omega), cond_pos e, inR_of b1 (by omega), List.getElem?_eq_getElem (show l[i].2.1.toNat < vs.length by omega), w64_id (x := (r : Int) - d) (by omega) (by omega)]
          simp only [cond_true, some_bind', Within_eq]
          rw [decide_eq_true (by omega)]
          refine nxt r d (vs.set l[i].2.1.toNat l[i].2.2) ⟨krd, ko, (by simpa using kl), fun p z hps hpu hpz => ?_⟩ he' (by omega) (by omega)
          dsimp only at hps hpu hpz
          rw [List.getElem?_set] at hpz ⊢
          split at hpz
          · rename_i hpe
            rw [if_pos hpe, if_pos (by omega)]
            split at hpz
            · injection hpz with hpz; injection hpz with hpz _; rw [hpz]
            · cases hpz
          · rename_i hpe
            rw [if_neg hpe]
            exact kv p z hps hpu hpz
        · rw [if_neg c] at nxt he' ⊢
          rw [cond_pos rfl]
          exact nxt r d vs ⟨krd, ko, kl, kv⟩ he' (by omega) (by omega)
      · unfold mact at nxt he' ⊢
        rw [if_neg (show ¬ l[i].1 = 0 by omega), if_neg (show ¬ l[i].1 = 1 by omega)] at nxt he' ⊢
        dsimp only at nxt he' ⊢
        by_cases c : 0 < u ∧ (pl[o]?.map (·.2)) = some true
        · rw [if_pos c] at nxt he' ⊢
          obtain ⟨c1, c2⟩ := c
          have hol : o < pl.length := by omega
          rw [List.getElem?_eq_getElem hol] at c2 he' nxt ⊢
          simp only [Option.map_some, Option.some.injEq, Option.getD_some] at c2 he' nxt ⊢
          have hz : pl[o]? = some (pl[o].1, true) := by rw [List.getElem?_eq_getElem hol, ← c2]
          have hge := hp o _ hz
          have hvs := kv o _ ho1 (by rw [show o + s - o = s by omega, Nat.mod_self]; exact c1) hz
          rw [cond_neg (by omega), cond_neg (show ¬ l[i].1 = 0 by omega), cond_neg (show ¬ l[i].1 = 1 by omega), cond_neg (show ¬ (s : Int) = 0 by omega), tmod_nat, ko, inR_nat, decide_eq_true (by omega), Int.toNat_natCast, hvs]
          simp only [cond_true, some_bind', Within_eq]
          rw [cond_neg (by simp), w64_succ (show d ≤ 1000000000000 by omega), w64_id (x := (r : Int) - ((d + 1 : Nat) : Int)) (by omega) (by omega), decide_eq_true (by omega)]
          refine nxt r (d + 1) vs ⟨(by dsimp only; omega), (by dsimp only; rw [← ko, Nat.mod_add_mod]), kl, fun p z hps hpu hpz => ?_⟩ he' (by omega) (by omega)
          dsimp only at hps hpu hpz
          refine kv p z hps ?_ hpz
          revert hpu
          rw [mod2 (show o + 1 < 2 * s by omega)]
          split
          · rw [mod2 (show p + s - (o + 1) < 2 * s by omega), mod2 (show p + s - o < 2 * s by omega)]; split <;> split <;> omega
          · rw [show o + 1 - s = 0 by omega, Nat.sub_zero, Nat.add_mod_right, Nat.mod_eq_of_lt hps, mod2 (show p + s - o < 2 * s by omega)]; split <;> omega
        · rw [if_neg c] at nxt he' ⊢
          rw [cond_pos rfl]
          exact nxt r d vs ⟨krd, ko, kl, kv⟩ he' (by omega) (by omega)
    · rw [cond_neg (by omega)]
theorem pureQueuesBuffers : PureQueuesBuffers := by
  intro x0 x1 ok0 ok1
  refine ⟨300, fun {R} k => ?_⟩
  unfold ratchetlaw19_QueuesBuffers
  rw [awake_ok]
  by_cases hl : x1.length ≤ 102
  · rw [show (!true) = false from rfl, cond_false, cond_neg (by omega), roomB_of (by omega), cond_true, bufferRun_eq 300 x0 x1 (by omega) (by omega)]
    by_cases c : berr x0 x1 = 0
    · rw [if_pos c, actsErr_eq 300 x0 x1 (by omega), c, cond_neg (by simp), cond_neg (by simp)]
      have hc := c
      unfold berr at hc
      split at hc
      · rename_i a
        split at hc
        · rename_i b
          obtain ⟨s, rfl⟩ : ∃ s : Nat, x0 = s := ⟨x0.toNat, by omega⟩
          rw [Int.toNat_natCast, buffer_eq 300 s (by omega) (by omega) x1 (by omega) (valids_of hc) (by omega), ints_same 300 _ (by rw [mrun_len]; omega) (by rw [mrun_len]; omega), cond_pos (by omega), roomB_of (by omega)]
          simp only [Bool.not_true, cond_false, cond_true]
          refine law_loop 300 s _ _ x1 (by omega) (valids_of hc) _ (mrun_len _ _ _) 300 0 (0, 0, List.replicate s (0, false)) 0 0 _ (by omega) (by omega) (wf0 (by omega) (by omega)) ⟨rfl, Nat.zero_mod _, List.length_replicate, fun p z h1 h2 h3 => absurd h2 (Nat.not_lt_zero _)⟩ rfl (by omega) (by omega)
        · cases hc
      · cases hc
    · rw [if_neg c, actsErr_eq 300 x0 x1 (by omega), cond_pos c, cond_pos rfl]; rfl
  · rw [show (!true) = false from rfl, cond_false, cond_pos (by omega)]
end
end Am
end Go.Proofs.Ytcmaeglondkpdaa
