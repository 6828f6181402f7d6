/- The statement about runs of turns on plain data. -/
import Derived.Test.YtcmaeglondkpdaaQRF
import Derived.Test.YtcmaeglondkpdaaPu
set_option linter.unusedVariables false
set_option linter.unusedSimpArgs false
set_option maxRecDepth 100000
namespace Go.Proofs.Ytcmaeglondkpdaa
namespace Am
section
variable {R : Type}
theorem awake_ok (k : Bool → Option R) : ratchetlaw19_awake 2000 k = k true := by kernel_rfl

theorem within_eq (N : Nat) (a lo hi : Int) (k : Bool → Option R) : queues_within N a lo hi k = k (decide (lo ≤ a ∧ a ≤ hi)) := by
  unfold queues_within
  by_cases h : lo ≤ a <;> simp [h]
theorem Within_eq (N : Nat) (a lo hi : Int) (k : Bool → Option R) : ratchetbase_Within N a lo hi k = k (decide (lo ≤ a ∧ a ≤ hi)) := by
  unfold ratchetbase_Within
  by_cases h : lo ≤ a <;> simp [h]
theorem unless_eq (N : Nat) (b : Bool) (e : Int) (k : Int → Option R) : queues_unless N b e k = k (if b = true then 0 else e) := by
  unfold queues_unless; cases b <;> rfl
theorem first_loop (N : Nat) (k0 : Int → Option R) (k1 : Option R) (l : List Int) (hl : l.length ≤ 1000000) : ∀ (n i : Nat), l.length < n + i → i ≤ l.length →
    queues_first_l0 N k0 k1 n l l.length i = match (l.drop i).find? (fun x => decide (x ≠ 0)) with | some x => k0 x | none => k1 := by
  intro n
  induction n with
  | zero => intro i h1 h2; omega
  | succ n ih =>
    intro i h1 h2
    rw [queues_first_l0]
    by_cases h : i < l.length
    · rw [cond_pos (by omega), at?_lt h, some_bind', drop_cons h, List.find?_cons]
      by_cases hx : l[i] = 0
      · rw [cond_neg (by simp [hx]), w64_id (by omega) (by omega)]
        simp only [hx, ne_eq, not_true, decide_false]
        exact ih (i + 1) (by omega) (by omega)
      · rw [cond_pos hx]; simp [hx]
    · rw [cond_neg (by omega)]
      have : i = l.length := by omega
      subst this
      simp
theorem first_eq (N : Nat) (l : List Int) (hN : l.length < N) (hl : l.length ≤ 1000000) (k : Int → Option R) : queues_first N l k = k ((l.find? (fun x => decide (x ≠ 0))).getD 0) := by
  unfold queues_first
  have := first_loop N (fun z => k z) (k 0) l hl N 0 (by omega) (by omega)
  rw [Int.natCast_zero] at this
  rw [this, List.drop_zero]
  cases l.find? (fun x => decide (x ≠ 0)) <;> rfl
theorem first2 (N : Nat) (hN : 3 ≤ N) (a b : Int) (k : Int → Option R) : queues_first N [a, b] k = k (if a = 0 then b else a) := by
  rw [first_eq N _ (by simp; omega) (by simp)]
  by_cases ha : a = 0 <;> by_cases hb : b = 0 <;> simp [ha, hb]

/-! ### Lists of numbers -/
theorem ints_loop (N : Nat) (k0 : Bool → Option R) (k1 : Option R) (l : List Int) (hl : l.length ≤ 1000000) : ∀ (n i : Nat), l.length < n + i → i ≤ l.length →
    ratchetbase_Ints_l0 N k0 k1 n l l i = k1 := by
  intro n
  induction n with
  | zero => intro i h1 h2; omega
  | succ n ih =>
    intro i h1 h2
    rw [ratchetbase_Ints_l0]
    by_cases h : i < l.length
    · rw [cond_pos (by omega), at?_lt h, some_bind', some_bind', cond_neg (by simp), w64_succ (by omega)]
      exact ih (i + 1) (by omega) (by omega)
    · rw [cond_neg (by omega)]
theorem ints_same (N : Nat) (l : List Int) (hl : l.length ≤ 1000000) (hN : l.length < N) (k : Bool → Option R) : ratchetbase_Ints N l l k = k true := by
  unfold ratchetbase_Ints
  rw [cond_neg (by simp)]
  exact ints_loop N (fun z => k z) (k true) l hl N 0 (by omega) (by omega)

theorem any_loop (N : Nat) (k0 : Int → Int → Option R) (k1 : Int → Option R) (g : Int → Option R) (w : Int) (p : Int → Bool) (hp : ∀ x (k : Bool → Int → Option R), queues_itemsErr_c1 N x w k = k (p x) w) (hk : ∀ i : Nat, k0 i w = g w) (l : List Int) (hl : l.length ≤ 1000000) : ∀ (n i : Nat), l.length < n + i → i ≤ l.length →
    slices_IndexFunc_Lint_int_l0 N k0 k1 n l l.length i w = if (l.drop i).any p then g w else k1 w := by
  intro n
  induction n with
  | zero => intro i h1 h2; omega
  | succ n ih =>
    intro i h1 h2
    rw [slices_IndexFunc_Lint_int_l0]
    by_cases h : i < l.length
    · rw [cond_pos (by omega), at?_lt h, some_bind', hp, drop_cons h, List.any_cons]
      cases e : p l[i]
      · rw [cond_false, w64_succ (by omega), Bool.false_or]
        exact ih (i + 1) (by omega) (by omega)
      · rw [cond_true, hk]; simp
    · rw [cond_neg (by omega)]
      have : i = l.length := by omega
      subst this
      simp
theorem any_eq (N : Nat) (w : Int) (p : Int → Bool) (hp : ∀ x (k : Bool → Int → Option R), queues_itemsErr_c1 N x w k = k (p x) w) (l : List Int) (hl : l.length ≤ 1000000) (hN : l.length < N) (k : Bool → Int → Option R) :
    slices_ContainsFunc_Lint_int N l w k = k (l.any p) w := by
  unfold slices_ContainsFunc_Lint_int slices_IndexFunc_Lint_int
  have := any_loop N (fun z4 z5 => k (decide (0 ≤ z4)) z5) (fun z6 => k (decide (0 ≤ (-1 : Int))) z6) (fun w => k true w) w p hp (fun i => by simp) l hl N 0 (by omega) (by omega)
  rw [Int.natCast_zero] at this
  rw [this, List.drop_zero]
  cases l.any p <;> simp
theorem any_loop_v1 (N : Nat) (k0 : Int → Int → Option R) (k1 : Int → Option R) (g : Int → Option R) (w : Int) (p : Int → Bool) (hp : ∀ x (k : Bool → Int → Option R), queues_turnErr_c1 N x w k = k (p x) w) (hk : ∀ i : Nat, k0 i w = g w) (l : List Int) (hl : l.length ≤ 1000000) : ∀ (n i : Nat), l.length < n + i → i ≤ l.length →
    slices_IndexFunc_Lint_int_v1_l0 N k0 k1 n l l.length i w = if (l.drop i).any p then g w else k1 w := by
  intro n
  induction n with
  | zero => intro i h1 h2; omega
  | succ n ih =>
    intro i h1 h2
    rw [slices_IndexFunc_Lint_int_v1_l0]
    by_cases h : i < l.length
    · rw [cond_pos (by omega), at?_lt h, some_bind', hp, drop_cons h, List.any_cons]
      cases e : p l[i]
      · rw [cond_false, w64_succ (by omega), Bool.false_or]
        exact ih (i + 1) (by omega) (by omega)
      · rw [cond_true, hk]; simp
    · rw [cond_neg (by omega)]
      have : i = l.length := by omega
      subst this
      simp
theorem any_eq_v1 (N : Nat) (w : Int) (p : Int → Bool) (hp : ∀ x (k : Bool → Int → Option R), queues_turnErr_c1 N x w k = k (p x) w) (l : List Int) (hl : l.length ≤ 1000000) (hN : l.length < N) (k : Bool → Int → Option R) :
    slices_ContainsFunc_Lint_int_v1 N l w k = k (l.any p) w := by
  unfold slices_ContainsFunc_Lint_int_v1 slices_IndexFunc_Lint_int_v1
  have := any_loop_v1 N (fun z4 z5 => k (decide (0 ≤ z4)) z5) (fun z6 => k (decide (0 ≤ (-1 : Int))) z6) (fun w => k true w) w p hp (fun i => by simp) l hl N 0 (by omega) (by omega)
  rw [Int.natCast_zero] at this
  rw [this, List.drop_zero]
  cases l.any p <;> simp
theorem kindErr_eq (N : Nat) (a : Int) (k : Int → Option R) : queues_kindErr N a k = k (if 0 ≤ a ∧ a ≤ 3 then 0 else 15) := by
  unfold queues_kindErr; rw [within_eq, unless_eq]; simp
theorem widthErr_eq (N : Nat) (a : Int) (k : Int → Option R) : queues_widthErr N a k = k (if 1 ≤ a ∧ a ≤ 16 then 0 else 2) := by
  unfold queues_widthErr; rw [within_eq, unless_eq]; simp
theorem openErr_eq (N : Nat) (hN : 3 ≤ N) (a w : Int) (k : Int → Option R) : queues_openErr N a w k = k (if 0 ≤ a ∧ a ≤ 3 then (if 1 ≤ w ∧ w ≤ 16 then 0 else 2) else 15) := by
  unfold queues_openErr; rw [kindErr_eq, widthErr_eq, first2 N hN]
  by_cases c : 0 ≤ a ∧ a ≤ 3 <;> simp [c]
/-- Whether a number fits a width. -/
def fits (w x : Int) : Bool := decide (0 ≤ x ∧ x ≤ w64 (shl' .i64 1 w - 1))
theorem isValue_eq (N : Nat) (x w : Int) (hw : 0 ≤ w) (k : Bool → Option R) : queues_isValue N x w k = k (fits w x) := by
  unfold queues_isValue fits; rw [cond_pos hw, cond_neg (by omega), within_eq]
theorem Fits_eq (N : Nat) (x w : Int) (hw : 0 ≤ w) (k : Bool → Option R) : ratchetbase_Fits N x w k = k (fits w x) := by
  unfold ratchetbase_Fits ratchetbase_Power fits; rw [cond_neg (by omega)]; dsimp only; rw [Within_eq]
def places (a : Int) : Int := if a = 1 then 2 else 1
theorem placesOf_eq (N : Nat) (a : Int) (k : Int → Option R) : queues_placesOf N a k = k (places a) := by
  unfold queues_placesOf places; by_cases h : a = 1 <;> simp [h]
theorem Places_eq (N : Nat) (a : Int) (k : Int → Option R) : ratchetref19_Places N a k = k (places a) := by
  unfold ratchetref19_Places places; by_cases h : a = 1 <;> simp [h]
theorem KindErr_eq (N : Nat) (a : Int) (k : Int → Option R) : ratchetref19_KindErr N a k = k (if 0 ≤ a ∧ a ≤ 3 then 0 else 15) := by
  unfold ratchetref19_KindErr; rw [Within_eq]; by_cases c : 0 ≤ a ∧ a ≤ 3 <;> simp [c]
theorem WidthErr_eq (N : Nat) (a w : Int) (k : Int → Option R) : ratchetref19_WidthErr N a w k = k (if 0 ≤ a ∧ a ≤ 3 then (if 1 ≤ w ∧ w ≤ 16 then 0 else 2) else 15) := by
  unfold ratchetref19_WidthErr ratchetbase_IsWidth; rw [KindErr_eq]
  by_cases c : 0 ≤ a ∧ a ≤ 3 <;> by_cases d : 1 ≤ w ∧ w ≤ 16 <;> simp [c, d, Within_eq]
theorem copyInts_eq (N : Nat) (l : List Int) (hl : l.length ≤ 1000000) (k : List Int → Option R) : ratchetbase_CopyInts N l k = k l := by
  unfold ratchetbase_CopyInts; rw [roomB_of (by omega)]; rfl
theorem copyTurn_eq (N : Nat) (l : List Int) (t : Bool) (hl : l.length ≤ 1000000) (k : List Int → Bool → Option R) : ratchetref19_CopyTurn N l t k = k l t := by
  unfold ratchetref19_CopyTurn; rw [copyInts_eq N l hl]

def ierr (a w : Int) (l : List Int) : Int := if (l.length : Int) ≤ places a then (if l.any (fun x => !fits w x) then 2 else 0) else 8
def terr (w : Int) (p : List Int) : Int := if p.length ≤ 1 then (if p.any (fun x => !fits w x) then 2 else 0) else 10
theorem itemsErr_eq (N : Nat) (a w : Int) (hw : 0 ≤ w) (l : List Int) (hl : l.length ≤ 1000000) (hN : l.length + 3 ≤ N) (k : Int → Option R) : queues_itemsErr N a w l k = k (ierr a w l) := by
  unfold queues_itemsErr ierr
  rw [any_eq N w (fun x => !fits w x) (fun x k => by unfold queues_itemsErr_c1; rw [isValue_eq N x w hw]) l hl (by omega), placesOf_eq, unless_eq, unless_eq, first2 N (by omega)]
  by_cases c : (l.length : Int) ≤ places a <;> cases l.any (fun x => !fits w x) <;> simp [c]
theorem turnErr_eq (N : Nat) (w : Int) (hw : 0 ≤ w) (l : List Int) (t : Bool) (hl : l.length ≤ 1000000) (hN : l.length + 3 ≤ N) (k : Int → Option R) : queues_turnErr N w l t k = k (terr w l) := by
  unfold queues_turnErr terr
  rw [any_eq_v1 N w (fun x => !fits w x) (fun x k => by unfold queues_turnErr_c1; rw [isValue_eq N x w hw]) l hl (by omega), unless_eq, unless_eq, first2 N (by omega)]
  by_cases c : l.length ≤ 1
  · have c' : (l.length : Int) ≤ 1 := by omega
    cases l.any (fun x => !fits w x) <;> simp [c, c']
  · have c' : ¬ (l.length : Int) ≤ 1 := by omega
    cases l.any (fun x => !fits w x) <;> simp [c, c']
theorem TurnErr_eq (N : Nat) (w : Int) (hw : 0 ≤ w) (l : List Int) (t : Bool) (k : Int → Option R) : ratchetref19_TurnErr N w l t k = k (terr w l) := by
  unfold ratchetref19_TurnErr terr
  match l with
  | [] => simp
  | [x] =>
    have e0 : at? [x] 0 = some x := rfl
    simp only [List.length_cons, List.length_nil, e0, some_bind', Fits_eq N _ w hw]
    cases e : fits w x <;> simp [e]
  | x :: y :: q =>
    rw [cond_pos (by simp only [List.length_cons]; omega), if_neg (by simp only [List.length_cons]; omega)]

/-- A turn: what is taken, whether something is put, what is left. -/
def mturn (a : Int) (l p : List Int) (t : Bool) : List Int × Bool × List Int :=
  if a = 3 then
    (let put := !p.isEmpty && decide ((l.length : Int) < places a)
     let q := if put then l ++ p else l
     if t && !q.isEmpty then (q.take 1, put, q.drop 1) else ([], put, q))
  else
    (let takes := t && !l.isEmpty
     let put := !p.isEmpty && (decide ((l.length : Int) < places a) || (decide (a = 2) && takes))
     let q := if takes then l.drop 1 else l
     (if takes then l.take 1 else [], put, if put then q ++ p else q))
theorem ierr_len {a w : Int} {l : List Int} (h : ierr a w l = 0) : (l.length : Int) ≤ places a := by
  unfold ierr at h; split at h
  · assumption
  · cases h
theorem terr_len {w : Int} {l : List Int} (h : terr w l = 0) : l.length ≤ 1 := by
  unfold terr at h; split at h
  · assumption
  · cases h
theorem turn_eq (N : Nat) (a : Int) (l p : List Int) (t : Bool) (h1 : 0 ≤ a ∧ a ≤ 3) (h2 : (l.length : Int) ≤ places a) (h3 : p.length ≤ 1) (k : List Int → Bool → List Int → Option R) :
    queues_turn N a l p t k = k (mturn a l p t).1 (mturn a l p t).2.1 (mturn a l p t).2.2 := by
  have ha : a = 0 ∨ a = 1 ∨ a = 2 ∨ a = 3 := by omega
  have hl : l.length ≤ 2 := by unfold places at h2; split at h2 <;> omega
  match l, p, hl, h3 with
  | [], [], _, _ => rcases ha with rfl | rfl | rfl | rfl <;> cases t <;> (show _ = _; kernel_rfl)
  | [], [x], _, _ => rcases ha with rfl | rfl | rfl | rfl <;> cases t <;> (show _ = _; kernel_rfl)
  | [y], [], _, _ => rcases ha with rfl | rfl | rfl | rfl <;> cases t <;> (show _ = _; kernel_rfl)
  | [y], [x], _, _ => rcases ha with rfl | rfl | rfl | rfl <;> cases t <;> (show _ = _; kernel_rfl)
  | [y, z], [], _, _ => rcases ha with rfl | rfl | rfl | rfl <;> first | (exfalso; revert h2; decide) | (cases t <;> (show _ = _; kernel_rfl))
  | [y, z], [x], _, _ => rcases ha with rfl | rfl | rfl | rfl <;> first | (exfalso; revert h2; decide) | (cases t <;> (show _ = _; kernel_rfl))
theorem Turn_eq (N : Nat) (a : Int) (l p : List Int) (t : Bool) (h1 : 0 ≤ a ∧ a ≤ 3) (h2 : (l.length : Int) ≤ places a) (h3 : p.length ≤ 1) (k : List Int → Bool → List Int → Option R) :
    ratchetref19_Turn N a l p t k = k (mturn a l p t).1 (mturn a l p t).2.1 (mturn a l p t).2.2 := by
  have ha : a = 0 ∨ a = 1 ∨ a = 2 ∨ a = 3 := by omega
  have hl : l.length ≤ 2 := by unfold places at h2; split at h2 <;> omega
  match l, p, hl, h3 with
  | [], [], _, _ => rcases ha with rfl | rfl | rfl | rfl <;> cases t <;> (show _ = _; kernel_rfl)
  | [], [x], _, _ => rcases ha with rfl | rfl | rfl | rfl <;> cases t <;> (show _ = _; kernel_rfl)
  | [y], [], _, _ => rcases ha with rfl | rfl | rfl | rfl <;> cases t <;> (show _ = _; kernel_rfl)
  | [y], [x], _, _ => rcases ha with rfl | rfl | rfl | rfl <;> cases t <;> (show _ = _; kernel_rfl)
  | [y, z], [], _, _ => rcases ha with rfl | rfl | rfl | rfl <;> first | (exfalso; revert h2; decide) | (cases t <;> (show _ = _; kernel_rfl))
  | [y, z], [x], _, _ => rcases ha with rfl | rfl | rfl | rfl <;> first | (exfalso; revert h2; decide) | (cases t <;> (show _ = _; kernel_rfl))
theorem sameDone_refl (N : Nat) (a : List Int) (b : Bool) (c : List Int) (ha : a.length ≤ 1000) (hc : c.length ≤ 1000) (hN : 1001 ≤ N) (k : Bool → Option R) : ratchetref19_SameDone N a b c a b c k = k true := by
  unfold ratchetref19_SameDone
  rw [ints_same N a (by omega) (by omega), cond_true, ints_same N c (by omega) (by omega)]
  cases b <;> rfl
theorem mturn_len (a : Int) (l p : List Int) (t : Bool) : (mturn a l p t).1.length ≤ l.length + p.length ∧ (mturn a l p t).2.2.length ≤ l.length + p.length := by
  unfold mturn
  split
  · dsimp only; split <;> split <;> simp <;> omega
  · dsimp only
    constructor
    · split <;> simp; omega
    · split <;> split <;> simp <;> omega
def terrs (w : Int) : List (List Int × Bool) → Int
  | [] => 0
  | x :: l => if terr w x.1 = 0 then terrs w l else terr w x.1
theorem each_loop (N : Nat) (hN : 1010 ≤ N) (w : Int) (hw : 0 ≤ w) (k0 : Int → Int → Int → Option R) (k1 : Int → Option R) (g : Int → Option R) (hk : ∀ i e, e ≠ 0 → k0 i e w = g e) (l : List (List Int × Bool)) (hl : l.length ≤ 1000) (hi : ∀ x, x ∈ l → x.1.length ≤ 1000) : ∀ (n i : Nat), l.length < n + i → i ≤ l.length →
    queues_each_QueueTurn_l0 N k0 k1 n l l.length i w = if terrs w (l.drop i) = 0 then k1 w else g (terrs w (l.drop i)) := by
  intro n
  induction n with
  | zero => intro i h1 h2; omega
  | succ n ih =>
    intro i q1 q2
    rw [queues_each_QueueTurn_l0]
    by_cases h : i < l.length
    · have hx := hi _ (List.getElem_mem h)
      unfold queues_TurnsOf_c1
      rw [cond_pos (by omega), at?_lt h, some_bind', turnErr_eq N w hw _ _ (by omega) (by omega), drop_cons h, terrs]
      dsimp only
      by_cases hx : terr w l[i].1 = 0
      · rw [cond_neg (by simp [hx]), w64_succ (by omega), if_pos hx]
        exact ih (i + 1) (by omega) (by omega)
      · rw [cond_pos hx, if_neg hx, hk _ _ hx, if_neg hx]
    · rw [cond_neg (by omega)]
      have : i = l.length := by omega
      subst this
      simp [terrs]
theorem each_eq (N : Nat) (hN : 1010 ≤ N) (w : Int) (hw : 0 ≤ w) (l : List (List Int × Bool)) (hl : l.length ≤ 1000) (hi : ∀ x, x ∈ l → x.1.length ≤ 1000) (k : Int → Int → Int → Option R) (g : Int → Option R) (hk : ∀ i e, e ≠ 0 → k i e w = g e) :
    queues_each_QueueTurn N l w k = if terrs w l = 0 then k 0 0 w else g (terrs w l) := by
  unfold queues_each_QueueTurn
  have := each_loop N hN w hw (fun z4 z5 z6 => k z4 z5 z6) (fun z7 => k 0 0 z7) g hk l hl hi N 0 (by omega) (by omega)
  rw [Int.natCast_zero] at this
  rw [this, List.drop_zero]

theorem terrs_ok {w : Int} : ∀ {l : List (List Int × Bool)}, terrs w l = 0 → ∀ x, x ∈ l → x.1.length ≤ 1
  | [], _, x, hx => by cases hx
  | y :: l, h, x, hx => by
    unfold terrs at h
    split at h
    · rename_i e
      rcases List.mem_cons.1 hx with rfl | hx
      · exact terr_len e
      · exact terrs_ok h x hx
    · rename_i e; exact absurd h e
theorem mturn_fits (a : Int) (l p : List Int) (t : Bool) (h1 : 0 ≤ a ∧ a ≤ 3) (h2 : (l.length : Int) ≤ places a) (h3 : p.length ≤ 1) : ((mturn a l p t).2.2.length : Int) ≤ places a := by
  have ha : a = 0 ∨ a = 1 ∨ a = 2 ∨ a = 3 := by omega
  have hl : l.length ≤ 2 := by unfold places at h2; split at h2 <;> omega
  match l, p, hl, h3 with
  | [], [], _, _ => rcases ha with rfl | rfl | rfl | rfl <;> cases t <;> decide
  | [], [x], _, _ => rcases ha with rfl | rfl | rfl | rfl <;> cases t <;> simp [mturn, places]
  | [y], [], _, _ => rcases ha with rfl | rfl | rfl | rfl <;> cases t <;> simp [mturn, places]
  | [y], [x], _, _ => rcases ha with rfl | rfl | rfl | rfl <;> cases t <;> simp [mturn, places]
  | [y, z], [], _, _ => rcases ha with rfl | rfl | rfl | rfl <;> first | (exfalso; simp [places] at h2; done) | (cases t <;> simp [mturn, places])
  | [y, z], [x], _, _ => rcases ha with rfl | rfl | rfl | rfl <;> first | (exfalso; simp [places] at h2; done) | (cases t <;> simp [mturn, places])
theorem mturn_law (a : Int) (l p : List Int) (t : Bool) : (mturn a l p t).1 ++ (mturn a l p t).2.2 = l ++ (if (mturn a l p t).2.1 then p else []) := by
  unfold mturn
  by_cases c : a = 3
  · rw [if_pos c]
    dsimp only
    by_cases put : (!p.isEmpty && decide ((l.length : Int) < places a)) = true
    · simp only [put, if_true]
      split
      · simp only [List.take_append_drop]; rfl
      · rfl
    · simp only [put, if_false, Bool.not_eq_true] at put ⊢
      simp only [put, Bool.false_eq_true, if_false, List.append_nil]
      split
      · simp only [List.take_append_drop, Bool.false_eq_true, if_false, List.append_nil]
      · simp
  · rw [if_neg c]
    dsimp only
    by_cases tk : (t && !l.isEmpty) = true <;> by_cases put : (!p.isEmpty && (decide ((l.length : Int) < places a) || decide (a = 2) && (t && !l.isEmpty))) = true
    · simp only [if_pos put, if_pos tk]; rw [← List.append_assoc, List.take_append_drop]
    · simp only [if_neg put, if_pos tk, List.append_nil, List.take_append_drop]
    · simp only [if_pos put, if_neg tk, List.nil_append]
    · simp only [if_neg put, if_neg tk, List.nil_append, List.append_nil]
theorem mturn_put (a : Int) (l p : List Int) (t : Bool) (h : (mturn a l p t).2.1 = true) : p ≠ [] := by
  intro e
  subst e
  unfold mturn at h
  split at h
  · dsimp only at h
    by_cases q : (t && !(if (!([] : List Int).isEmpty && decide ((l.length : Int) < places a)) = true then l ++ [] else l).isEmpty) = true
    · rw [if_pos q] at h; simp at h
    · rw [if_neg q] at h; simp at h
  · simp at h
/-- What turns do. -/
def mturns (a : Int) : List Int → List (List Int × Bool) → List (List Int × Bool × List Int)
  | _, [] => []
  | it, x :: l => mturn a it x.1 x.2 :: mturns a (mturn a it x.1 x.2).2.2 l
theorem mturns_len (a : Int) : ∀ (it : List Int) (l : List (List Int × Bool)), (mturns a it l).length = l.length
  | _, [] => rfl
  | it, x :: l => by simp [mturns, mturns_len a _ l]
theorem turns_loop (N : Nat) (k0 : Option R) (k1 : List (List Int × Bool × List Int) → Option R) (a : Int) (ha : 0 ≤ a ∧ a ≤ 3) (l : List (List Int × Bool)) (hl : l.length ≤ 1000) (hi : ∀ x, x ∈ l → x.1.length ≤ 1) : ∀ (n i : Nat) (it : List Int) (out : List (List Int × Bool × List Int)), l.length < n + i → i ≤ l.length → (it.length : Int) ≤ places a → out.length ≤ i →
    queues_TurnsOf_l0 N k0 k1 n a it l l.length i out = k1 (out ++ mturns a it (l.drop i)) := by
  intro n
  induction n with
  | zero => intro i it out h1 h2; omega
  | succ n ih =>
    intro i it out h1 h2 hit ho
    rw [queues_TurnsOf_l0]
    by_cases h : i < l.length
    · have hx := hi _ (List.getElem_mem h)
      rw [cond_pos (by omega), at?_lt h, some_bind', turn_eq N a it _ _ ha hit hx, roomB_of (by omega), cond_true, w64_succ (by omega), drop_cons h, mturns]
      rw [ih (i + 1) _ _ (by omega) (by omega) (mturn_fits a it _ _ ha hit hx) (by simp; omega), List.append_assoc]; rfl
    · rw [cond_neg (by omega)]
      have : i = l.length := by omega
      subst this
      simp [mturns]
theorem Turns_loop (N : Nat) (k0 : Option R) (k1 : List (List Int × Bool × List Int) → Option R) (a : Int) (ha : 0 ≤ a ∧ a ≤ 3) (l : List (List Int × Bool)) (hl : l.length ≤ 1000) (hi : ∀ x, x ∈ l → x.1.length ≤ 1) : ∀ (n i : Nat) (it : List Int) (out : List (List Int × Bool × List Int)), l.length < n + i → i ≤ l.length → (it.length : Int) ≤ places a → out.length ≤ i →
    ratchetref19_Turns_l0 N k0 k1 n a l it i out = k1 (out ++ mturns a it (l.drop i)) := by
  intro n
  induction n with
  | zero => intro i it out h1 h2; omega
  | succ n ih =>
    intro i it out h1 h2 hit ho
    rw [ratchetref19_Turns_l0]
    by_cases h : i < l.length
    · have hx := hi _ (List.getElem_mem h)
      rw [cond_pos (by omega), at?_lt h, some_bind', Turn_eq N a it _ _ ha hit hx, roomB_of (by omega), cond_true, w64_succ (by omega), drop_cons h, mturns]
      rw [ih (i + 1) _ _ (by omega) (by omega) (mturn_fits a it _ _ ha hit hx) (by simp; omega), List.append_assoc]; rfl
    · rw [cond_neg (by omega)]
      have : i = l.length := by omega
      subst this
      simp [mturns]
theorem clone_loop (N : Nat) (k0 : Option R) (k1 : List (List Int × Bool × List Int) → Option R) (l : List (List Int × Bool × List Int)) (hl : l.length ≤ 1000) (hi : ∀ x, x ∈ l → x.1.length ≤ 1000 ∧ x.2.2.length ≤ 1000) : ∀ (n i : Nat), l.length < n + i → i ≤ l.length →
    queues_TurnsOf_l1 N k0 k1 n l.length i l = k1 l := by
  intro n
  induction n with
  | zero => intro i h1 h2; omega
  | succ n ih =>
    intro i h1 h2
    rw [queues_TurnsOf_l1]
    by_cases h : i < l.length
    · have hx := hi _ (List.getElem_mem h)
      rw [cond_pos (by omega), inR_nat, cond_pos h, Int.toNat_natCast, List.getElem?_eq_getElem h, some_bind']
      simp only [decide_eq_true h, roomB_of (show l[i].2.2.length * 8 ≤ _ by omega), roomB_of (show l[i].1.length * 8 ≤ _ by omega), cond_true, some_bind', show (l[i].1, l[i].2.1, l[i].2.2) = l[i] from rfl, List.set_getElem_self, inR_nat, List.getElem?_eq_getElem h, w64_succ (show i ≤ _ by omega)]
      exact ih (i + 1) (by omega) (by omega)
    · rw [cond_neg (by omega)]
theorem mturns_small (a : Int) (ha : 0 ≤ a ∧ a ≤ 3) : ∀ (it : List Int) (l : List (List Int × Bool)), (it.length : Int) ≤ places a → (∀ x, x ∈ l → x.1.length ≤ 1) → ∀ y, y ∈ mturns a it l → y.1.length ≤ 1000 ∧ y.2.2.length ≤ 1000
  | _, [], _, _, y, hy => by cases hy
  | it, x :: l, h1, h2, y, hy => by
    have hx := h2 x List.mem_cons_self
    have hp : places a ≤ 2 := by unfold places; split <;> omega
    rcases List.mem_cons.1 hy with rfl | hy
    · have := mturn_len a it x.1 x.2
      omega
    · exact mturns_small a ha _ l (mturn_fits a it _ _ ha h1 hx) (fun z hz => h2 z (List.mem_cons_of_mem _ hz)) y hy
def rerr (a w : Int) (l : List (List Int × Bool)) : Int := if 0 ≤ a ∧ a ≤ 3 then (if 1 ≤ w ∧ w ≤ 16 then (if l.length ≤ 100 then terrs w l else 8) else 2) else 15
theorem rerr_ok {a w : Int} {l : List (List Int × Bool)} (h : rerr a w l = 0) : (0 ≤ a ∧ a ≤ 3) ∧ ∀ x, x ∈ l → x.1.length ≤ 1 := by
  unfold rerr at h
  split at h
  · rename_i c
    split at h
    · split at h
      · exact ⟨c, terrs_ok h⟩
      · cases h
    · cases h
  · cases h
theorem turnsOf_j (N : Nat) (hN : 1010 ≤ N) (k0 : Int → Option R) (k1 : Int → List (List Int × Bool × List Int) → Option R) (k : Int → List (List Int × Bool × List Int) → Option R) (h0 : ∀ e, k0 e = k e []) (h1 : ∀ e l, k1 e l = k e l) (l : List (List Int × Bool × List Int)) (hl : l.length ≤ 1000) (hi : ∀ x, x ∈ l → x.1.length ≤ 1000 ∧ x.2.2.length ≤ 1000) : queues_TurnsOf_j0 N k0 k1 l = k 0 l := by
  unfold queues_TurnsOf_j0
  have := clone_loop N (k1 0 []) (fun z5 => k1 0 z5) l hl hi N 0 (by omega) (by omega)
  rw [Int.natCast_zero] at this
  rw [this, h1]
theorem turnsOf_eq (N : Nat) (hN : 1010 ≤ N) (a w : Int) (l : List (List Int × Bool)) (hl : l.length ≤ 1000) (hi : ∀ x, x ∈ l → x.1.length ≤ 1000) (k : List (List Int × Bool × List Int) → Int → Option R) :
    queues_TurnsOf N a w l k = if rerr a w l = 0 then k (mturns a [] l) 0 else k [] (rerr a w l) := by
  unfold queues_TurnsOf rerr
  rw [openErr_eq N (by omega), unless_eq, first2 N (by omega)]
  by_cases c : 0 ≤ a ∧ a ≤ 3
  · rw [if_pos c, if_pos c]
    by_cases d : 1 ≤ w ∧ w ≤ 16
    · rw [if_pos d, if_pos d]
      by_cases e : l.length ≤ 100
      · have e' : (l.length : Int) ≤ 100 := by omega
        rw [if_pos e, if_pos rfl, if_pos (decide_eq_true e'), cond_neg (by simp), each_eq N hN w (by omega) l hl hi _ (fun e => k [] e) (fun i e he => by rw [cond_pos he])]
        by_cases f : terrs w l = 0
        · rw [if_pos f, if_pos f, cond_neg (by simp)]
          have := turns_loop N (queues_TurnsOf_j0 N (fun z7 => (k [] z7)) (fun z8 z9 => (k z9 z8)) []) (fun z10 => (queues_TurnsOf_j0 N (fun z11 => (k [] z11)) (fun z12 z13 => (k z13 z12)) z10)) a c l hl (terrs_ok f) N 0 [] [] (by omega) (by omega) (by unfold places; split <;> simp) (by simp)
          rw [Int.natCast_zero, List.nil_append, List.drop_zero] at this
          rw [this]
          exact turnsOf_j N hN _ _ (fun e l => k l e) (fun e => rfl) (fun e l => rfl) _ (by rw [mturns_len]; omega) (mturns_small a c [] l (by unfold places; split <;> simp) (terrs_ok f))
        · rw [if_neg f, if_neg f]
      · have e' : ¬ (l.length : Int) ≤ 100 := by omega
        rw [if_neg e]; simp [e']
    · rw [if_neg d, if_neg d]; simp
  · rw [if_neg c, if_neg c]; simp
theorem Turns_eq (N : Nat) (hN : 1010 ≤ N) (a : Int) (ha : 0 ≤ a ∧ a ≤ 3) (l : List (List Int × Bool)) (hl : l.length ≤ 1000) (hi : ∀ x, x ∈ l → x.1.length ≤ 1) (k : List (List Int × Bool × List Int) → Option R) : ratchetref19_Turns N a l k = k (mturns a [] l) := by
  unfold ratchetref19_Turns
  have := Turns_loop N (k []) (fun z => k z) a ha l hl hi N 0 [] [] (by omega) (by omega) (by unfold places; split <;> simp) (by simp)
  simpa using this
theorem copyTurns_loop (N : Nat) (k0 : Option R) (k1 : List (List Int × Bool) → Option R) (l : List (List Int × Bool)) (hl : l.length ≤ 1000) (hi : ∀ x, x ∈ l → x.1.length ≤ 1000) : ∀ (n i : Nat), l.length < n + i → i ≤ l.length →
    ratchetref19_CopyTurns_l0 N k0 k1 n l i (l.take i) = k1 l := by
  intro n
  induction n with
  | zero => intro i h1 h2; omega
  | succ n ih =>
    intro i h1 h2
    rw [ratchetref19_CopyTurns_l0]
    by_cases h : i < l.length
    · have := hi l[i] (List.getElem_mem h)
      rw [cond_pos (by omega), at?_lt h, some_bind', copyTurn_eq N _ _ (by omega), roomB_of (by rw [List.length_take]; omega), cond_true, w64_succ (by omega), show (l[i].1, l[i].2) = l[i] from rfl, ← List.take_succ_eq_append_getElem h]
      exact ih (i + 1) (by omega) (by omega)
    · rw [cond_neg (by omega), List.take_of_length_le (by omega)]
theorem copyTurns_eq (N : Nat) (l : List (List Int × Bool)) (hl : l.length ≤ 1000) (hi : ∀ x, x ∈ l → x.1.length ≤ 1000) (hN : l.length < N) (k : List (List Int × Bool) → Option R) : ratchetref19_CopyTurns N l k = k l := by
  unfold ratchetref19_CopyTurns
  have := copyTurns_loop N (k []) (fun z => k z) l hl hi N 0 (by omega) (by omega)
  rw [Int.natCast_zero, List.take_zero] at this
  exact this
theorem err_loop (N : Nat) (k0 : Int → List (List Int × Bool) → List (List Int × Bool × List Int) → Int → Int → Option R) (a w : Int) (hw : 0 ≤ w) (l : List (List Int × Bool)) (g : List (List Int × Bool × List Int)) (e : Int) (hl : l.length ≤ 1000) : ∀ (n i : Nat) (d : Int), l.length < n + i → i ≤ l.length →
    ratchetlaw19_QueuesRuns_l1 N k0 n a w l g e d i = k0 a l g e (if d = 0 then terrs w (l.drop i) else d) := by
  intro n
  induction n with
  | zero => intro i d h1 h2; omega
  | succ n ih =>
    intro i d h1 h2
    rw [ratchetlaw19_QueuesRuns_l1]
    by_cases h : i < l.length
    · rw [cond_pos (by omega)]
      by_cases hd : d = 0
      · rw [cond_pos hd, at?_lt h, some_bind', TurnErr_eq N w hw, w64_succ (by omega), ih (i + 1) _ (by omega) (by omega), if_pos hd, drop_cons h, terrs]
      · rw [cond_neg hd, if_neg hd]
    · rw [cond_neg (by omega)]
      have : i = l.length := by omega
      subst this
      by_cases hd : d = 0 <;> simp [hd, terrs]
theorem len_loop (N : Nat) (k0 : Bool → Option R) (k1 : Int → Int → List (List Int × Bool) → Option R) (a w : Int) (l : List (List Int × Bool)) (hl : l.length ≤ 1000) : ∀ (n i : Nat), l.length < n + i → i ≤ l.length →
    ratchetlaw19_QueuesRuns_l0 N k0 k1 n a w l i = if (l.drop i).all (fun x => decide (x.1.length ≤ 3)) then k1 a w l else k0 true := by
  intro n
  induction n with
  | zero => intro i h1 h2; omega
  | succ n ih =>
    intro i h1 h2
    rw [ratchetlaw19_QueuesRuns_l0]
    by_cases h : i < l.length
    · rw [cond_pos (by omega), at?_lt h, some_bind', drop_cons h, List.all_cons]
      by_cases c : l[i].1.length ≤ 3
      · rw [cond_neg (by omega), w64_succ (by omega), ih (i + 1) (by omega) (by omega)]
        have e : (decide (l[i].1.length ≤ 3)) = true := decide_eq_true c
        rw [e, Bool.true_and]
      · rw [cond_pos (by omega)]
        have e : (decide (l[i].1.length ≤ 3)) = false := decide_eq_false c
        rw [e, Bool.false_and]; rfl
    · rw [cond_neg (by omega)]
      have : i = l.length := by omega
      subst this
      simp
theorem law_loop (N : Nat) (hN : 1010 ≤ N) (k0 : Bool → Option R) (k1 : Option R) (a : Int) (ha : 0 ≤ a ∧ a ≤ 3) (l : List (List Int × Bool)) (hl : l.length ≤ 102) (hi : ∀ x, x ∈ l → x.1.length ≤ 1) (g : List (List Int × Bool × List Int)) (hg : g.length = l.length) : ∀ (n i : Nat) (it put out : List Int), l.length < n + i → i ≤ l.length → (it.length : Int) ≤ places a → g.drop i = mturns a it (l.drop i) → put = out ++ it → put.length ≤ i →
    ratchetlaw19_QueuesRuns_l2 N k0 k1 n l g g i put out = k1 := by
  intro n
  induction n with
  | zero => intro i it put out h1 h2; omega
  | succ n ih =>
    intro i it put out h1 h2 hit he hp hpl
    rw [ratchetlaw19_QueuesRuns_l2]
    by_cases h : i < l.length
    · have h' : i < g.length := by omega
      have hx := hi _ (List.getElem_mem h)
      rw [drop_cons h, drop_cons h', mturns] at he
      injection he with he he'
      have hlen := mturn_len a it l[i].1 l[i].2
      have hlaw := mturn_law a it l[i].1 l[i].2
      have hput := mturn_put a it l[i].1 l[i].2
      have hfit := mturn_fits a it l[i].1 l[i].2 ha hit hx
      rw [← he] at he' hlen hlaw hput hfit
      generalize hgi : g[i] = y at he' hlen hlaw hput hfit
      have hp2 : places a ≤ 2 := by unfold places; split <;> omega
      have hol : out.length ≤ i := by rw [hp, List.length_append] at hpl; omega
      rw [cond_pos (by omega), at?_lt h', some_bind', some_bind', hgi, sameDone_refl N _ _ _ (by omega) (by omega) (by omega)]
      simp only [Bool.not_true, cond_false, some_bind', at?_lt h', hgi, w64_succ (show i ≤ _ by omega), at?_lt h]
      cases hy : y.2.1
      · rw [hy] at hlaw
        simp only [Bool.false_eq_true, if_false, List.append_nil] at hlaw
        have hq : put = (out ++ y.1) ++ y.2.2 := by rw [hp, List.append_assoc, hlaw]
        rw [cond_false, roomB_of (by omega), cond_true, copyInts_eq N _ (by rw [List.length_append]; omega), roomB_of (by rw [List.length_append]; omega), cond_true, ← hq, ints_same N put (by omega) (by omega)]
        simp only [Bool.not_true, cond_false]
        exact ih (i + 1) y.2.2 put (out ++ y.1) (by omega) (by omega) hfit he' hq (by omega)
      · rw [hy] at hlaw
        simp only [if_true] at hlaw
        have hne := hput hy
        obtain ⟨z, hz⟩ : ∃ z, l[i].1 = [z] := by
          match q : l[i].1, hx, hne with
          | [z], _, _ => exact ⟨z, rfl⟩
          | [], _, hne => exact absurd rfl hne
          | _ :: _ :: _, hx, _ => simp at hx
        rw [hz] at hlaw
        have hq : put ++ [z] = (out ++ y.1) ++ y.2.2 := by rw [hp, List.append_assoc, List.append_assoc, hlaw]
        have e0 : at? [z] 0 = some z := rfl
        rw [cond_true, hz, e0, some_bind', roomB_of (by omega), cond_true, roomB_of (by omega), cond_true, copyInts_eq N _ (by rw [List.length_append]; omega), roomB_of (by rw [List.length_append]; omega), cond_true, ← hq, ints_same N _ (by simp; omega) (by simp; omega)]
        simp only [Bool.not_true, cond_false]
        exact ih (i + 1) y.2.2 (put ++ [z]) (out ++ y.1) (by omega) (by omega) hfit he' hq (by simp; omega)
    · rw [cond_neg (by omega)]
theorem tail_eq (k0 : Bool → Option R) (a w : Int) (hw : 0 ≤ w) (l : List (List Int × Bool)) (hl : l.length ≤ 102) (g : List (List Int × Bool × List Int)) (e d : Int) (hg : (if d = 0 then terrs w l else d) = 0 → e = 0 ∧ (0 ≤ a ∧ a ≤ 3) ∧ g = mturns a [] l) (hb : (if d = 0 then terrs w l else d) ≠ 0 → e = (if d = 0 then terrs w l else d) ∧ g = []) :
    ratchetlaw19_QueuesRuns_j0 2000 k0 a w l g e d = k0 true := by
  unfold ratchetlaw19_QueuesRuns_j0
  have := err_loop 2000 (fun z3 z4 z5 z6 z7 => (bif decide (z7 ≠ 0) then (bif decide (z6 = z7) then (k0 (decide (((z5.length : Nat) : Int) = 0))) else (k0 false)) else (ratchetref19_Turns 2000 z3 z4 (fun y8 => (bif decide (z6 ≠ 0) then (k0 false) else (bif decide (((z5.length : Nat) : Int) ≠ ((z4.length : Nat) : Int)) then (k0 false) else (ratchetlaw19_QueuesRuns_l2 2000 (fun z15 => (k0 z15)) (k0 true) 2000 z4 z5 y8 0 [] []))))))) a w hw l g e (by omega) 2000 0 d (by omega) (by omega)
  rw [Int.natCast_zero, List.drop_zero] at this
  rw [this]
  by_cases c : (if d = 0 then terrs w l else d) = 0
  · obtain ⟨g1, g2, g3⟩ := hg c
    have ht : terrs w l = 0 := by
      split at c
      · exact c
      · rename_i hd; exact absurd c hd
    have hi := terrs_ok ht
    rw [c, cond_neg (by simp), Turns_eq 2000 (by omega) a g2 l (by omega) hi, g1, g3, cond_neg (by simp), cond_neg (by rw [mturns_len]; simp)]
    exact law_loop 2000 (by omega) _ _ a g2 l hl hi _ (mturns_len _ _ _) 2000 0 [] [] [] (by omega) (by omega) (by unfold places; split <;> simp) rfl rfl (by simp)
  · obtain ⟨g1, g2⟩ := hb c
    rw [cond_pos c, cond_pos g1, g2]; rfl
theorem err_loop0 (N : Nat) (k0 : Int → List (List Int × Bool) → List (List Int × Bool × List Int) → Int → Int → Option R) (a w : Int) (l : List (List Int × Bool)) (g : List (List Int × Bool × List Int)) (e d : Int) (hd : d ≠ 0) (n : Nat) (i : Int) :
    ratchetlaw19_QueuesRuns_l1 N k0 (n + 1) a w l g e d i = k0 a l g e d := by
  rw [ratchetlaw19_QueuesRuns_l1, cond_neg hd]
  cases decide (i < ((l.length : Nat) : Int)) <;> rfl
theorem tail_neg (k0 : Bool → Option R) (a w : Int) (l : List (List Int × Bool)) (hl : l.length ≤ 102) (g : List (List Int × Bool × List Int)) (e d : Int) (hd : d ≠ 0) (h : e = d ∧ g = []) : ratchetlaw19_QueuesRuns_j0 2000 k0 a w l g e d = k0 true := by
  unfold ratchetlaw19_QueuesRuns_j0
  rw [show (2000 : Nat) = 1999 + 1 from rfl, err_loop0 _ _ a w l g e d hd]
  rw [cond_pos hd, cond_pos h.1, h.2]; rfl
theorem pureQueuesRuns : PureQueuesRuns := by
  intro a w l ok0 ok1 ok2
  refine ⟨2000, fun {R} k => ?_⟩
  unfold ratchetlaw19_QueuesRuns
  rw [awake_ok, show (!true) = false from rfl, cond_false]
  by_cases hl : l.length ≤ 102
  · rw [cond_neg (by omega)]
    rw [show (0 : Int) = ((0 : Nat) : Int) from rfl, len_loop 2000 _ _ a w l (by omega) 2000 0 (by omega) (by omega), List.drop_zero]
    by_cases hi : l.all (fun x => decide (x.1.length ≤ 3)) = true
    · have hi' : ∀ x, x ∈ l → x.1.length ≤ 1000 := fun x hx => by
        have := of_decide_eq_true (List.all_eq_true.1 hi x hx)
        omega
      rw [if_pos hi, copyTurns_eq 2000 l (by omega) hi' (by omega), turnsOf_eq 2000 (by omega) a w l (by omega) hi']
      have step : ∀ (g : List (List Int × Bool × List Int)) (e : Int), (rerr a w l = 0 → e = 0 ∧ g = mturns a [] l) → (rerr a w l ≠ 0 → e = rerr a w l ∧ g = []) →
          (ratchetref19_WidthErr 2000 a w (fun y9 => (bif decide (y9 = 0) then (bif decide (100 < ((l.length : Nat) : Int)) then (ratchetlaw19_QueuesRuns_j0 2000 (fun z16 => (k z16)) a w l g e 8) else (ratchetlaw19_QueuesRuns_j0 2000 (fun z17 => (k z17)) a w l g e y9)) else (ratchetlaw19_QueuesRuns_j0 2000 (fun z18 => (k z18)) a w l g e y9)))) = k true := by
        intro g e h1 h2
        rw [WidthErr_eq]
        unfold rerr at h1 h2
        by_cases c : 0 ≤ a ∧ a ≤ 3
        · rw [if_pos c] at h1 h2 ⊢
          by_cases d : 1 ≤ w ∧ w ≤ 16
          · rw [if_pos d] at h1 h2 ⊢
            rw [cond_pos rfl]
            by_cases f : l.length ≤ 100
            · rw [if_pos f] at h1 h2
              rw [cond_neg (by omega)]
              exact tail_eq k a w (by omega) l (by omega) g e 0 (fun q => by rw [if_pos rfl] at q; exact ⟨(h1 q).1, c, (h1 q).2⟩) (fun q => by rw [if_pos rfl] at q ⊢; exact h2 q)
            · rw [if_neg f] at h1 h2
              rw [cond_pos (by omega)]
              exact tail_eq k a w (by omega) l (by omega) g e 8 (fun q => by simp at q) (fun q => by simpa using h2 (by simp))
          · rw [if_neg d] at h1 h2 ⊢
            rw [cond_neg (by simp)]
            by_cases hw : 0 ≤ w
            · exact tail_eq k a w hw l (by omega) g e 2 (fun q => by simp at q) (fun q => by simpa using h2 (by simp))
            · have h3 := h2 (by simp)
              exact tail_neg k a w l (by omega) g e 2 (by simp) h3
        · rw [if_neg c] at h1 h2 ⊢
          rw [cond_neg (by simp)]
          exact tail_neg k a w l (by omega) g e 15 (by simp) (h2 (by simp))
      by_cases q : rerr a w l = 0
      · rw [if_pos q]; exact step _ _ (fun _ => ⟨rfl, rfl⟩) (fun h => absurd q h)
      · rw [if_neg q]; exact step _ _ (fun h => absurd h q) (fun _ => ⟨rfl, rfl⟩)
    · rw [if_neg hi]
  · rw [cond_pos (by omega)]
end
end Am
end Go.Proofs.Ytcmaeglondkpdaa
