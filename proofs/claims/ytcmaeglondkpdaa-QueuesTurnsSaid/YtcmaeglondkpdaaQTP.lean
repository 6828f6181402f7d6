/- The statement about turns on plain data. -/
import Derived.Test.YtcmaeglondkpdaaQTF
import Derived.Test.YtcmaeglondkpdaaPu
set_option linter.unusedVariables false
set_option linter.unusedSimpArgs false
set_option maxRecDepth 100000
namespace Go.Proofs.Ytcmaeglondkpdaa
namespace Am
section
variable {R : Type}
theorem awake_ok (k : Bool → Option R) : ratchetlaw19_awake 2000 k = k true := by kernel_rfl

theorem within_eq (N : Nat) (a lo hi : Int) (k : Bool → Option R) : queues_within N a lo hi k = k (decide (lo ≤ a ∧ a ≤ hi)) := by
  unfold queues_within
  by_cases h : lo ≤ a <;> simp [h]
theorem Within_eq (N : Nat) (a lo hi : Int) (k : Bool → Option R) : ratchetbase_Within N a lo hi k = k (decide (lo ≤ a ∧ a ≤ hi)) := by
  unfold ratchetbase_Within
  by_cases h : lo ≤ a <;> simp [h]
theorem unless_eq (N : Nat) (b : Bool) (e : Int) (k : Int → Option R) : queues_unless N b e k = k (if b = true then 0 else e) := by
  unfold queues_unless; cases b <;> rfl
theorem first_loop (N : Nat) (k0 : Int → Option R) (k1 : Option R) (l : List Int) (hl : l.length ≤ 1000000) : ∀ (n i : Nat), l.length < n + i → i ≤ l.length →
    queues_first_l26 N k0 k1 n l l.length i = match (l.drop i).find? (fun x => decide (x ≠ 0)) with | some x => k0 x | none => k1 := by
  intro n
  induction n with
  | zero => intro i h1 h2; omega
  | succ n ih =>
    intro i h1 h2
    rw [queues_first_l26]
    by_cases h : i < l.length
    · rw [cond_pos (by omega), at?_lt h, some_bind', drop_cons h, List.find?_cons]
      by_cases hx : l[i] = 0
      · rw [cond_neg (by simp [hx]), w64_id (by omega) (by omega)]
        simp only [hx, ne_eq, not_true, decide_false]
        exact ih (i + 1) (by omega) (by omega)
      · rw [cond_pos hx]; simp [hx]
    · rw [cond_neg (by omega)]
      have : i = l.length := by omega
      subst this
      simp
theorem first_eq (N : Nat) (l : List Int) (hN : l.length < N) (hl : l.length ≤ 1000000) (k : Int → Option R) : queues_first N l k = k ((l.find? (fun x => decide (x ≠ 0))).getD 0) := by
  unfold queues_first
  have := first_loop N (fun z => k z) (k 0) l hl N 0 (by omega) (by omega)
  rw [Int.natCast_zero] at this
  rw [this, List.drop_zero]
  cases l.find? (fun x => decide (x ≠ 0)) <;> rfl
theorem first2 (N : Nat) (hN : 3 ≤ N) (a b : Int) (k : Int → Option R) : queues_first N [a, b] k = k (if a = 0 then b else a) := by
  rw [first_eq N _ (by simp; omega) (by simp)]
  by_cases ha : a = 0 <;> by_cases hb : b = 0 <;> simp [ha, hb]

/-! ### Lists of numbers -/
theorem ints_loop (N : Nat) (k0 : Bool → Option R) (k1 : Option R) (l : List Int) (hl : l.length ≤ 1000000) : ∀ (n i : Nat), l.length < n + i → i ≤ l.length →
    ratchetbase_Ints_l58 N k0 k1 n l l i = k1 := by
  intro n
  induction n with
  | zero => intro i h1 h2; omega
  | succ n ih =>
    intro i h1 h2
    rw [ratchetbase_Ints_l58]
    by_cases h : i < l.length
    · rw [cond_pos (by omega), at?_lt h, some_bind', some_bind', cond_neg (by simp), w64_succ (by omega)]
      exact ih (i + 1) (by omega) (by omega)
    · rw [cond_neg (by omega)]
theorem ints_same (N : Nat) (l : List Int) (hl : l.length ≤ 1000000) (hN : l.length < N) (k : Bool → Option R) : ratchetbase_Ints N l l k = k true := by
  unfold ratchetbase_Ints
  rw [cond_neg (by simp)]
  exact ints_loop N (fun z => k z) (k true) l hl N 0 (by omega) (by omega)

theorem any_loop (N : Nat) (k0 : Int → Int → Option R) (k1 : Int → Option R) (g : Int → Option R) (w : Int) (p : Int → Bool) (hp : ∀ x (k : Bool → Int → Option R), queues_itemsErr_c1 N x w k = k (p x) w) (hk : ∀ i : Nat, k0 i w = g w) (l : List Int) (hl : l.length ≤ 1000000) : ∀ (n i : Nat), l.length < n + i → i ≤ l.length →
    slices_IndexFunc_Lint_int_l26 N k0 k1 n l l.length i w = if (l.drop i).any p then g w else k1 w := by
  intro n
  induction n with
  | zero => intro i h1 h2; omega
  | succ n ih =>
    intro i h1 h2
    rw [slices_IndexFunc_Lint_int_l26]
    by_cases h : i < l.length
    · rw [cond_pos (by omega), at?_lt h, some_bind', hp, drop_cons h, List.any_cons]
      cases e : p l[i]
      · rw [cond_false, w64_succ (by omega), Bool.false_or]
        exact ih (i + 1) (by omega) (by omega)
      · rw [cond_true, hk]; simp
    · rw [cond_neg (by omega)]
      have : i = l.length := by omega
      subst this
      simp
theorem any_eq (N : Nat) (w : Int) (p : Int → Bool) (hp : ∀ x (k : Bool → Int → Option R), queues_itemsErr_c1 N x w k = k (p x) w) (l : List Int) (hl : l.length ≤ 1000000) (hN : l.length < N) (k : Bool → Int → Option R) :
    slices_ContainsFunc_Lint_int N l w k = k (l.any p) w := by
  unfold slices_ContainsFunc_Lint_int slices_IndexFunc_Lint_int
  have := any_loop N (fun z4 z5 => k (decide (0 ≤ z4)) z5) (fun z6 => k (decide (0 ≤ (-1 : Int))) z6) (fun w => k true w) w p hp (fun i => by simp) l hl N 0 (by omega) (by omega)
  rw [Int.natCast_zero] at this
  rw [this, List.drop_zero]
  cases l.any p <;> simp
theorem any_loop_v1 (N : Nat) (k0 : Int → Int → Option R) (k1 : Int → Option R) (g : Int → Option R) (w : Int) (p : Int → Bool) (hp : ∀ x (k : Bool → Int → Option R), queues_turnErr_c1 N x w k = k (p x) w) (hk : ∀ i : Nat, k0 i w = g w) (l : List Int) (hl : l.length ≤ 1000000) : ∀ (n i : Nat), l.length < n + i → i ≤ l.length →
    slices_IndexFunc_Lint_int_v1_l26 N k0 k1 n l l.length i w = if (l.drop i).any p then g w else k1 w := by
  intro n
  induction n with
  | zero => intro i h1 h2; omega
  | succ n ih =>
    intro i h1 h2
    rw [slices_IndexFunc_Lint_int_v1_l26]
    by_cases h : i < l.length
    · rw [cond_pos (by omega), at?_lt h, some_bind', hp, drop_cons h, List.any_cons]
      cases e : p l[i]
      · rw [cond_false, w64_succ (by omega), Bool.false_or]
        exact ih (i + 1) (by omega) (by omega)
      · rw [cond_true, hk]; simp
    · rw [cond_neg (by omega)]
      have : i = l.length := by omega
      subst this
      simp
theorem any_eq_v1 (N : Nat) (w : Int) (p : Int → Bool) (hp : ∀ x (k : Bool → Int → Option R), queues_turnErr_c1 N x w k = k (p x) w) (l : List Int) (hl : l.length ≤ 1000000) (hN : l.length < N) (k : Bool → Int → Option R) :
    slices_ContainsFunc_Lint_int_v1 N l w k = k (l.any p) w := by
  unfold slices_ContainsFunc_Lint_int_v1 slices_IndexFunc_Lint_int_v1
  have := any_loop_v1 N (fun z4 z5 => k (decide (0 ≤ z4)) z5) (fun z6 => k (decide (0 ≤ (-1 : Int))) z6) (fun w => k true w) w p hp (fun i => by simp) l hl N 0 (by omega) (by omega)
  rw [Int.natCast_zero] at this
  rw [this, List.drop_zero]
  cases l.any p <;> simp
theorem kindErr_eq (N : Nat) (a : Int) (k : Int → Option R) : queues_kindErr N a k = k (if 0 ≤ a ∧ a ≤ 3 then 0 else 15) := by
  unfold queues_kindErr; rw [within_eq, unless_eq]; simp
theorem widthErr_eq (N : Nat) (a : Int) (k : Int → Option R) : queues_widthErr N a k = k (if 1 ≤ a ∧ a ≤ 16 then 0 else 2) := by
  unfold queues_widthErr; rw [within_eq, unless_eq]; simp
theorem openErr_eq (N : Nat) (hN : 3 ≤ N) (a w : Int) (k : Int → Option R) : queues_openErr N a w k = k (if 0 ≤ a ∧ a ≤ 3 then (if 1 ≤ w ∧ w ≤ 16 then 0 else 2) else 15) := by
  unfold queues_openErr; rw [kindErr_eq, widthErr_eq, first2 N hN]
  by_cases c : 0 ≤ a ∧ a ≤ 3 <;> simp [c]
/-- Whether a number fits a width. -/
def fits (w x : Int) : Bool := decide (0 ≤ x ∧ x ≤ w64 (shl' .i64 1 w - 1))
theorem isValue_eq (N : Nat) (x w : Int) (hw : 0 ≤ w) (k : Bool → Option R) : queues_isValue N x w k = k (fits w x) := by
  unfold queues_isValue fits; rw [cond_pos hw, cond_neg (by omega), within_eq]
theorem Fits_eq (N : Nat) (x w : Int) (hw : 0 ≤ w) (k : Bool → Option R) : ratchetbase_Fits N x w k = k (fits w x) := by
  unfold ratchetbase_Fits ratchetbase_Power fits; rw [cond_neg (by omega)]; dsimp only; rw [Within_eq]
def places (a : Int) : Int := if a = 1 then 2 else 1
theorem placesOf_eq (N : Nat) (a : Int) (k : Int → Option R) : queues_placesOf N a k = k (places a) := by
  unfold queues_placesOf places; by_cases h : a = 1 <;> simp [h]
theorem Places_eq (N : Nat) (a : Int) (k : Int → Option R) : ratchetref19_Places N a k = k (places a) := by
  unfold ratchetref19_Places places; by_cases h : a = 1 <;> simp [h]
theorem KindErr_eq (N : Nat) (a : Int) (k : Int → Option R) : ratchetref19_KindErr N a k = k (if 0 ≤ a ∧ a ≤ 3 then 0 else 15) := by
  unfold ratchetref19_KindErr; rw [Within_eq]; by_cases c : 0 ≤ a ∧ a ≤ 3 <;> simp [c]
theorem WidthErr_eq (N : Nat) (a w : Int) (k : Int → Option R) : ratchetref19_WidthErr N a w k = k (if 0 ≤ a ∧ a ≤ 3 then (if 1 ≤ w ∧ w ≤ 16 then 0 else 2) else 15) := by
  unfold ratchetref19_WidthErr ratchetbase_IsWidth; rw [KindErr_eq]
  by_cases c : 0 ≤ a ∧ a ≤ 3 <;> by_cases d : 1 ≤ w ∧ w ≤ 16 <;> simp [c, d, Within_eq]
theorem copyInts_eq (N : Nat) (l : List Int) (hl : l.length ≤ 1000000) (k : List Int → Option R) : ratchetbase_CopyInts N l k = k l := by
  unfold ratchetbase_CopyInts; rw [roomB_of (by omega)]; rfl
theorem copyTurn_eq (N : Nat) (l : List Int) (t : Bool) (hl : l.length ≤ 1000000) (k : List Int → Bool → Option R) : ratchetref19_CopyTurn N l t k = k l t := by
  unfold ratchetref19_CopyTurn; rw [copyInts_eq N l hl]

def ierr (a w : Int) (l : List Int) : Int := if (l.length : Int) ≤ places a then (if l.any (fun x => !fits w x) then 2 else 0) else 8
def terr (w : Int) (p : List Int) : Int := if p.length ≤ 1 then (if p.any (fun x => !fits w x) then 2 else 0) else 10
theorem itemsErr_eq (N : Nat) (a w : Int) (hw : 0 ≤ w) (l : List Int) (hl : l.length ≤ 1000000) (hN : l.length + 3 ≤ N) (k : Int → Option R) : queues_itemsErr N a w l k = k (ierr a w l) := by
  unfold queues_itemsErr ierr
  rw [any_eq N w (fun x => !fits w x) (fun x k => by unfold queues_itemsErr_c1; rw [isValue_eq N x w hw]) l hl (by omega), placesOf_eq, unless_eq, unless_eq, first2 N (by omega)]
  by_cases c : (l.length : Int) ≤ places a <;> cases l.any (fun x => !fits w x) <;> simp [c]
theorem turnErr_eq (N : Nat) (w : Int) (hw : 0 ≤ w) (l : List Int) (t : Bool) (hl : l.length ≤ 1000000) (hN : l.length + 3 ≤ N) (k : Int → Option R) : queues_turnErr N w l t k = k (terr w l) := by
  unfold queues_turnErr terr
  rw [any_eq_v1 N w (fun x => !fits w x) (fun x k => by unfold queues_turnErr_c1; rw [isValue_eq N x w hw]) l hl (by omega), unless_eq, unless_eq, first2 N (by omega)]
  by_cases c : l.length ≤ 1
  · have c' : (l.length : Int) ≤ 1 := by omega
    cases l.any (fun x => !fits w x) <;> simp [c, c']
  · have c' : ¬ (l.length : Int) ≤ 1 := by omega
    cases l.any (fun x => !fits w x) <;> simp [c, c']
theorem ItemsErr_loop (N : Nat) (w : Int) (hw : 0 ≤ w) (k0 : Int → Option R) (k1 : Option R) (l : List Int) (hl : l.length ≤ 1000000) : ∀ (n i : Nat), l.length < n + i → i ≤ l.length →
    ratchetref19_ItemsErr_l58 N k0 k1 n w l i = if (l.drop i).any (fun x => !fits w x) then k0 2 else k1 := by
  intro n
  induction n with
  | zero => intro i h1 h2; omega
  | succ n ih =>
    intro i h1 h2
    rw [ratchetref19_ItemsErr_l58]
    by_cases h : i < l.length
    · rw [cond_pos (by omega), at?_lt h, some_bind', Fits_eq N _ w hw, drop_cons h, List.any_cons]
      cases e : fits w l[i]
      · simp
      · rw [w64_succ (by omega)]
        have := ih (i + 1) (by omega) (by omega)
        simpa using this
    · rw [cond_neg (by omega)]
      have : i = l.length := by omega
      subst this
      simp
theorem ItemsErr_eq (N : Nat) (a w : Int) (hw : 0 ≤ w) (l : List Int) (hl : l.length ≤ 1000000) (hN : l.length < N) (k : Int → Option R) : ratchetref19_ItemsErr N a w l k = k (ierr a w l) := by
  unfold ratchetref19_ItemsErr ierr
  rw [Places_eq]
  have e := ItemsErr_loop N w hw (fun z => k z) (k 0) l hl N 0 (by omega) (by omega)
  rw [Int.natCast_zero] at e
  rw [e, List.drop_zero]
  by_cases c : (l.length : Int) ≤ places a
  · rw [cond_neg (by omega), if_pos c]; cases l.any (fun x => !fits w x) <;> rfl
  · rw [cond_pos (by omega), if_neg c]
theorem TurnErr_eq (N : Nat) (w : Int) (hw : 0 ≤ w) (l : List Int) (t : Bool) (k : Int → Option R) : ratchetref19_TurnErr N w l t k = k (terr w l) := by
  unfold ratchetref19_TurnErr terr
  match l with
  | [] => simp
  | [x] =>
    have e0 : at? [x] 0 = some x := rfl
    simp only [List.length_cons, List.length_nil, e0, some_bind', Fits_eq N _ w hw]
    cases e : fits w x <;> simp [e]
  | x :: y :: q =>
    rw [cond_pos (by simp only [List.length_cons]; omega), if_neg (by simp only [List.length_cons]; omega)]

/-- A turn: what is taken, whether something is put, what is left. -/
def mturn (a : Int) (l p : List Int) (t : Bool) : List Int × Bool × List Int :=
  if a = 3 then
    (let put := !p.isEmpty && decide ((l.length : Int) < places a)
     let q := if put then l ++ p else l
     if t && !q.isEmpty then (q.take 1, put, q.drop 1) else ([], put, q))
  else
    (let takes := t && !l.isEmpty
     let put := !p.isEmpty && (decide ((l.length : Int) < places a) || (decide (a = 2) && takes))
     let q := if takes then l.drop 1 else l
     (if takes then l.take 1 else [], put, if put then q ++ p else q))
theorem ierr_len {a w : Int} {l : List Int} (h : ierr a w l = 0) : (l.length : Int) ≤ places a := by
  unfold ierr at h; split at h
  · assumption
  · cases h
theorem terr_len {w : Int} {l : List Int} (h : terr w l = 0) : l.length ≤ 1 := by
  unfold terr at h; split at h
  · assumption
  · cases h
theorem turn_eq (N : Nat) (a : Int) (l p : List Int) (t : Bool) (h1 : 0 ≤ a ∧ a ≤ 3) (h2 : (l.length : Int) ≤ places a) (h3 : p.length ≤ 1) (k : List Int → Bool → List Int → Option R) :
    queues_turn N a l p t k = k (mturn a l p t).1 (mturn a l p t).2.1 (mturn a l p t).2.2 := by
  have ha : a = 0 ∨ a = 1 ∨ a = 2 ∨ a = 3 := by omega
  have hl : l.length ≤ 2 := by unfold places at h2; split at h2 <;> omega
  match l, p, hl, h3 with
  | [], [], _, _ => rcases ha with rfl | rfl | rfl | rfl <;> cases t <;> (show _ = _; kernel_rfl)
  | [], [x], _, _ => rcases ha with rfl | rfl | rfl | rfl <;> cases t <;> (show _ = _; kernel_rfl)
  | [y], [], _, _ => rcases ha with rfl | rfl | rfl | rfl <;> cases t <;> (show _ = _; kernel_rfl)
  | [y], [x], _, _ => rcases ha with rfl | rfl | rfl | rfl <;> cases t <;> (show _ = _; kernel_rfl)
  | [y, z], [], _, _ => rcases ha with rfl | rfl | rfl | rfl <;> first | (exfalso; revert h2; decide) | (cases t <;> (show _ = _; kernel_rfl))
  | [y, z], [x], _, _ => rcases ha with rfl | rfl | rfl | rfl <;> first | (exfalso; revert h2; decide) | (cases t <;> (show _ = _; kernel_rfl))
theorem Turn_eq (N : Nat) (a : Int) (l p : List Int) (t : Bool) (h1 : 0 ≤ a ∧ a ≤ 3) (h2 : (l.length : Int) ≤ places a) (h3 : p.length ≤ 1) (k : List Int → Bool → List Int → Option R) :
    ratchetref19_Turn N a l p t k = k (mturn a l p t).1 (mturn a l p t).2.1 (mturn a l p t).2.2 := by
  have ha : a = 0 ∨ a = 1 ∨ a = 2 ∨ a = 3 := by omega
  have hl : l.length ≤ 2 := by unfold places at h2; split at h2 <;> omega
  match l, p, hl, h3 with
  | [], [], _, _ => rcases ha with rfl | rfl | rfl | rfl <;> cases t <;> (show _ = _; kernel_rfl)
  | [], [x], _, _ => rcases ha with rfl | rfl | rfl | rfl <;> cases t <;> (show _ = _; kernel_rfl)
  | [y], [], _, _ => rcases ha with rfl | rfl | rfl | rfl <;> cases t <;> (show _ = _; kernel_rfl)
  | [y], [x], _, _ => rcases ha with rfl | rfl | rfl | rfl <;> cases t <;> (show _ = _; kernel_rfl)
  | [y, z], [], _, _ => rcases ha with rfl | rfl | rfl | rfl <;> first | (exfalso; revert h2; decide) | (cases t <;> (show _ = _; kernel_rfl))
  | [y, z], [x], _, _ => rcases ha with rfl | rfl | rfl | rfl <;> first | (exfalso; revert h2; decide) | (cases t <;> (show _ = _; kernel_rfl))
theorem sameDone_refl (N : Nat) (a : List Int) (b : Bool) (c : List Int) (ha : a.length ≤ 1000) (hc : c.length ≤ 1000) (hN : 1001 ≤ N) (k : Bool → Option R) : ratchetref19_SameDone N a b c a b c k = k true := by
  unfold ratchetref19_SameDone
  rw [ints_same N a (by omega) (by omega), cond_true, ints_same N c (by omega) (by omega)]
  cases b <;> rfl
theorem mturn_len (a : Int) (l p : List Int) (t : Bool) : (mturn a l p t).1.length ≤ l.length + p.length ∧ (mturn a l p t).2.2.length ≤ l.length + p.length := by
  unfold mturn
  split
  · dsimp only; split <;> split <;> simp <;> omega
  · dsimp only
    constructor
    · split <;> simp; omega
    · split <;> split <;> simp <;> omega
theorem turnOf_eq (N : Nat) (a w : Int) (l p : List Int) (t : Bool) (hl : l.length ≤ 100) (hp : p.length ≤ 100) (hN : 200 ≤ N) (k : List Int → Bool → List Int → Int → Option R) :
    queues_TurnOf N a w l p t k = if 0 ≤ a ∧ a ≤ 3 then (if 1 ≤ w ∧ w ≤ 16 then (if ierr a w l = 0 then (if terr w p = 0 then k (mturn a l p t).1 (mturn a l p t).2.1 (mturn a l p t).2.2 0 else k [] false [] (terr w p)) else k [] false [] (ierr a w l)) else k [] false [] 2) else k [] false [] 15 := by
  unfold queues_TurnOf
  rw [openErr_eq N (by omega)]
  by_cases c : 0 ≤ a ∧ a ≤ 3
  · rw [if_pos c, if_pos c]
    by_cases d : 1 ≤ w ∧ w ≤ 16
    · rw [if_pos d, if_pos d, cond_neg (by simp), itemsErr_eq N a w (by omega) l (by omega) (by omega), turnErr_eq N w (by omega) p t (by omega) (by omega), first2 N (by omega)]
      by_cases e : ierr a w l = 0
      · rw [if_pos e, if_pos e]
        by_cases f : terr w p = 0
        · rw [if_pos f, f, cond_neg (by simp), turn_eq N a l p t c (ierr_len e) (terr_len f)]
        · rw [if_neg f, cond_pos f]
      · rw [if_neg e, if_neg e, cond_pos e]
    · rw [if_neg d, if_neg d, cond_pos (by simp)]
  · rw [if_neg c, if_neg c, cond_pos (by simp)]
theorem pureQueuesTurns : PureQueuesTurns := by
  intro a w x ok0 ok1 ok2
  obtain ⟨l, p, t⟩ := x
  refine ⟨2000, fun {R} k => ?_⟩
  dsimp only
  unfold ratchetlaw19_QueuesTurns
  rw [awake_ok, show (!true) = false from rfl, cond_false]
  by_cases hl : l.length ≤ 4
  · by_cases hp : p.length ≤ 3
    · rw [cond_neg (by omega), cond_neg (by omega)]
      unfold queues_PlacesOf
      simp only [kindErr_eq, placesOf_eq, copyInts_eq 2000 l (by omega), copyTurn_eq 2000 p t (by omega), turnOf_eq 2000 a w l p t (by omega) (by omega) (by omega), KindErr_eq, WidthErr_eq, Places_eq]
      by_cases c : 0 ≤ a ∧ a ≤ 3
      · by_cases d : 1 ≤ w ∧ w ≤ 16
        · simp only [c, d, ItemsErr_eq 2000 a w (by omega) l (by omega) (by omega), TurnErr_eq 2000 w (by omega) p t]
          by_cases e : ierr a w l = 0
          · by_cases f : terr w p = 0
            · have := mturn_len a l p t
              simp [e, f, Turn_eq 2000 a l p t c (ierr_len e) (terr_len f), sameDone_refl 2000 _ _ _ (show (mturn a l p t).1.length ≤ 1000 by omega) (show (mturn a l p t).2.2.length ≤ 1000 by omega)]
            · simp [e, f, sameDone_refl]
          · simp [e, sameDone_refl]
        · simp [c, d, sameDone_refl]
      · simp [c, sameDone_refl]
    · rw [cond_neg (by omega), cond_pos (by omega)]
  · rw [cond_pos (by omega)]
end
end Am
end Go.Proofs.Ytcmaeglondkpdaa
