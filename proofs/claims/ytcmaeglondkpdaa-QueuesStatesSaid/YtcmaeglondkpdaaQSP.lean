/- The statement about states of queues on plain data. -/
import Derived.Test.YtcmaeglondkpdaaQSF
import Derived.Test.YtcmaeglondkpdaaPu
set_option linter.unusedVariables false
set_option linter.unusedSimpArgs false
set_option maxRecDepth 100000
namespace Go.Proofs.Ytcmaeglondkpdaa
namespace Am
section
variable {R : Type}
theorem awake_ok (k : Bool → Option R) : ratchetlaw19_awake 2000 k = k true := by kernel_rfl

theorem within_eq (N : Nat) (a lo hi : Int) (k : Bool → Option R) : queues_within N a lo hi k = k (decide (lo ≤ a ∧ a ≤ hi)) := by
  unfold queues_within
  by_cases h : lo ≤ a <;> simp [h]
theorem Within_eq (N : Nat) (a lo hi : Int) (k : Bool → Option R) : ratchetbase_Within N a lo hi k = k (decide (lo ≤ a ∧ a ≤ hi)) := by
  unfold ratchetbase_Within
  by_cases h : lo ≤ a <;> simp [h]
theorem unless_eq (N : Nat) (b : Bool) (e : Int) (k : Int → Option R) : queues_unless N b e k = k (if b = true then 0 else e) := by
  unfold queues_unless; cases b <;> rfl
theorem first_loop (N : Nat) (k0 : Int → Option R) (k1 : Option R) (l : List Int) (hl : l.length ≤ 1000000) : ∀ (n i : Nat), l.length < n + i → i ≤ l.length →
    queues_first_l0 N k0 k1 n l l.length i = match (l.drop i).find? (fun x => decide (x ≠ 0)) with | some x => k0 x | none => k1 := by
  intro n
  induction n with
  | zero => intro i h1 h2; omega
  | succ n ih =>
    intro i h1 h2
    rw [queues_first_l0]
    by_cases h : i < l.length
    · rw [cond_pos (by omega), at?_lt h, some_bind', drop_cons h, List.find?_cons]
      by_cases hx : l[i] = 0
      · rw [cond_neg (by simp [hx]), w64_id (by omega) (by omega)]
        simp only [hx, ne_eq, not_true, decide_false]
        exact ih (i + 1) (by omega) (by omega)
      · rw [cond_pos hx]; simp [hx]
    · rw [cond_neg (by omega)]
      have : i = l.length := by omega
      subst this
      simp
theorem first_eq (N : Nat) (l : List Int) (hN : l.length < N) (hl : l.length ≤ 1000000) (k : Int → Option R) : queues_first N l k = k ((l.find? (fun x => decide (x ≠ 0))).getD 0) := by
  unfold queues_first
  have := first_loop N (fun z => k z) (k 0) l hl N 0 (by omega) (by omega)
  rw [Int.natCast_zero] at this
  rw [this, List.drop_zero]
  cases l.find? (fun x => decide (x ≠ 0)) <;> rfl
theorem first2 (N : Nat) (hN : 3 ≤ N) (a b : Int) (k : Int → Option R) : queues_first N [a, b] k = k (if a = 0 then b else a) := by
  rw [first_eq N _ (by simp; omega) (by simp)]
  by_cases ha : a = 0 <;> by_cases hb : b = 0 <;> simp [ha, hb]

/-! ### Lists of numbers -/
theorem ints_loop (N : Nat) (k0 : Bool → Option R) (k1 : Option R) (l : List Int) (hl : l.length ≤ 1000000) : ∀ (n i : Nat), l.length < n + i → i ≤ l.length →
    ratchetbase_Ints_l0 N k0 k1 n l l i = k1 := by
  intro n
  induction n with
  | zero => intro i h1 h2; omega
  | succ n ih =>
    intro i h1 h2
    rw [ratchetbase_Ints_l0]
    by_cases h : i < l.length
    · rw [cond_pos (by omega), at?_lt h, some_bind', some_bind', cond_neg (by simp), w64_succ (by omega)]
      exact ih (i + 1) (by omega) (by omega)
    · rw [cond_neg (by omega)]
theorem ints_same (N : Nat) (l : List Int) (hl : l.length ≤ 1000000) (hN : l.length < N) (k : Bool → Option R) : ratchetbase_Ints N l l k = k true := by
  unfold ratchetbase_Ints
  rw [cond_neg (by simp)]
  exact ints_loop N (fun z => k z) (k true) l hl N 0 (by omega) (by omega)

theorem any_loop (N : Nat) (k0 : Int → Int → Option R) (k1 : Int → Option R) (g : Int → Option R) (w : Int) (p : Int → Bool) (hp : ∀ x (k : Bool → Int → Option R), queues_itemsErr_c1 N x w k = k (p x) w) (hk : ∀ i : Nat, k0 i w = g w) (l : List Int) (hl : l.length ≤ 1000000) : ∀ (n i : Nat), l.length < n + i → i ≤ l.length →
    slices_IndexFunc_Lint_int_l0 N k0 k1 n l l.length i w = if (l.drop i).any p then g w else k1 w := by
  intro n
  induction n with
  | zero => intro i h1 h2; omega
  | succ n ih =>
    intro i h1 h2
    rw [slices_IndexFunc_Lint_int_l0]
    by_cases h : i < l.length
    · rw [cond_pos (by omega), at?_lt h, some_bind', hp, drop_cons h, List.any_cons]
      cases e : p l[i]
      · rw [cond_false, w64_succ (by omega), Bool.false_or]
        exact ih (i + 1) (by omega) (by omega)
      · rw [cond_true, hk]; simp
    · rw [cond_neg (by omega)]
      have : i = l.length := by omega
      subst this
      simp
theorem any_eq (N : Nat) (w : Int) (p : Int → Bool) (hp : ∀ x (k : Bool → Int → Option R), queues_itemsErr_c1 N x w k = k (p x) w) (l : List Int) (hl : l.length ≤ 1000000) (hN : l.length < N) (k : Bool → Int → Option R) :
    slices_ContainsFunc_Lint_int N l w k = k (l.any p) w := by
  unfold slices_ContainsFunc_Lint_int slices_IndexFunc_Lint_int
  have := any_loop N (fun z4 z5 => k (decide (0 ≤ z4)) z5) (fun z6 => k (decide (0 ≤ (-1 : Int))) z6) (fun w => k true w) w p hp (fun i => by simp) l hl N 0 (by omega) (by omega)
  rw [Int.natCast_zero] at this
  rw [this, List.drop_zero]
  cases l.any p <;> simp
theorem any_loop_v1 (N : Nat) (k0 : Int → Int → Option R) (k1 : Int → Option R) (g : Int → Option R) (w : Int) (p : Int → Bool) (hp : ∀ x (k : Bool → Int → Option R), queues_turnErr_c1 N x w k = k (p x) w) (hk : ∀ i : Nat, k0 i w = g w) (l : List Int) (hl : l.length ≤ 1000000) : ∀ (n i : Nat), l.length < n + i → i ≤ l.length →
    slices_IndexFunc_Lint_int_v1_l0 N k0 k1 n l l.length i w = if (l.drop i).any p then g w else k1 w := by
  intro n
  induction n with
  | zero => intro i h1 h2; omega
  | succ n ih =>
    intro i h1 h2
    rw [slices_IndexFunc_Lint_int_v1_l0]
    by_cases h : i < l.length
    · rw [cond_pos (by omega), at?_lt h, some_bind', hp, drop_cons h, List.any_cons]
      cases e : p l[i]
      · rw [cond_false, w64_succ (by omega), Bool.false_or]
        exact ih (i + 1) (by omega) (by omega)
      · rw [cond_true, hk]; simp
    · rw [cond_neg (by omega)]
      have : i = l.length := by omega
      subst this
      simp
theorem any_eq_v1 (N : Nat) (w : Int) (p : Int → Bool) (hp : ∀ x (k : Bool → Int → Option R), queues_turnErr_c1 N x w k = k (p x) w) (l : List Int) (hl : l.length ≤ 1000000) (hN : l.length < N) (k : Bool → Int → Option R) :
    slices_ContainsFunc_Lint_int_v1 N l w k = k (l.any p) w := by
  unfold slices_ContainsFunc_Lint_int_v1 slices_IndexFunc_Lint_int_v1
  have := any_loop_v1 N (fun z4 z5 => k (decide (0 ≤ z4)) z5) (fun z6 => k (decide (0 ≤ (-1 : Int))) z6) (fun w => k true w) w p hp (fun i => by simp) l hl N 0 (by omega) (by omega)
  rw [Int.natCast_zero] at this
  rw [this, List.drop_zero]
  cases l.any p <;> simp
theorem kindErr_eq (N : Nat) (a : Int) (k : Int → Option R) : queues_kindErr N a k = k (if 0 ≤ a ∧ a ≤ 3 then 0 else 15) := by
  unfold queues_kindErr; rw [within_eq, unless_eq]; simp
theorem widthErr_eq (N : Nat) (a : Int) (k : Int → Option R) : queues_widthErr N a k = k (if 1 ≤ a ∧ a ≤ 16 then 0 else 2) := by
  unfold queues_widthErr; rw [within_eq, unless_eq]; simp
theorem openErr_eq (N : Nat) (hN : 3 ≤ N) (a w : Int) (k : Int → Option R) : queues_openErr N a w k = k (if 0 ≤ a ∧ a ≤ 3 then (if 1 ≤ w ∧ w ≤ 16 then 0 else 2) else 15) := by
  unfold queues_openErr; rw [kindErr_eq, widthErr_eq, first2 N hN]
  by_cases c : 0 ≤ a ∧ a ≤ 3 <;> simp [c]
/-- Whether a number fits a width. -/
def fits (w x : Int) : Bool := decide (0 ≤ x ∧ x ≤ w64 (shl' .i64 1 w - 1))
theorem isValue_eq (N : Nat) (x w : Int) (hw : 0 ≤ w) (k : Bool → Option R) : queues_isValue N x w k = k (fits w x) := by
  unfold queues_isValue fits; rw [cond_pos hw, cond_neg (by omega), within_eq]
theorem Fits_eq (N : Nat) (x w : Int) (hw : 0 ≤ w) (k : Bool → Option R) : ratchetbase_Fits N x w k = k (fits w x) := by
  unfold ratchetbase_Fits ratchetbase_Power fits; rw [cond_neg (by omega)]; dsimp only; rw [Within_eq]
def places (a : Int) : Int := if a = 1 then 2 else 1
theorem placesOf_eq (N : Nat) (a : Int) (k : Int → Option R) : queues_placesOf N a k = k (places a) := by
  unfold queues_placesOf places; by_cases h : a = 1 <;> simp [h]
theorem Places_eq (N : Nat) (a : Int) (k : Int → Option R) : ratchetref19_Places N a k = k (places a) := by
  unfold ratchetref19_Places places; by_cases h : a = 1 <;> simp [h]
theorem KindErr_eq (N : Nat) (a : Int) (k : Int → Option R) : ratchetref19_KindErr N a k = k (if 0 ≤ a ∧ a ≤ 3 then 0 else 15) := by
  unfold ratchetref19_KindErr; rw [Within_eq]; by_cases c : 0 ≤ a ∧ a ≤ 3 <;> simp [c]
theorem WidthErr_eq (N : Nat) (a w : Int) (k : Int → Option R) : ratchetref19_WidthErr N a w k = k (if 0 ≤ a ∧ a ≤ 3 then (if 1 ≤ w ∧ w ≤ 16 then 0 else 2) else 15) := by
  unfold ratchetref19_WidthErr ratchetbase_IsWidth; rw [KindErr_eq]
  by_cases c : 0 ≤ a ∧ a ≤ 3 <;> by_cases d : 1 ≤ w ∧ w ≤ 16 <;> simp [c, d, Within_eq]
theorem copyInts_eq (N : Nat) (l : List Int) (hl : l.length ≤ 1000000) (k : List Int → Option R) : ratchetbase_CopyInts N l k = k l := by
  unfold ratchetbase_CopyInts; rw [roomB_of (by omega)]; rfl
def ierr (a w : Int) (l : List Int) : Int := if (l.length : Int) ≤ places a then (if l.any (fun x => !fits w x) then 2 else 0) else 8
def terr (w : Int) (p : List Int) : Int := if p.length ≤ 1 then (if p.any (fun x => !fits w x) then 2 else 0) else 10
theorem itemsErr_eq (N : Nat) (a w : Int) (hw : 0 ≤ w) (l : List Int) (hl : l.length ≤ 1000000) (hN : l.length + 3 ≤ N) (k : Int → Option R) : queues_itemsErr N a w l k = k (ierr a w l) := by
  unfold queues_itemsErr ierr
  rw [any_eq N w (fun x => !fits w x) (fun x k => by unfold queues_itemsErr_c1; rw [isValue_eq N x w hw]) l hl (by omega), placesOf_eq, unless_eq, unless_eq, first2 N (by omega)]
  by_cases c : (l.length : Int) ≤ places a <;> cases l.any (fun x => !fits w x) <;> simp [c]
theorem turnErr_eq (N : Nat) (w : Int) (hw : 0 ≤ w) (l : List Int) (t : Bool) (hl : l.length ≤ 1000000) (hN : l.length + 3 ≤ N) (k : Int → Option R) : queues_turnErr N w l t k = k (terr w l) := by
  unfold queues_turnErr terr
  rw [any_eq_v1 N w (fun x => !fits w x) (fun x k => by unfold queues_turnErr_c1; rw [isValue_eq N x w hw]) l hl (by omega), unless_eq, unless_eq, first2 N (by omega)]
  by_cases c : l.length ≤ 1
  · have c' : (l.length : Int) ≤ 1 := by omega
    cases l.any (fun x => !fits w x) <;> simp [c, c']
  · have c' : ¬ (l.length : Int) ≤ 1 := by omega
    cases l.any (fun x => !fits w x) <;> simp [c, c']
/-- A turn: what is taken, whether something is put, what is left. -/
def mturn (a : Int) (l p : List Int) (t : Bool) : List Int × Bool × List Int :=
  if a = 3 then
    (let put := !p.isEmpty && decide ((l.length : Int) < places a)
     let q := if put then l ++ p else l
     if t && !q.isEmpty then (q.take 1, put, q.drop 1) else ([], put, q))
  else
    (let takes := t && !l.isEmpty
     let put := !p.isEmpty && (decide ((l.length : Int) < places a) || (decide (a = 2) && takes))
     let q := if takes then l.drop 1 else l
     (if takes then l.take 1 else [], put, if put then q ++ p else q))
theorem ierr_len {a w : Int} {l : List Int} (h : ierr a w l = 0) : (l.length : Int) ≤ places a := by
  unfold ierr at h; split at h
  · assumption
  · cases h
theorem terr_len {w : Int} {l : List Int} (h : terr w l = 0) : l.length ≤ 1 := by
  unfold terr at h; split at h
  · assumption
  · cases h
theorem turn_eq (N : Nat) (a : Int) (l p : List Int) (t : Bool) (h1 : 0 ≤ a ∧ a ≤ 3) (h2 : (l.length : Int) ≤ places a) (h3 : p.length ≤ 1) (k : List Int → Bool → List Int → Option R) :
    queues_turn N a l p t k = k (mturn a l p t).1 (mturn a l p t).2.1 (mturn a l p t).2.2 := by
  have ha : a = 0 ∨ a = 1 ∨ a = 2 ∨ a = 3 := by omega
  have hl : l.length ≤ 2 := by unfold places at h2; split at h2 <;> omega
  match l, p, hl, h3 with
  | [], [], _, _ => rcases ha with rfl | rfl | rfl | rfl <;> cases t <;> (show _ = _; kernel_rfl)
  | [], [x], _, _ => rcases ha with rfl | rfl | rfl | rfl <;> cases t <;> (show _ = _; kernel_rfl)
  | [y], [], _, _ => rcases ha with rfl | rfl | rfl | rfl <;> cases t <;> (show _ = _; kernel_rfl)
  | [y], [x], _, _ => rcases ha with rfl | rfl | rfl | rfl <;> cases t <;> (show _ = _; kernel_rfl)
  | [y, z], [], _, _ => rcases ha with rfl | rfl | rfl | rfl <;> first | (exfalso; revert h2; decide) | (cases t <;> (show _ = _; kernel_rfl))
  | [y, z], [x], _, _ => rcases ha with rfl | rfl | rfl | rfl <;> first | (exfalso; revert h2; decide) | (cases t <;> (show _ = _; kernel_rfl))
theorem sameDone_refl (N : Nat) (a : List Int) (b : Bool) (c : List Int) (ha : a.length ≤ 1000) (hc : c.length ≤ 1000) (hN : 1001 ≤ N) (k : Bool → Option R) : ratchetref19_SameDone N a b c a b c k = k true := by
  unfold ratchetref19_SameDone
  rw [ints_same N a (by omega) (by omega), cond_true, ints_same N c (by omega) (by omega)]
  cases b <;> rfl
theorem ItemsErr_loop (N : Nat) (w : Int) (hw : 0 ≤ w) (k0 : Int → Option R) (k1 : Option R) (l : List Int) (hl : l.length ≤ 1000000) : ∀ (n i : Nat), l.length < n + i → i ≤ l.length →
    ratchetref19_ItemsErr_l0 N k0 k1 n w l i = if (l.drop i).any (fun x => !fits w x) then k0 2 else k1 := by
  intro n
  induction n with
  | zero => intro i h1 h2; omega
  | succ n ih =>
    intro i h1 h2
    rw [ratchetref19_ItemsErr_l0]
    by_cases h : i < l.length
    · rw [cond_pos (by omega), at?_lt h, some_bind', Fits_eq N _ w hw, drop_cons h, List.any_cons]
      cases e : fits w l[i]
      · simp
      · rw [w64_succ (by omega)]
        have := ih (i + 1) (by omega) (by omega)
        simpa using this
    · rw [cond_neg (by omega)]
      have : i = l.length := by omega
      subst this
      simp
theorem ItemsErr_eq (N : Nat) (a w : Int) (hw : 0 ≤ w) (l : List Int) (hl : l.length ≤ 1000000) (hN : l.length < N) (k : Int → Option R) : ratchetref19_ItemsErr N a w l k = k (ierr a w l) := by
  unfold ratchetref19_ItemsErr ierr
  rw [Places_eq]
  have e := ItemsErr_loop N w hw (fun z => k z) (k 0) l hl N 0 (by omega) (by omega)
  rw [Int.natCast_zero] at e
  rw [e, List.drop_zero]
  by_cases c : (l.length : Int) ≤ places a
  · rw [cond_neg (by omega), if_pos c]; cases l.any (fun x => !fits w x) <;> rfl
  · rw [cond_pos (by omega), if_neg c]
/-- The widths of the elements, the elements. -/
def ws (a w : Int) : List Int := if a = 1 then [1, w, 1, w, 1, 1, w] else [1, w, 1, 1, w]
def els (a w : Int) : List (ByteArray × Int × Int × Int × Int) :=
  if a = 1 then [(ByteArray.mk #[102, 117, 108, 108, 48], 0, 1, 0, 0), (ByteArray.mk #[100, 97, 116, 97, 48], 0, w, 0, 0), (ByteArray.mk #[102, 117, 108, 108, 49], 0, 1, 0, 0), (ByteArray.mk #[100, 97, 116, 97, 49], 0, w, 0, 0), (ByteArray.mk #[116, 97, 107, 101, 110], 1, 1, 0, 0), (ByteArray.mk #[103, 105, 118, 101, 110], 1, 1, 0, 0), (ByteArray.mk #[103, 105, 102, 116], 1, w, 0, 0)]
  else [(ByteArray.mk #[102, 117, 108, 108, 48], 0, 1, 0, 0), (ByteArray.mk #[100, 97, 116, 97, 48], 0, w, 0, 0), (ByteArray.mk #[116, 97, 107, 101, 110], 1, 1, 0, 0), (ByteArray.mk #[103, 105, 118, 101, 110], 1, 1, 0, 0), (ByteArray.mk #[103, 105, 102, 116], 1, w, 0, 0)]
theorem els_ws (a w : Int) : (els a w).map (fun x => x.2.2.1) = ws a w := by
  unfold els ws; split <;> rfl
theorem els_len (a w : Int) : (els a w).length = (ws a w).length := by rw [← els_ws, List.length_map]
theorem ws_len (a w : Int) : (ws a w).length ≤ 7 := by unfold ws; split <;> simp
theorem queue_eq (a w : Int) (h : 0 ≤ a ∧ a ≤ 3) (g : List (ByteArray × Int × Int × Int × Int) → Option R) : queues_queue 2000 a w (fun _ e _ _ _ => g e) = g (els a w) := by
  have ha : a = 0 ∨ a = 1 ∨ a = 2 ∨ a = 3 := by omega
  rcases ha with rfl | rfl | rfl | rfl
  · show _ = g [(ByteArray.mk #[102, 117, 108, 108, 48], 0, 1, 0, 0), (ByteArray.mk #[100, 97, 116, 97, 48], 0, w, 0, 0), (ByteArray.mk #[116, 97, 107, 101, 110], 1, 1, 0, 0), (ByteArray.mk #[103, 105, 118, 101, 110], 1, 1, 0, 0), (ByteArray.mk #[103, 105, 102, 116], 1, w, 0, 0)]
    kernel_rfl
  · show _ = g [(ByteArray.mk #[102, 117, 108, 108, 48], 0, 1, 0, 0), (ByteArray.mk #[100, 97, 116, 97, 48], 0, w, 0, 0), (ByteArray.mk #[102, 117, 108, 108, 49], 0, 1, 0, 0), (ByteArray.mk #[100, 97, 116, 97, 49], 0, w, 0, 0), (ByteArray.mk #[116, 97, 107, 101, 110], 1, 1, 0, 0), (ByteArray.mk #[103, 105, 118, 101, 110], 1, 1, 0, 0), (ByteArray.mk #[103, 105, 102, 116], 1, w, 0, 0)]
    kernel_rfl
  · show _ = g [(ByteArray.mk #[102, 117, 108, 108, 48], 0, 1, 0, 0), (ByteArray.mk #[100, 97, 116, 97, 48], 0, w, 0, 0), (ByteArray.mk #[116, 97, 107, 101, 110], 1, 1, 0, 0), (ByteArray.mk #[103, 105, 118, 101, 110], 1, 1, 0, 0), (ByteArray.mk #[103, 105, 102, 116], 1, w, 0, 0)]
    kernel_rfl
  · show _ = g [(ByteArray.mk #[102, 117, 108, 108, 48], 0, 1, 0, 0), (ByteArray.mk #[100, 97, 116, 97, 48], 0, w, 0, 0), (ByteArray.mk #[116, 97, 107, 101, 110], 1, 1, 0, 0), (ByteArray.mk #[103, 105, 118, 101, 110], 1, 1, 0, 0), (ByteArray.mk #[103, 105, 102, 116], 1, w, 0, 0)]
    kernel_rfl
theorem Widths_eq (a w : Int) (h : 0 ≤ a ∧ a ≤ 3) (k : List Int → Option R) : ratchetref19_Widths 2000 a w k = k (ws a w) := by
  have ha : a = 0 ∨ a = 1 ∨ a = 2 ∨ a = 3 := by omega
  rcases ha with rfl | rfl | rfl | rfl
  · show _ = k [1, w, 1, 1, w]; kernel_rfl
  · show _ = k [1, w, 1, w, 1, 1, w]; kernel_rfl
  · show _ = k [1, w, 1, 1, w]; kernel_rfl
  · show _ = k [1, w, 1, 1, w]; kernel_rfl
/-- Whether values fit their widths. -/
def allok : List Int → List Int → Bool
  | w :: ws, x :: xs => fits w x && allok ws xs
  | _, _ => true
theorem ws_pos {a w : Int} (hw : 1 ≤ w) : ∀ x, x ∈ ws a w → 0 ≤ x := by
  intro x hx
  unfold ws at hx
  split at hx <;> simp at hx <;> omega
theorem each_loop (N : Nat) (k0 : Int → Int → List (ByteArray × Int × Int × Int × Int) → Option R) (k1 : List (ByteArray × Int × Int × Int × Int) → Option R) (g : Option R) (l : List Int) (e : List (ByteArray × Int × Int × Int × Int)) (hk : ∀ i : Nat, k0 i 2 e = g) (he : ∀ x, x ∈ e → 0 ≤ x.2.2.1) (hle : l.length = e.length) (hl : l.length ≤ 1000) : ∀ (n i : Nat), l.length < n + i → i ≤ l.length →
    queues_each_int_l0 N k0 k1 n l l.length i e = if allok ((e.map (fun x => x.2.2.1)).drop i) (l.drop i) then k1 e else g := by
  intro n
  induction n with
  | zero => intro i h1 h2; omega
  | succ n ih =>
    intro i h1 h2
    rw [queues_each_int_l0]
    by_cases h : i < l.length
    · have h' : i < e.length := by omega
      have hd : (e.map (fun x => x.2.2.1)).drop i = e[i].2.2.1 :: (e.map (fun x => x.2.2.1)).drop (i + 1) := by
        rw [List.drop_eq_getElem_cons (by simpa using h')]; simp
      unfold queues_ItemsOf_c1
      rw [cond_pos (by omega), at?_lt h, some_bind', at?_lt h', some_bind', isValue_eq N _ _ (he _ (List.getElem_mem h')), unless_eq, hd, drop_cons h, allok]
      dsimp only
      cases q : fits e[i].2.2.1 l[i]
      · simp [hk]
      · rw [w64_succ (by omega)]
        have := ih (i + 1) (by omega) (by omega)
        simpa using this
    · rw [cond_neg (by omega)]
      have : i = l.length := by omega
      subst this
      rw [List.drop_eq_nil_of_le (Nat.le_refl _)]
      cases (e.map (fun x => x.2.2.1)).drop l.length <;> simp [allok]
theorem isValues_loop (N : Nat) (k0 : Bool → Option R) (k1 : Option R) (v l : List Int) (hv : ∀ x, x ∈ v → 0 ≤ x) (hle : v.length = l.length) (hl : l.length ≤ 1000) : ∀ (n i : Nat), l.length < n + i → i ≤ l.length →
    ratchetbase_IsValues_l0 N k0 k1 n v l i = if allok (v.drop i) (l.drop i) then k1 else k0 false := by
  intro n
  induction n with
  | zero => intro i h1 h2; omega
  | succ n ih =>
    intro i h1 h2
    rw [ratchetbase_IsValues_l0]
    by_cases h : i < l.length
    · have h' : i < v.length := by omega
      rw [cond_pos (by omega), at?_lt h, some_bind', at?_lt h', some_bind', Fits_eq N _ _ (hv _ (List.getElem_mem h')), drop_cons h, drop_cons h', allok]
      cases q : fits v[i] l[i]
      · simp
      · rw [w64_succ (by omega)]
        have := ih (i + 1) (by omega) (by omega)
        simpa using this
    · rw [cond_neg (by omega)]
      have : i = l.length := by omega
      subst this
      rw [List.drop_eq_nil_of_le (Nat.le_refl l.length)]
      cases v.drop l.length <;> simp [allok]

/-- The error of a state, its items. -/
def serr (a w : Int) (st : List Int) : Int :=
  if st.length = (ws a w).length then (if allok (ws a w) st then (if a = 1 ∧ st[2]? = some 1 ∧ st[0]? = some 0 then 20 else 0) else 2) else 10
def its (a : Int) (st : List Int) : List Int :=
  (if st[0]? = some 1 then [(st[1]?).getD 0] else []) ++ (if a = 1 ∧ st[2]? = some 1 then [(st[3]?).getD 0] else [])
theorem fits1 {x : Int} (h : fits 1 x = true) : x = 0 ∨ x = 1 := by
  have e : w64 (shl' .i64 1 1 - 1) = 1 := by decide +kernel
  have := of_decide_eq_true h
  rw [e] at this; omega
theorem w0 : w64 0 = 0 := by decide +kernel
theorem w1 : w64 1 = 1 := by decide +kernel
theorem w2 : w64 2 = 2 := by decide +kernel
theorem w3 : w64 3 = 3 := by decide +kernel
theorem itemsOf_loop1 (k0 : Int → Option R) (k1 : Option R) (k2 : List Int → Option R) (k3 : Int → List Int → Option R) (hk : k1 = k2 []) (s0 s1 s2 s3 s4 : Int) (h0 : s0 = 0 ∨ s0 = 1) :
    queues_ItemsOf_l0 2000 k0 k1 k2 k3 2000 [s0, s1, s2, s3, s4] 1 0 [] = k2 (if s0 = 1 then [s1] else []) := by
  rcases h0 with rfl | rfl
  · show _ = k2 []; kernel_rfl
  · show _ = k2 [s1]; kernel_rfl
theorem itemsOf_loop2 (k0 : Int → Option R) (k1 : Option R) (k2 : List Int → Option R) (k3 : Int → List Int → Option R) (s0 s1 s2 s3 s4 s5 s6 : Int) (h0 : s0 = 0 ∨ s0 = 1) (h2 : s2 = 0 ∨ s2 = 1) :
    queues_ItemsOf_l0 2000 k0 k1 k2 k3 2000 [s0, s1, s2, s3, s4, s5, s6] 2 0 [] = if s2 = 1 ∧ s0 = 0 then k3 20 [] else k2 ((if s0 = 1 then [s1] else []) ++ (if s2 = 1 then [s3] else [])) := by
  rcases h0 with rfl | rfl <;> rcases h2 with rfl | rfl
  · show _ = k2 []; kernel_rfl
  · show _ = k3 20 []; kernel_rfl
  · show _ = k2 [s1]; kernel_rfl
  · show _ = k2 [s1, s3]; kernel_rfl
theorem Items_loop1 (a : Int) (ha : a ≠ 1) (h03 : 0 ≤ a ∧ a ≤ 3) (k : List Int → Option R) (s0 s1 s2 s3 s4 : Int) (h0 : s0 = 0 ∨ s0 = 1) : ratchetref19_Items 2000 a [s0, s1, s2, s3, s4] k = k (if s0 = 1 then [s1] else []) := by
  have ha : a = 0 ∨ a = 2 ∨ a = 3 := by omega
  rcases ha with rfl | rfl | rfl <;> rcases h0 with rfl | rfl <;> first | (show _ = k []; kernel_rfl) | (show _ = k [s1]; kernel_rfl)
theorem Items_loop2 (k : List Int → Option R) (s0 s1 s2 s3 s4 s5 s6 : Int) (h0 : s0 = 0 ∨ s0 = 1) (h2 : s2 = 0 ∨ s2 = 1) : ratchetref19_Items 2000 1 [s0, s1, s2, s3, s4, s5, s6] k = k ((if s0 = 1 then [s1] else []) ++ (if s2 = 1 then [s3] else [])) := by
  rcases h0 with rfl | rfl <;> rcases h2 with rfl | rfl
  · show _ = k []; kernel_rfl
  · show _ = k [s3]; kernel_rfl
  · show _ = k [s1]; kernel_rfl
  · show _ = k [s1, s3]; kernel_rfl
theorem itemsOf_eq (a w : Int) (st : List Int) (hl : st.length ≤ 9) (h : 0 ≤ a ∧ a ≤ 3) (hw : 1 ≤ w ∧ w ≤ 16) (k : List Int → Int → Option R) :
    queues_ItemsOf 2000 a w st k = if serr a w st = 0 then k (its a st) 0 else k [] (serr a w st) := by
  unfold queues_ItemsOf serr
  rw [openErr_eq 2000 (by omega), if_pos h, if_pos hw, cond_neg (by simp)]
  rw [queue_eq a w h (fun y3 => bif decide (((st.length : Nat) : Int) ≠ ((y3.length : Nat) : Int)) then k [] 10 else queues_each_int 2000 st y3 fun y7 y8 y9 => bif decide (y8 ≠ 0) then k [] y8 else queues_placesOf 2000 a fun y10 => queues_ItemsOf_l0 2000 (fun z11 => k [] z11) (k [] 0) (fun z12 => k z12 0) (fun z13 z14 => k z14 z13) 2000 st y10 0 [])]
  have e1 := els_len a w
  by_cases c : st.length = (ws a w).length
  · rw [cond_neg (by omega), if_pos c]
    unfold queues_each_int
    have := each_loop 2000 (fun z4 z5 z6 => bif decide (z5 ≠ 0) then k [] z5 else queues_placesOf 2000 a fun y10 => queues_ItemsOf_l0 2000 (fun z11 => k [] z11) (k [] 0) (fun z12 => k z12 0) (fun z13 z14 => k z14 z13) 2000 st y10 0 []) (fun z7 => bif decide ((0 : Int) ≠ 0) then k [] 0 else queues_placesOf 2000 a fun y10 => queues_ItemsOf_l0 2000 (fun z11 => k [] z11) (k [] 0) (fun z12 => k z12 0) (fun z13 z14 => k z14 z13) 2000 st y10 0 []) (k [] 2) st (els a w) (fun i => by simp)
      (fun x hx => ws_pos hw.1 _ (by rw [← els_ws]; exact List.mem_map.2 ⟨x, hx, rfl⟩)) (by omega) (by omega) 2000 0 (by omega) (by omega)
    rw [Int.natCast_zero, List.drop_zero, List.drop_zero, els_ws] at this
    rw [this]
    by_cases d : allok (ws a w) st = true
    · rw [if_pos d, if_pos d, cond_neg (by simp), placesOf_eq]
      have hc := c
      by_cases ha : a = 1
      · subst ha
        match st, hc, d with
        | [s0, s1, s2, s3, s4, s5, s6], _, d =>
          simp only [ws, if_true, allok, Bool.and_eq_true] at d
          have h0 := fits1 d.1
          have h2 := fits1 d.2.2.1
          rw [show places 1 = 2 from rfl, itemsOf_loop2 _ _ _ _ s0 s1 s2 s3 s4 s5 s6 h0 h2]
          rcases h0 with rfl | rfl <;> rcases h2 with rfl | rfl <;> simp [its]
      · have hp : places a = 1 := if_neg ha
        have hw5 : ws a w = [1, w, 1, 1, w] := if_neg ha
        rw [hw5] at hc d
        match st, hc, d with
        | [s0, s1, s2, s3, s4], _, d =>
          simp only [allok, Bool.and_eq_true] at d
          have h0 := fits1 d.1
          rw [hp, itemsOf_loop1 (fun z11 => k [] z11) (k [] 0) (fun z12 => k z12 0) (fun z13 z14 => k z14 z13) rfl s0 s1 s2 s3 s4 h0]
          rcases h0 with rfl | rfl <;> simp [its, ha]
    · rw [if_neg d, if_neg d]; simp
  · rw [cond_pos (by omega), if_neg c]; simp
theorem StateErr_eq (a w : Int) (st : List Int) (hl : st.length ≤ 9) (h : 0 ≤ a ∧ a ≤ 3) (hw : 1 ≤ w ∧ w ≤ 16) (k : Int → Option R) : ratchetref19_StateErr 2000 a w st k = k (serr a w st) := by
  unfold ratchetref19_StateErr serr
  rw [Widths_eq a w h]
  by_cases c : st.length = (ws a w).length
  · rw [cond_neg (by omega), if_pos c]
    unfold ratchetbase_IsValues
    have := isValues_loop 2000 (fun z4 => bif (!z4) then k 2 else bif decide (a = 1) then (at? st 2).bind fun x3 => bif decide (x3 = 1) then (at? st 0).bind fun x4 => bif decide (x4 = 0) then k 20 else k 0 else k 0 else k 0) (bif (!true) then k 2 else bif decide (a = 1) then (at? st 2).bind fun x3 => bif decide (x3 = 1) then (at? st 0).bind fun x4 => bif decide (x4 = 0) then k 20 else k 0 else k 0 else k 0) (ws a w) st (ws_pos hw.1) c.symm (by omega) 2000 0 (by omega) (by omega)
    rw [Int.natCast_zero, List.drop_zero, List.drop_zero] at this
    rw [cond_neg (by omega), this]
    by_cases d : allok (ws a w) st = true
    · rw [if_pos d, if_pos d]
      by_cases ha : a = 1
      · subst ha
        match st, c with
        | [s0, s1, s2, s3, s4, s5, s6], _ =>
          have e2 : at? [s0, s1, s2, s3, s4, s5, s6] 2 = some s2 := rfl
          have e0 : at? [s0, s1, s2, s3, s4, s5, s6] 0 = some s0 := rfl
          rw [e2]
          simp only [some_bind', e0]
          by_cases q : s2 = 1 <;> by_cases q' : s0 = 0 <;> simp [q, q']
      · simp [ha]
    · rw [if_neg d, if_neg d]; simp
  · rw [cond_pos (by omega), if_neg c]
theorem Items_eq (a w : Int) (st : List Int) (h : 0 ≤ a ∧ a ≤ 3) (hs : serr a w st = 0) (k : List Int → Option R) : ratchetref19_Items 2000 a st k = k (its a st) := by
  unfold serr at hs
  by_cases c : st.length = (ws a w).length
  · rw [if_pos c] at hs
    by_cases d : allok (ws a w) st = true
    · by_cases ha : a = 1
      · subst ha
        match st, c, d with
        | [s0, s1, s2, s3, s4, s5, s6], _, d =>
          simp only [ws, if_true, allok, Bool.and_eq_true] at d
          have h0 := fits1 d.1
          have h2 := fits1 d.2.2.1
          rw [Items_loop2 k s0 s1 s2 s3 s4 s5 s6 h0 h2]
          simp [its]
      · have hw5 : ws a w = [1, w, 1, 1, w] := if_neg ha
        rw [hw5] at c d
        match st, c, d with
        | [s0, s1, s2, s3, s4], _, d =>
          simp only [allok, Bool.and_eq_true] at d
          rw [Items_loop1 a ha h k s0 s1 s2 s3 s4 (fits1 d.1)]
          simp [its, ha]
    · rw [if_neg d] at hs; cases hs
  · rw [if_neg c] at hs; cases hs

/-- The state with some items. -/
def stOf (a : Int) (it : List Int) : List Int := match it with
  | [] => if a = 1 then [0, 0, 0, 0, 0, 0, 0] else [0, 0, 0, 0, 0]
  | [x] => if a = 1 then [1, x, 0, 0, 0, 0, 0] else [1, x, 0, 0, 0]
  | x :: y :: _ => [1, x, 1, y, 0, 0, 0]
theorem stOf_len (a : Int) (it : List Int) : (stOf a it).length ≤ 7 := by
  unfold stOf; split <;> (try split) <;> simp
theorem stateOf_loop (a w : Int) (it : List Int) (h : 0 ≤ a ∧ a ≤ 3) (hi : (it.length : Int) ≤ places a) (k : List Int → Option R) : queues_StateOf_l0 2000 k 2000 it it.length 0 (List.replicate (els a w).length 0) = k (stOf a it) := by
  have hl : it.length ≤ 2 := by unfold places at hi; split at hi <;> omega
  by_cases ha : a = 1
  · subst ha
    match it, hl with
    | [], _ => show _ = k [0, 0, 0, 0, 0, 0, 0]; kernel_rfl
    | [x], _ => show _ = k [1, x, 0, 0, 0, 0, 0]; kernel_rfl
    | [x, y], _ => show _ = k [1, x, 1, y, 0, 0, 0]; kernel_rfl
  · have hp : places a = 1 := if_neg ha
    have he : (els a w).length = 5 := by unfold els; rw [if_neg ha]; rfl
    rw [he]
    match it, hl with
    | [], _ => rw [show stOf a [] = [0, 0, 0, 0, 0] from if_neg ha]; show _ = _; kernel_rfl
    | [x], _ => rw [show stOf a [x] = [1, x, 0, 0, 0] from if_neg ha]; show _ = _; kernel_rfl
    | [x, y], _ => rw [hp] at hi; simp at hi
theorem State_loop (a w : Int) (it : List Int) (h : 0 ≤ a ∧ a ≤ 3) (hi : (it.length : Int) ≤ places a) (k : List Int → Option R) : ratchetref19_State_l0 2000 k 2000 it 0 (List.replicate (ws a w).length 0) = k (stOf a it) := by
  have hl : it.length ≤ 2 := by unfold places at hi; split at hi <;> omega
  by_cases ha : a = 1
  · subst ha
    match it, hl with
    | [], _ => show _ = k [0, 0, 0, 0, 0, 0, 0]; kernel_rfl
    | [x], _ => show _ = k [1, x, 0, 0, 0, 0, 0]; kernel_rfl
    | [x, y], _ => show _ = k [1, x, 1, y, 0, 0, 0]; kernel_rfl
  · have hp : places a = 1 := if_neg ha
    have he : (ws a w).length = 5 := by unfold ws; rw [if_neg ha]; rfl
    rw [he]
    match it, hl with
    | [], _ => rw [show stOf a [] = [0, 0, 0, 0, 0] from if_neg ha]; show _ = _; kernel_rfl
    | [x], _ => rw [show stOf a [x] = [1, x, 0, 0, 0] from if_neg ha]; show _ = _; kernel_rfl
    | [x, y], _ => rw [hp] at hi; simp at hi
theorem stateOf_eq (a w : Int) (it : List Int) (hl : it.length ≤ 4) (h : 0 ≤ a ∧ a ≤ 3) (hw : 1 ≤ w ∧ w ≤ 16) (k : List Int → Int → Option R) :
    queues_StateOf 2000 a w it k = if ierr a w it = 0 then k (stOf a it) 0 else k [] (ierr a w it) := by
  unfold queues_StateOf
  rw [openErr_eq 2000 (by omega), if_pos h, if_pos hw, cond_neg (by simp), itemsErr_eq 2000 a w (by omega) it (by omega) (by omega)]
  by_cases c : ierr a w it = 0
  · rw [cond_neg (by simp [c]), if_pos c]
    rw [queue_eq a w h (fun y4 => bif decide (0 ≤ ((y4.length : Nat) : Int) ∧ ((y4.length : Nat) : Int) ≤ ((y4.length : Nat) : Int)) then bif roomB y4.length 8 then queues_StateOf_l0 2000 (fun z8 => k z8 0) 2000 it it.length 0 (List.replicate y4.length 0) else none else none)]
    have := ws_len a w
    have := els_len a w
    rw [cond_pos (by omega), roomB_of (by omega), cond_true, stateOf_loop a w it h (ierr_len c)]
  · rw [cond_pos c, if_neg c]
theorem State_eq (a w : Int) (it : List Int) (h : 0 ≤ a ∧ a ≤ 3) (hi : (it.length : Int) ≤ places a) (k : List Int → Option R) : ratchetref19_State 2000 a w it k = k (stOf a it) := by
  unfold ratchetref19_State
  rw [Widths_eq a w h]
  have := ws_len a w
  rw [cond_pos (by omega), roomB_of (by omega), cond_true, State_loop a w it h hi]
theorem its_len (a : Int) (st : List Int) : (its a st).length ≤ 2 := by
  unfold its; split <;> split <;> simp
theorem openBad (a w : Int) (l it : List Int) (h : ¬ ((0 ≤ a ∧ a ≤ 3) ∧ (1 ≤ w ∧ w ≤ 16))) (k : List Int → Int → Option R) : queues_ItemsOf 2000 a w l k = k [] (if 0 ≤ a ∧ a ≤ 3 then 2 else 15) ∧ queues_StateOf 2000 a w it k = k [] (if 0 ≤ a ∧ a ≤ 3 then 2 else 15) := by
  unfold queues_ItemsOf queues_StateOf
  rw [openErr_eq 2000 (by omega), openErr_eq 2000 (by omega)]
  by_cases c : 0 ≤ a ∧ a ≤ 3
  · have d : ¬ (1 ≤ w ∧ w ≤ 16) := fun d => h ⟨c, d⟩
    rw [if_pos c, if_neg d, if_pos c, cond_pos (by simp), cond_pos (by simp)]; exact ⟨rfl, rfl⟩
  · rw [if_neg c, if_neg c, cond_pos (by simp), cond_pos (by simp)]; exact ⟨rfl, rfl⟩
theorem pureQueuesStates : PureQueuesStates := by
  intro a w x ok0 ok1 ok2
  obtain ⟨st, it⟩ := x
  refine ⟨2000, fun {R} k => ?_⟩
  dsimp only
  unfold ratchetlaw19_QueuesStates
  rw [awake_ok, show (!true) = false from rfl, cond_false]
  by_cases hl : st.length ≤ 9
  · by_cases hp : it.length ≤ 4
    · rw [cond_neg (by omega), cond_neg (by omega)]
      simp only [copyInts_eq 2000 st (by omega), copyInts_eq 2000 it (by omega), WidthErr_eq]
      by_cases h : (0 ≤ a ∧ a ≤ 3) ∧ (1 ≤ w ∧ w ≤ 16)
      · obtain ⟨c, d⟩ := h
        simp only [itemsOf_eq a w st hl c d, stateOf_eq a w it hp c d, if_pos c, if_pos d, StateErr_eq a w st hl c d]
        have hj : ∀ (e : Int) (l : List Int) , (ierr a w it = 0 → e = 0 ∧ l = stOf a it) → (ierr a w it ≠ 0 → e = ierr a w it ∧ l = []) → ∀ b, ratchetlaw19_QueuesStates_j0 2000 k a w l e b it = k true := by
          intro e l h1 h2 b
          unfold ratchetlaw19_QueuesStates_j0
          rw [ItemsErr_eq 2000 a w (by omega) it (by omega) (by omega)]
          by_cases q : ierr a w it = 0
          · obtain ⟨q1, q2⟩ := h1 q
            have := stOf_len a it
            rw [cond_neg (by simp [q]), cond_pos q1, State_eq a w it c (ierr_len q), q2, ints_same 2000 _ (by omega) (by omega)]
          · obtain ⟨q1, q2⟩ := h2 q
            rw [cond_pos q, cond_pos q1, q2]; rfl
        have := its_len a st
        by_cases e : serr a w st = 0
        · by_cases f : ierr a w it = 0
          · simp [e, f, Items_eq a w st c e, ints_same 2000 (its a st) (by omega) (by omega), hj 0 (stOf a it) (fun _ => ⟨rfl, rfl⟩) (fun h => absurd f h)]
          · simp [e, f, Items_eq a w st c e, ints_same 2000 (its a st) (by omega) (by omega), hj (ierr a w it) [] (fun h => absurd h f) (fun _ => ⟨rfl, rfl⟩)]
        · by_cases f : ierr a w it = 0
          · simp [e, f, hj 0 (stOf a it) (fun _ => ⟨rfl, rfl⟩) (fun h => absurd f h)]
          · simp [e, f, hj (ierr a w it) [] (fun h => absurd h f) (fun _ => ⟨rfl, rfl⟩)]
      · have e0 : w64 0 = 0 := w0
        have hb := fun k => (openBad (R := R) a w st it h k).1
        have hb' := fun k => (openBad (R := R) a w st it h k).2
        rw [hb]
        rw [hb']
        by_cases c : 0 ≤ a ∧ a ≤ 3
        · have d : ¬ (1 ≤ w ∧ w ≤ 16) := fun d => h ⟨c, d⟩
          simp [c, d, e0]
        · simp [c, e0]
    · rw [cond_neg (by omega), cond_pos (by omega)]
  · rw [cond_pos (by omega)]
end
end Am
end Go.Proofs.Ytcmaeglondkpdaa
