/- The typed layer: each operation is sound. -/
import Derived.Test.YtfdmmnfjdifccaaGreatDoorAs2
set_option linter.unusedVariables false
set_option linter.unusedSimpArgs false
set_option linter.constructorNameAsVariable false
namespace Go.Proofs.YtfdmmnfjdifccaaGreatDoor
namespace Am
section
variable {R : Type} {α : Type} {F : Cf} {Q : α → StS → List Acc → (StS → List Acc → Option R) → R → Prop}

def Ok (F : Cf) (Q : α → StS → List Acc → (StS → List Acc → Option R) → R → Prop) (m : MS R) (m' : M α) : Prop :=
  ∀ s l k r, m s l k = some r → ∃ a s1 l1, m'.runA F s.enc l = some (a, s1.enc, l1) ∧ Q a s1 l1 k r
def FOK (FS : CfS R) (F : Cf) : Prop :=
  ∀ v ds h k r, FS v ds h k = some r → ∃ roots res h', F v (DS.encs ds) (encH h) = some (roots, DS.encs res, encH h') ∧ k roots res h' = some r

theorem Ok_fail {m' : M α} : Ok F Q (failS : MS R) m' := fun _ _ _ _ h => by cases h
theorem Ok_rd {t : Nat} {kk : DS → MS R} {k' : D → M α} (h : ∀ d, Ok F Q (kk d) (k' d.enc)) : Ok F Q (rdS t kk) (.rd t k') := by
  intro s l k r hr
  unfold rdS at hr
  split at hr
  · rename_i d hd
    obtain ⟨a, s1, l1, h1, h2⟩ := h d s l k r hr
    exact ⟨a, s1, l1, by simpa [M.runA, StS.enc, lk_encE, hd] using h1, h2⟩
  · cases hr
theorem Ok_wr {t : Nat} {d : DS} {m : MS R} {m' : M α} (h : Ok F Q m m') : Ok F Q (wrS t d m) (.wr t d.enc m') := by
  intro s l k r hr
  exact h _ l k r hr
theorem Ok_get {key : Nat} {kk : ObS → MS R} {k' : Ob → M α} (h : ∀ o, Ok F Q (kk o) (k' o.enc)) : Ok F Q (getS key kk) (.get key k') := by
  intro s l k r hr
  unfold getS at hr
  split at hr
  · rename_i o ho
    obtain ⟨a, s1, l1, h1, h2⟩ := h o s _ k r hr
    exact ⟨a, s1, l1, by simpa [M.runA, StS.enc, lk_encH, ho] using h1, h2⟩
  · cases hr
theorem Ok_set {key : Nat} {o : ObS} {m : MS R} {m' : M α} {o' : Ob} (ho' : o.enc = o') (h : Ok F Q m m') : Ok F Q (setS key o m) (.set key o' m') := by
  subst ho'
  intro s l k r hr
  unfold setS at hr
  split at hr
  · rename_i o ho
    obtain ⟨a, s1, l1, h1, h2⟩ := h _ _ k r hr
    refine ⟨a, s1, l1, ?_, h2⟩
    simp only [M.runA, StS.enc, lk_encH, ho, Option.map_some, Option.bind_some]
    exact h1
  · cases hr
theorem Ok_new {key : Nat} {o : ObS} {m : MS R} {m' : M α} {o' : Ob} (ho' : o.enc = o') (h : Ok F Q m m') : Ok F Q (newS key o m) (.new key o' m') := by
  subst ho'
  intro s l k r hr
  unfold newS at hr
  split at hr
  · cases hr
  · rename_i ho
    obtain ⟨a, s1, l1, h1, h2⟩ := h _ _ k r hr
    refine ⟨a, s1, l1, ?_, h2⟩
    simp only [M.runA, StS.enc, lk_encH, ho, Option.map_none]
    exact h1
theorem Ok_cget {key off : Nat} {kk : DS → MS R} {k' : D → M α} (h : ∀ d, Ok F Q (kk d) (k' d.enc)) : Ok F Q (cgetS key off kk) (.cget key off k') := by
  intro s l k r hr
  unfold cgetS at hr
  split at hr
  · rename_i o ho
    split at hr
    · rename_i d hd
      obtain ⟨a, s1, l1, h1, h2⟩ := h d s _ k r hr
      exact ⟨a, s1, l1, by simpa [M.runA, StS.enc, lk_encH, ho, cellAt_enc hd] using h1, h2⟩
    · cases hr
  · cases hr
theorem Ok_cset {key off : Nat} {d : DS} {m : MS R} {m' : M α} (h : Ok F Q m m') : Ok F Q (csetS key off d m) (.cset key off d.enc m') := by
  intro s l k r hr
  unfold csetS at hr
  split at hr
  · rename_i o ho
    split at hr
    · rename_i o' hd
      obtain ⟨a, s1, l1, h1, h2⟩ := h _ _ k r hr
      refine ⟨a, s1, l1, ?_, h2⟩
      simp only [M.runA, StS.enc, lk_encH, ho, Option.map_some, Option.bind_some, cellPut_enc hd]
      exact h1
    · cases hr
  · cases hr
theorem Ok_call {FS : CfS R} (hF : FOK FS F) {v : Nat} {ds : List DS} {h : HeapS} {kk : List Nat → List DS → HeapS → MS R} {k' : List Nat → List D → Heap → M α}
    (hk : ∀ roots res h', Ok F Q (kk roots res h') (k' roots (DS.encs res) (encH h'))) : Ok F Q (callMS FS v ds h kk) (.call v (DS.encs ds) (encH h) k') := by
  intro s l k r hr
  obtain ⟨roots, res, h', h1, h2⟩ := hF _ _ _ _ _ hr
  obtain ⟨a, s1, l1, h3, h4⟩ := hk roots res h' s l k r h2
  exact ⟨a, s1, l1, by simpa [M.runA, h1] using h3, h4⟩
theorem Ok_gd {b : Bool} {m : MS R} {m' : M α} (h : b = true → Ok F Q m m') : Ok F Q (gdS b m) m' := by
  intro s l k r hr
  cases b with
  | false => cases hr
  | true => exact h rfl s l k r hr
theorem Ok_grd {c : Prop} [Decidable c] {b : Bool} {m : MS R} {m' : M α} (hc : b = true → c) (h : Ok F Q m m') : Ok F Q (gdS b m) (grd c m') :=
  Ok_gd fun hb => by unfold Am.grd; rw [if_pos (hc hb)]; exact h
theorem Ok_grd' {c : Prop} [Decidable c] {m : MS R} {m' : M α} (hc : c) (h : Ok F Q m m') : Ok F Q m (Am.grd c m') := by unfold Am.grd; rw [if_pos hc]; exact h
theorem Ok_br {b : Bool} {m n : MS R} {m' n' : M α} (h : b = true → Ok F Q m m') (h' : b = false → Ok F Q n n') : Ok F Q (brS b m n) (iteM b m' n') := by
  intro s l k r hr
  cases b with
  | true => exact h rfl s l k r hr
  | false => exact h' rfl s l k r hr
theorem Ok_brx {b : Bool} {m n : MS R} {m' : M α} (h : b = true → Ok F Q m m') (h' : b = false → Ok F Q n m') : Ok F Q (brS b m n) m' := by
  intro s l k r hr
  cases b with
  | true => exact h rfl s l k r hr
  | false => exact h' rfl s l k r hr
theorem Ok_oo {β : Type} {o : Option β} {kk : β → MS R} {m' : M α} (h : ∀ a, o = some a → Ok F Q (kk a) m') : Ok F Q (ooS o kk) m' := by
  intro s l k r hr
  obtain ⟨a, h1, h2⟩ := Option.bind_eq_some_iff.1 hr
  exact h a h1 s l k r h2
theorem Ok_oret {β γ : Type} {o : Option β} {o' : Option γ} {kk : β → MS R} {k' : γ → M α} (h : ∀ a, o = some a → ∃ c, o' = some c ∧ Ok F Q (kk a) (k' c)) : Ok F Q (ooS o kk) (oret o' k') :=
  Ok_oo fun a ha => by
    obtain ⟨c, hc, h⟩ := h a ha
    rw [hc]; exact h

theorem Ok_arrK {kk : Bool → EL → MS R} {k' : Bool → Nat → List (List V) → M α} (h : ∀ b e, Ok F Q (kk b e) (k' b e.sz e.xs)) : ∀ o : ObS, Ok F Q (arrKS kk o) (arrK k' o.enc)
  | .arr e => h false e
  | .frz e => h true e
  | .box _ => Ok_fail
  | .fbx _ => Ok_fail
  | .mp _ _ _ _ => Ok_fail
  | .dead => Ok_fail
theorem Ok_arrNF {kk : EL → MS R} {k' : Nat → List (List V) → M α} (h : ∀ e, Ok F Q (kk e) (k' e.sz e.xs)) : ∀ o : ObS, Ok F Q (arrNFS kk o) (arrNF k' o.enc)
  | .arr e => h e
  | .frz e => Ok_fail
  | .box _ => Ok_fail
  | .fbx _ => Ok_fail
  | .mp _ _ _ _ => Ok_fail
  | .dead => Ok_fail
theorem Ok_frz {c : Bool} {key : Nat} {o : ObS} {o' : Ob} (ho : o.enc = o') {m : MS R} {m' : M α} (h : Ok F Q m m') : Ok F Q (frzS c key o m) (frz c key o' m') := by
  cases c with
  | true => exact Ok_set ho h
  | false => exact h

theorem EL.cut_sz (e : EL) (off len : Nat) : (e.cut off len).sz = e.sz := by cases e <;> rfl
theorem EL.cut_xs (e : EL) (off len : Nat) : (e.cut off len).xs = (e.xs.drop off).take len := by
  cases e <;> simp [EL.cut, EL.xs]
theorem Ok_elget {n : Nat} {kk : List S → MS R} {k' : List V → M α} (h : ∀ cs, Ok F Q (kk cs) (k' (cs.map S.enc))) : ∀ e : EL, Ok F Q (e.get n kk) (Am.oret e.xs[n]? k')
  | .t es xs => Ok_oret fun a ha => ⟨encL es a, by simp [EL.xs, ha], by rw [← injL_enc]; exact h _⟩
  | .e _ => Ok_fail

theorem DS.encs_p (vs : List S) : DS.encs (vs.map .p) = (vs.map S.enc).map .p := by rw [DS.encs_map]; simp [Function.comp_def, DS.enc]

mutual
theorem Ok_toS {perm : Bool} : ∀ (n : Nat) (d : DS) {kk : S → MS R} {k' : V → M α}, (∀ u, Ok F Q (kk u) (k' u.enc)) → Ok F Q (toS perm n d kk) (toV perm n d.enc k')
  | 0, _, _, _, _ => Ok_fail
  | _ + 1, .p u, _, _, h => h u
  | _ + 1, .own key, _, _, h => Ok_get (Ok_arrK fun fz e => Ok_frz rfl (h (.l e)))
  | _ + 1, .arr key off len _, _, _, h => Ok_get (Ok_arrK fun fz e => Ok_frz rfl (Ok_grd (fun hb => by rw [EL.xs_len]; exact of_decide_eq_true hb) (by
      have := h (.l (e.cut off len))
      simpa only [S.enc, EL.cut_sz, EL.cut_xs] using this)))
  | n + 1, .ptr key off, _, _, h => Ok_get (Ok_toSb n key off h)
  | _ + 1, .ep key i off, _, _, h => Ok_get (Ok_arrK fun fz e => Ok_frz rfl (Ok_elget (fun cs => by
      have := h (.cp (cs.drop off))
      simpa only [S.enc, S.encs_map, List.map_drop] using this) e))
  | n + 1, .fn v caps, _, _, h => Ok_toSs n caps fun vs => by have := h (.fn v vs); simpa only [S.enc, S.encs_map] using this
  | n + 1, .ifc t a xs, _, _, h => Ok_toSs n xs fun vs => by have := h (.ifc t a vs); simpa only [S.enc, S.encs_map] using this
  | _ + 1, .mp _, _, _, _ => Ok_fail
  | _ + 1, .agg _, _, _, _ => Ok_fail
  | _ + 1, .tup _, _, _, _ => Ok_fail
  | _ + 1, .und, _, _, _ => Ok_fail
theorem Ok_toSb {perm : Bool} : ∀ (n : Nat) (key off : Nat) {kk : S → MS R} {k' : V → M α}, (∀ u, Ok F Q (kk u) (k' u.enc)) → ∀ o : ObS, Ok F Q (toSb perm n key off kk o) (toVb perm n key off k' o.enc)
  | 0, _, _, _, _, _, o => by cases o <;> exact Ok_fail
  | n + 1, key, off, kk, k', h, .box cs => Ok_toSs n cs fun vs => Ok_frz (by simp only [ObS.enc, S.encs_map]) (by
      have := h (.cp (vs.drop off))
      simpa only [S.enc, S.encs_map, List.map_drop] using this)
  | _ + 1, _, off, kk, k', h, .fbx vs => by
      have := h (.cp (vs.drop off))
      show Ok F Q (kk (.cp (vs.drop off))) (k' (.cp ((S.encs vs).drop off)))
      rw [S.encs_map, ← List.map_drop]
      simpa only [S.enc, S.encs_map] using this
  | _ + 1, _, _, _, _, _, .arr _ => Ok_fail
  | _ + 1, _, _, _, _, _, .frz _ => Ok_fail
  | _ + 1, _, _, _, _, _, .mp _ _ _ _ => Ok_fail
  | _ + 1, _, _, _, _, _, .dead => Ok_fail
theorem Ok_toSs {perm : Bool} : ∀ (n : Nat) (ds : List DS) {kk : List S → MS R} {k' : List V → M α}, (∀ vs : List S, Ok F Q (kk vs) (k' (vs.map S.enc))) → Ok F Q (toSs perm n ds kk) (toVs perm n (DS.encs ds) k')
  | 0, ds, _, _, _ => by cases ds <;> exact Ok_fail
  | _ + 1, [], _, _, h => h []
  | n + 1, d :: r, _, _, h => Ok_toS n d fun v => Ok_toSs n r fun vs => h (v :: vs)
end

theorem Ok_vl {kk : DS → MS R} {k' : D → M α} (h : ∀ d, Ok F Q (kk d) (k' d.enc)) : ∀ x : Od, Ok F Q (vlS x kk) (vl x k')
  | .t n => Ok_rd h
  | .c v => Ok_oo fun u hu => by have := h (.p u); simp only [DS.enc, V.toS_enc hu] at this; exact this
  | .f v => h (.p (.fn v []))
  | .z sz key => Ok_new rfl (h (.own key))
theorem Ok_vls : ∀ (xs : List Od) {kk : List DS → MS R} {k' : List D → M α}, (∀ ds, Ok F Q (kk ds) (k' (DS.encs ds))) → Ok F Q (vlsS xs kk) (vls xs k')
  | [], _, _, h => h []
  | x :: r, _, _, h => Ok_vl (fun d => Ok_vls r fun ds => h (d :: ds)) x

theorem Ok_asI {kk : IntKind → Int → MS R} {k' : IntKind → Int → M α} (h : ∀ k n, Ok F Q (kk k n) (k' k n)) (d : DS) : Ok F Q (asIS kk d) (asI k' d.enc) := by
  unfold asIS; split
  · exact h _ _
  · exact Ok_fail
theorem Ok_asB {kk : Bool → MS R} {k' : Bool → M α} (h : ∀ n, Ok F Q (kk n) (k' n)) (d : DS) : Ok F Q (asBS kk d) (asB k' d.enc) := by
  unfold asBS; split
  · exact h _
  · exact Ok_fail
theorem Ok_asP {kk : S → MS R} {k' : V → M α} (h : ∀ n, Ok F Q (kk n) (k' n.enc)) (d : DS) : Ok F Q (asPS kk d) (asP k' d.enc) := by
  unfold asPS; split
  · exact h _
  · exact Ok_fail
theorem Ok_asG {kk : List DS → MS R} {k' : List D → M α} (h : ∀ n, Ok F Q (kk n) (k' (DS.encs n))) (d : DS) : Ok F Q (asGS kk d) (asG k' d.enc) := by
  unfold asGS; split
  · exact h _
  · exact Ok_fail
theorem Ok_elems {kk : EL → MS R} {k' : Nat → List (List V) → M α} (h : ∀ e, Ok F Q (kk e) (k' e.sz e.xs)) (d : DS) : Ok F Q (elemsS kk d) (elems k' d.enc) := by
  unfold elemsS; split
  · exact h _
  · exact Ok_get (Ok_arrK fun fz e => h e)
  · rename_i key off len _
    exact Ok_get (Ok_arrK fun fz e => Ok_grd (fun hb => by rw [EL.xs_len]; exact of_decide_eq_true hb) (by
      have := h (e.cut off len)
      simpa only [EL.cut_sz, EL.cut_xs] using this))
  · exact Ok_fail

theorem Ok_intOp {op : BinOp} {k : IntKind} {a b : Int} {kk : S → MS R} {k' : V → M α} (h : ∀ u, Ok F Q (kk u) (k' u.enc)) : Ok F Q (intOpS op k a b kk) (Am.oret (intOp op k a b) k') := by
  cases op <;> first | exact h (.i _ _) | exact h (.b _) | exact Ok_fail | (
    refine Ok_brx (fun hb => Ok_fail) (fun hb => ?_)
    have := of_decide_eq_false hb
    simp only [Am.intOp, if_neg this]
    exact h (.i _ _))
theorem Ok_shift {op : BinOp} {k : IntKind} {a b : Int} {kk : S → MS R} {k' : V → M α} (h : ∀ u, Ok F Q (kk u) (k' u.enc)) : Ok F Q (shiftS op k a b kk) (Am.oret (shiftOp op k a b) k') := by
  cases op <;> first | exact Ok_fail | (
    refine Ok_brx (fun hb => Ok_fail) (fun hb => ?_)
    have := of_decide_eq_false hb
    simp only [shiftOp, if_neg this]
    exact h (.i _ _))
theorem Ok_bin {op : BinOp} {kk : S → MS R} {k' : V → M α} (h : ∀ u, Ok F Q (kk u) (k' u.enc)) (u w : S) : Ok F Q (binS op kk u w) (Am.oret (binV op u.enc w.enc) k') := by
  unfold binS; split
  · rename_i k a k2 b
    simp only [S.enc, binV]
    cases isShift op with
    | true => simp only [cond_true, if_true]; exact Ok_shift h
    | false =>
      simp only [cond_false, Bool.false_eq_true, if_false]
      refine Ok_gd fun hb => ?_
      rw [if_pos (of_decide_eq_true hb)]
      exact Ok_intOp h
  · simp only [S.enc]
    split
    · exact h (.b _)
    · exact h (.b _)
    · refine Ok_brx (fun hb => Ok_fail) (fun hb => ?_)
      have := of_decide_eq_false hb
      simp only [binV, if_neg this]
      exact h (.s _)
    · exact Ok_fail
  · exact Ok_fail

theorem eq_enc {k : Nat} {u w : S} {t : Bool} (h : eqS k u w = some t) : eqV k u.enc w.enc = some t := by
  unfold eqS at h
  split at h
  · rename_i k a k2 b
    cases hk : decide (k = k2) with
    | false => rw [hk] at h; cases h
    | true =>
      rw [hk] at h; injection h with h
      simp only [S.enc, eqV, if_pos (of_decide_eq_true hk), h]
  · exact h
  · exact h
  · cases h
theorem eqs_enc : ∀ (ks : List Nat) (us ws : List DS) (t : Bool), eqSs ks us ws = some t → eqVs ks (DS.encs us) (DS.encs ws) = some t := by
  intro ks
  induction ks with
  | nil =>
    intro us ws t h
    cases us with
    | nil => cases ws with
      | nil => exact h
      | cons _ _ => simp only [eqSs, reduceCtorEq] at h
    | cons _ _ => cases ws <;> simp only [eqSs, reduceCtorEq] at h
  | cons k ks ih =>
    intro us ws t h
    unfold eqSs at h
    split at h
    · rename_i h0; cases h0
    · rename_i e1
      injection e1 with e1 e2; subst e1 e2
      obtain ⟨a, h1, h⟩ := Option.bind_eq_some_iff.1 h
      obtain ⟨b, h2, h⟩ := Option.bind_eq_some_iff.1 h
      injection h with h; subst h
      simp only [DS.encs, DS.enc, eqVs, eq_enc h1, Option.bind_some, ih _ _ _ h2]
    · cases h

theorem Ok_cgets {key : Nat} : ∀ (n off : Nat) {kk : List DS → MS R} {k' : List D → M α}, (∀ ds, Ok F Q (kk ds) (k' (DS.encs ds))) → Ok F Q (cgetsS key off n kk) (cgets key off n k')
  | 0, _, _, _, h => h []
  | n + 1, off, _, _, h => Ok_cget fun d => Ok_cgets n (off + 1) fun ds => h (d :: ds)
theorem Ok_csets {key : Nat} {m : MS R} {m' : M α} (h : Ok F Q m m') : ∀ (ds : List DS) (off : Nat), Ok F Q (csetsS key off ds m) (csets key off (DS.encs ds) m')
  | [], _ => h
  | d :: r, off => Ok_cset (Ok_csets h r (off + 1))
theorem Ok_fromCells {cs : List S} {off : Nat} {kk : DS → MS R} {k' : D → M α} (h : ∀ d, Ok F Q (kk d) (k' d.enc)) : ∀ n : Option Nat, Ok F Q (fromCellsS cs off kk n) (fromCells (cs.map S.enc) off k' n)
  | none => Ok_oret fun a ha => ⟨a.enc, by simp [ha], h (.p a)⟩
  | some n => Ok_grd (fun hb => by simpa using of_decide_eq_true hb) (by
      have := h (.agg (((cs.drop off).take n).map .p))
      have e : DS.encs (((cs.drop off).take n).map .p) = (((cs.map S.enc).drop off).take n).map .p := by rw [DS.encs_p]; simp
      rw [DS.enc, e] at this
      exact this)
theorem Ok_ldP {key off : Nat} {kk : DS → MS R} {k' : D → M α} (h : ∀ d, Ok F Q (kk d) (k' d.enc)) : ∀ n : Option Nat, Ok F Q (ldPS key off kk n) (ldP key off k' n)
  | none => Ok_cget h
  | some n => Ok_cgets n off fun ds => h (.agg ds)
theorem Ok_ld {n : Option Nat} {kk : DS → MS R} {k' : D → M α} (h : ∀ d, Ok F Q (kk d) (k' d.enc)) (d : DS) : Ok F Q (ldS n kk d) (ldO n k' d.enc) := by
  unfold ldS; split
  · exact Ok_ldP h n
  · exact Ok_get (Ok_arrK fun fz e => Ok_elget (fun cs => Ok_fromCells h n) e)
  · simp only [DS.enc, S.enc, S.encs_map]
    exact Ok_fromCells h n
  · exact Ok_fail
theorem stX_enc {n : Option Nat} {d : DS} {xs : List DS} (h : stXS n d = some xs) : stX n d.enc = some (DS.encs xs) := by
  unfold stXS at h
  split at h
  · cases h
  · cases h
  · cases h
  · injection h with h; subst h
    rename_i h1 h2 h3
    cases d <;> first | rfl | (exact absurd rfl (h1 _)) | (exact absurd rfl (h2 _)) | (exact absurd rfl h3)
  · rename_i m ys
    cases hm : ys.length == m with
    | false => rw [hm] at h; cases h
    | true =>
      rw [hm] at h; injection h with h; subst h
      simp only [DS.enc, stX, DS.encs_map, List.length_map, if_pos (eq_of_beq hm)]
  · cases h
theorem setAt_enc (cs : List S) (off : Nat) (vs : List S) : (setAtS cs off vs).map S.enc = setAt (cs.map S.enc) off (vs.map S.enc) := by
  simp [setAtS, setAt]
theorem Ok_stE {key i off : Nat} {vs : List S} {m : MS R} {m' : M α} (h : Ok F Q m m') : ∀ o : ObS, Ok F Q (stES key i off vs m o) (stE key i off (vs.map S.enc) m' o.enc)
  | .arr (.t es xs) => Ok_oret fun a ha => ⟨encL es a, by simp [EL.xs, ha], Ok_grd (fun hb => by
      have := of_decide_eq_true hb
      rw [injL_len] at this
      rw [encL_len]; simpa using this) (Ok_oo fun y hy => Ok_set (by
        have := prjL_enc _ _ _ hy
        rw [setAt_enc, injL_enc] at this
        simp only [ObS.enc, EL.xs, EL.sz, List.map_set, ← this]) h)⟩
  | .arr (.e _) => Ok_fail
  | .frz _ => Ok_fail
  | .box _ => Ok_fail
  | .fbx _ => Ok_fail
  | .mp _ _ _ _ => Ok_fail
  | .dead => Ok_fail
theorem Ok_stC {xs : List DS} {m : MS R} {m' : M α} (h : Ok F Q m m') (d : DS) : Ok F Q (stCS xs m d) (stC (DS.encs xs) m' d.enc) := by
  unfold stCS; split
  · exact Ok_csets h xs _
  · exact Ok_toSs 300 xs fun vs => Ok_get (Ok_stE h)
  · exact Ok_fail
theorem inR_iff {n : Int} {len : Nat} : inR n len = true ↔ 0 ≤ n ∧ n < len := by simp [inR]
theorem Ok_caseN {n : Int} {f : Nat → MS R} {g : Nat → M α} (len : Nat) (h : ∀ j, Ok F Q (f j) (g j)) : Ok F Q (caseN n f len) (grd (0 ≤ n ∧ n < len) (g n.toNat)) := by
  induction len with
  | zero => exact Ok_fail
  | succ l ih =>
    unfold caseN
    refine Ok_brx (fun hb => ?_) (fun hb => ?_)
    · have := of_decide_eq_true hb
      subst this
      exact Ok_grd' ⟨by omega, by omega⟩ (h l)
    · intro s l' k r hr
      have := ih s l' k r hr
      unfold grd at this ⊢
      split at this
      · rename_i hc
        rw [if_pos ⟨hc.1, by omega⟩]; exact this
      · obtain ⟨a, s1, l1, h1, _⟩ := this
        cases h1
theorem Ok_ixO {sz : Nat} {n : Int} {kk : DS → MS R} {k' : D → M α} (h : ∀ d, Ok F Q (kk d) (k' d.enc)) (d : DS) : Ok F Q (ixOS sz n kk d) (ixO sz n k' d.enc) := by
  unfold ixOS; split
  · rename_i e
    refine Ok_gd fun hs => ?_
    have hs := eq_of_beq hs
    simp only [DS.enc, S.enc, ixO]
    cases e with
    | e => exact Ok_fail
    | t es xs =>
      refine Ok_oo fun x hx => ?_
      unfold at? at hx
      split at hx
      · rename_i h0
        refine Ok_grd' ⟨hs, h0⟩ ?_
        simp only [EL.xs, List.getElem?_map, hx, Option.map_some, Am.oret]
        have := h (.p (.cp (injL es x)))
        simpa only [DS.enc, S.enc, S.encs_map, injL_enc] using this
      · cases hx
  · exact Ok_get (Ok_arrK fun fz e => Ok_gd fun hs => Ok_grd (fun hb => by rw [EL.xs_len]; exact ⟨eq_of_beq hs, inR_iff.1 hb⟩) (h (.ep _ _ _)))
  · exact Ok_get (Ok_arrK fun fz e => Ok_gd fun hs => Ok_gd fun hr => Ok_grd (fun hb => by
      rw [EL.xs_len]; exact ⟨eq_of_beq hs, (inR_iff.1 hr).1, (inR_iff.1 hr).2, of_decide_eq_true hb⟩) (h (.ep _ _ _)))
  · exact Ok_fail
theorem Ok_mpK {kk : (ks vs : Sh) → Nat → List (ks.den × Nat × vs.den) → MS R} {k' : Nat → List (V × Nat × V) → M α} (h : ∀ ks vs c xs, Ok F Q (kk ks vs c xs) (k' c (xs.map fun x => (ks.enc x.1, x.2.1, vs.enc x.2.2)))) : ∀ o : ObS, Ok F Q (mpKS kk o) (mpK k' o.enc)
  | .mp ks vs c xs => h ks vs c xs
  | .arr _ => Ok_fail
  | .frz _ => Ok_fail
  | .box _ => Ok_fail
  | .fbx _ => Ok_fail
  | .dead => Ok_fail
theorem Ok_lnO {kk : Nat → MS R} {k' : Nat → M α} (h : ∀ n, Ok F Q (kk n) (k' n)) (kind : Nat) (d : DS) : Ok F Q (lnOS kk kind d) (lnO k' kind d.enc) := by
  unfold lnOS; split
  · exact Ok_elems (fun e => by rw [EL.xs_len]; exact h _) d
  · exact h _
  · exact Ok_get (Ok_mpK fun ks vs c xs => by
      have := h xs.length
      simpa using this)
  · exact Ok_fail
theorem room_iff {n bytes : Nat} : roomB n bytes = true ↔ roomy n bytes := by simp [roomB, roomy]
theorem app_enc {a b c : EL} (h : a.app b = some c) : c.sz = a.sz ∧ c.xs = a.xs ++ b.xs := by
  unfold EL.app at h
  split at h
  · split at h
    · rename_i hb
      have := beqL_eq _ _ hb; subst this
      injection h with h; subst h
      exact ⟨rfl, by simp [EL.xs]⟩
    · cases h
  · rename_i es xs sz
    cases hb : sz == es.length with
    | false => rw [hb] at h; cases h
    | true => rw [hb] at h; injection h with h; subst h; exact ⟨rfl, by simp [EL.xs]⟩
  · rename_i sz es ys
    cases hb : es.length == sz with
    | false => rw [hb] at h; cases h
    | true => rw [hb] at h; injection h with h; subst h; exact ⟨eq_of_beq hb, by simp [EL.xs]⟩
  · rename_i sz sz'
    cases hb : sz' == sz with
    | false => rw [hb] at h; cases h
    | true => rw [hb] at h; injection h with h; subst h; exact ⟨rfl, by simp [EL.xs]⟩
theorem over_enc {n : Nat} {a b c : EL} (h : a.over n b = some c) : c.sz = a.sz ∧ c.xs = a.xs.take n ++ b.xs ++ a.xs.drop (n + b.xs.length) := by
  unfold EL.over at h
  split at h
  · split at h
    · rename_i hb
      have := beqL_eq _ _ hb; subst this
      injection h with h; subst h
      exact ⟨rfl, by simp [EL.xs]⟩
    · cases h
  · rename_i es xs sz
    cases hb : sz == es.length with
    | false => rw [hb] at h; cases h
    | true => rw [hb] at h; injection h with h; subst h; exact ⟨rfl, by simp [EL.xs]⟩
  · cases h
theorem Ok_apX {nm sz bytes : Nat} {ys : EL} (hy : ys.sz = sz) {kk : DS → MS R} {k' : D → M α} (h : ∀ d, Ok F Q (kk d) (k' d.enc)) (d : DS) : Ok F Q (apXS nm sz bytes ys kk d) (apX nm sz bytes ys.xs k' d.enc) := by
  unfold apXS; split
  · refine Ok_get (Ok_arrNF fun e => Ok_gd fun hs => Ok_grd (fun hb => ?_) (Ok_oo fun e' he => ?_))
    · simp only [EL.xs_len]; exact ⟨eq_of_beq hs, room_iff.1 hb⟩
    · have := app_enc he
      exact Ok_set rfl (Ok_new (by simp only [ObS.enc, this.1, this.2, eq_of_beq hs]) (h (.own nm)))
  · rename_i key off len
    refine Ok_get (Ok_arrNF fun e => Ok_gd fun hs => Ok_grd (fun hb => ?_) ?_)
    · simp only [EL.xs_len]; exact ⟨eq_of_beq hs, room_iff.1 hb⟩
    · simp only [EL.xs_len]
      refine Ok_br (fun _ => ?_) (fun _ => ?_)
      · refine Ok_oo fun e' he => ?_
        have := app_enc he
        rw [EL.cut_sz, EL.cut_xs] at this
        have hd : (e.xs.drop off).take (e.len - off) = e.xs.drop off := List.take_of_length_le (by rw [List.length_drop, EL.xs_len]; exact Nat.le_refl _)
        rw [hd] at this
        exact Ok_set rfl (Ok_new (by simp only [ObS.enc, this.1, this.2, eq_of_beq hs]) (h (.own nm)))
      · refine Ok_grd (fun hb => ?_) (Ok_oo fun e' he => ?_)
        · rw [EL.xs_len, EL.xs_len]; exact of_decide_eq_true hb
        · have := over_enc he
          refine Ok_set ?_ ?_
          · simp only [ObS.enc, this.1, this.2, eq_of_beq hs]
          · rw [EL.xs_len]; exact h (.arr key off (len + ys.len) true)
  · exact Ok_fail
theorem zeros_val {nm : Nat} {v : V} {r : List V} {k' : List D → M α} (hv : ∀ sz xs, v ≠ .sl sz xs) : zeros nm (v :: r) k' = zeros (nm + 1) r fun ds => k' (.p v :: ds) := by
  cases v <;> first | rfl | exact absurd rfl (hv _ _)
theorem Ok_zeros : ∀ (vs : List V) (nm : Nat) {kk : List DS → MS R} {k' : List D → M α}, (∀ ds, Ok F Q (kk ds) (k' (DS.encs ds))) → Ok F Q (zerosS nm vs kk) (zeros nm vs k')
  | [], _, _, _, h => h []
  | v :: r, nm, kk, k', h => by
    unfold zerosS
    split
    · exact Ok_new rfl (Ok_zeros r (nm + 1) fun ds => h (.own nm :: ds))
    · rename_i hv
      refine Ok_oo fun u hu => ?_
      rw [zeros_val (fun sz xs e => hv sz xs e)]
      refine Ok_zeros r (nm + 1) fun ds => ?_
      have := h (.p u :: ds)
      simpa only [DS.encs, DS.enc, V.toS_enc hu] using this
def encP (ps : List (Nat × Nat × DS)) : List (Nat × Nat × D) := ps.map fun x => (x.1, x.2.1, x.2.2.enc)
theorem Ok_vparts : ∀ (ps : List (Nat × Nat × Od)) {kk : List (Nat × Nat × DS) → MS R} {k' : List (Nat × Nat × D) → M α}, (∀ ds, Ok F Q (kk ds) (k' (encP ds))) → Ok F Q (vpartsS ps kk) (vparts ps k')
  | [], _, _, h => h []
  | (off, size, x) :: r, _, _, h => Ok_vl (fun d => Ok_vparts r fun ds => h ((off, size, d) :: ds)) x
def encO (l : List (Option DS)) : List (Option D) := l.map fun x => x.map DS.enc
theorem putParts_enc : ∀ (ps : List (Nat × Nat × DS)) (cs cs' : List (Option DS)), putPartsS ps cs = some cs' → putParts (encP ps) (encO cs) = some (encO cs')
  | [], cs, cs', h => by injection h with h; subst h; rfl
  | (off, size, d) :: r, cs, cs', h => by
    simp only [putPartsS] at h
    cases hc : (d.cells.length == size && decide (off + size ≤ cs.length) && d.cells.all (·.one)) with
    | false => rw [hc] at h; cases h
    | true =>
      rw [hc] at h
      simp only [Bool.and_eq_true, beq_iff_eq, decide_eq_true_eq] at hc
      have := putParts_enc r _ _ h
      simp only [encP, List.map_cons, putParts]
      rw [if_pos ⟨by rw [DS.cells_enc, DS.encs_map, List.length_map]; exact hc.1.1, by simpa [encO] using hc.1.2, by
        rw [DS.cells_enc, DS.encs_map, List.all_map]
        have h2 := hc.2
        simp only [List.all_eq_true, Function.comp] at h2 ⊢
        intro x hx; rw [DS.one_enc]; exact h2 x hx⟩]
      rw [← encP]
      rw [show (encO cs).take off ++ d.enc.cells.map some ++ (encO cs).drop (off + size) = encO (cs.take off ++ d.cells.map some ++ cs.drop (off + size)) by
        simp [encO, DS.cells_enc, DS.encs_map, Function.comp_def]]
      exact this
theorem fillZ_val {nm : Nat} {v : V} {zs : List V} {r : List (Option D)} {k' : List D → M α} (hv : ∀ sz xs, v ≠ .sl sz xs) : fillZ nm (v :: zs) (none :: r) k' = fillZ (nm + 1) zs r fun ds => k' (.p v :: ds) := by
  cases v <;> first | rfl | exact absurd rfl (hv _ _)
theorem Ok_fillZ : ∀ (zs : List V) (nm : Nat) (cs : List (Option DS)) {kk : List DS → MS R} {k' : List D → M α}, (∀ ds, Ok F Q (kk ds) (k' (DS.encs ds))) → Ok F Q (fillZS nm zs cs kk) (fillZ nm zs (encO cs) k')
  | [], nm, [], _, _, h => h []
  | [], nm, o :: r, _, _, h => Ok_fail
  | z :: zs, nm, [], _, _, h => Ok_fail
  | z :: zs, nm, some d :: r, _, _, h => by
    simp only [fillZS, encO, List.map_cons, Option.map_some, Am.fillZ]
    exact Ok_fillZ zs (nm + 1) r fun ds => h (d :: ds)
  | z :: zs, nm, none :: r, _, _, h => by
    simp only [fillZS]
    split
    · exact Ok_new rfl (Ok_fillZ zs (nm + 1) r fun ds => h (.own nm :: ds))
    · rename_i hv
      refine Ok_oo fun u hu => ?_
      simp only [encO, List.map_cons, Option.map_none]
      rw [fillZ_val (fun sz xs e => hv sz xs e)]
      refine Ok_fillZ zs (nm + 1) r fun ds => ?_
      have := h (.p u :: ds)
      simpa only [DS.encs, DS.enc, V.toS_enc hu] using this
end
end Am
end Go.Proofs.YtfdmmnfjdifccaaGreatDoor
