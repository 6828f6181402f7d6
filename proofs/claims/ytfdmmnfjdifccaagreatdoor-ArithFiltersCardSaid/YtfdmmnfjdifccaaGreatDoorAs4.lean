/- The typed layer: calls, code, functions are sound. -/
import Derived.Test.YtfdmmnfjdifccaaGreatDoorAs3
set_option linter.unusedVariables false
set_option linter.unusedSimpArgs false
set_option linter.constructorNameAsVariable false
namespace Go.Proofs.YtfdmmnfjdifccaaGreatDoor
namespace Am
section
variable {R : Type} {α : Type} {F : Cf} {Q : α → StS → List Acc → (StS → List Acc → Option R) → R → Prop}

theorem Ok_boundO {d : Int} {kk : Int → MS R} {k' : Int → M α} (h : ∀ n, Ok F Q (kk n) (k' n)) : ∀ o : Option Od, Ok F Q (boundOS d kk o) (boundO d k' o)
  | none => h d
  | some o => Ok_vl (Ok_asI fun _ n => h n) o
theorem Ok_slA {sz key off len : Nat} {ap : Bool} {e : EL} {mx : Option Od} {l h : Int} {kk : DS → MS R} {k' : D → M α} (hk : ∀ d, Ok F Q (kk d) (k' d.enc)) (m : Int) :
    Ok F Q (slAS sz key off len ap e mx l h kk m) (slA sz key off len e.sz ap e.xs mx l h k' m) := by
  refine Ok_gd fun h1 => Ok_grd (fun h2 => ?_) (hk (.arr _ _ _ _))
  simp only [Bool.and_eq_true, beq_iff_eq, decide_eq_true_eq] at h1
  have h2 := of_decide_eq_true h2
  rw [EL.xs_len]
  exact ⟨h1.1, h1.2, h2⟩
theorem Ok_slO {sz : Nat} {lo hi mx : Option Od} {kk : DS → MS R} {k' : D → M α} (hk : ∀ d, Ok F Q (kk d) (k' d.enc)) (d : DS) : Ok F Q (slOS sz lo hi mx kk d) (slO sz lo hi mx k' d.enc) := by
  unfold slOS; split
  · simp only [DS.enc, S.enc, Am.slO]
    refine Ok_boundO (fun l => Ok_boundO (fun h => Ok_gd fun h1 => Ok_grd (fun h2 => ?_) (hk (.p (.s _)))) hi) lo
    simp only [Bool.and_eq_true, beq_iff_eq] at h1
    exact ⟨h1.1, h1.2, of_decide_eq_true h2⟩
  · rename_i e
    simp only [DS.enc, S.enc, Am.slO, EL.xs_len]
    refine Ok_boundO (fun l => Ok_boundO (fun h => Ok_gd fun h1 => Ok_grd (fun h2 => ?_) ?_) hi) lo
    · simp only [Bool.and_eq_true, beq_iff_eq, decide_eq_true_eq] at h1
      exact ⟨h1.1.1, h1.1.2, h1.2, of_decide_eq_true h2⟩
    · have := hk (.p (.l (e.cut l.toNat (h.toNat - l.toNat))))
      simpa only [DS.enc, S.enc, EL.cut_sz, EL.cut_xs] using this
  · refine Ok_get (Ok_arrK fun fz e => ?_)
    rw [EL.xs_len]
    exact Ok_boundO (fun l => Ok_boundO (fun h => Ok_boundO (fun m => Ok_slA hk m) mx) hi) lo
  · exact Ok_get (Ok_arrK fun fz e => Ok_boundO (fun l => Ok_boundO (fun h => Ok_boundO (fun m => Ok_slA hk m) mx) hi) lo)
  · exact Ok_fail

theorem Ok_retake {nm : Nat} {kk : DS → MS R} {k' : D → M α} (hk : ∀ d, Ok F Q (kk d) (k' d.enc)) (d : DS) : Ok F Q (retakeS nm kk d) (retake nm k' d.enc) := by
  unfold retakeS; split
  · refine Ok_get (Ok_arrNF fun e => Ok_grd (fun hb => by rw [EL.xs_len]; exact eq_of_beq hb) (Ok_set rfl (Ok_new ?_ (hk (.own nm)))))
    cases e <;> simp [ObS.enc, EL.from', EL.sz, EL.xs]
  · exact Ok_fail

theorem chunks_enc (sz : Nat) : ∀ (n : Nat) (vs : List S), chunks sz n (vs.map S.enc) = (chunksS sz n vs).map (·.map S.enc)
  | 0, _ => rfl
  | n + 1, vs => by
    simp only [chunks, chunksS, List.map_cons, List.map_take]
    rw [← List.map_drop, chunks_enc sz n]
theorem els_enc {es : List Sh} : ∀ {cs : List (List S)} {xs : List (denL es)}, ELs es cs = some xs → cs.map (·.map S.enc) = xs.map (encL es)
  | [], xs, h => by injection h with h; subst h; rfl
  | c :: r, xs, h => by
    simp only [ELs] at h
    obtain ⟨a, h1, h⟩ := Option.bind_eq_some_iff.1 h
    obtain ⟨b, h2, h⟩ := Option.bind_eq_some_iff.1 h
    injection h with h; subst h
    simp only [List.map_cons, prjL_enc _ _ _ h1, els_enc h2]
theorem of_enc {hint : Option (List Sh)} {sz : Nat} {cs : List (List S)} {e : EL} (h : EL.of hint sz cs = some e) : e.sz = sz ∧ e.xs = cs.map (·.map S.enc) := by
  unfold EL.of at h
  split at h
  · injection h with h; subst h; exact ⟨rfl, rfl⟩
  · obtain ⟨es, h1, h⟩ := Option.bind_eq_some_iff.1 h
    cases hb : es.length == sz with
    | false => rw [hb] at h; cases h
    | true =>
      rw [hb] at h
      obtain ⟨xs, h2, h⟩ := Option.bind_eq_some_iff.1 h
      injection h with h; subst h
      exact ⟨eq_of_beq hb, (els_enc h2).symm⟩
theorem rep_enc {hint : Option (List Sh)} {n sz : Nat} {zs : List S} {e : EL} (h : EL.rep hint n sz zs = some e) : e.sz = sz ∧ e.xs = List.replicate n (zs.map S.enc) := by
  unfold EL.rep at h
  obtain ⟨es, h1, h⟩ := Option.bind_eq_some_iff.1 h
  cases hb : es.length == sz with
  | false => rw [hb] at h; cases h
  | true =>
    rw [hb] at h
    obtain ⟨x, h2, h⟩ := Option.bind_eq_some_iff.1 h
    injection h with h; subst h
    exact ⟨eq_of_beq hb, by simp [EL.xs, prjL_enc _ _ _ h2]⟩

theorem Ok_argV {perm : Bool} {kk : DS → MS R} {k' : D → M α} (h : ∀ d, Ok F Q (kk d) (k' d.enc)) (d : DS) : Ok F Q (argVS perm kk d) (argV perm k' d.enc) := by
  have key : ∀ d, argVS perm kk d = toS perm 300 d (fun v => kk (.p v)) → argV perm k' d.enc = toV perm 300 d.enc (fun v => k' (.p v)) → Ok F Q (argVS perm kk d) (argV perm k' d.enc) := by
    intro d h1 h2
    rw [h1, h2]
    exact Ok_toS 300 d fun u => h (.p u)
  cases d with
  | agg xs => exact Ok_toSs 300 xs fun vs => by have := h (.agg (vs.map .p)); rwa [DS.enc, DS.encs_p] at this
  | _ => exact key _ rfl rfl
theorem Ok_argO {mode : Nat} {d : DS} {kk : DS → MS R} {k' : D → M α} (h : ∀ d, Ok F Q (kk d) (k' d.enc)) : Ok F Q (argOS mode d kk) (argO mode d.enc k') := by
  match mode with
  | 0 => exact Ok_argV h d
  | 1 => exact Ok_argV h d
  | 2 => exact h d
  | n + 3 => exact Ok_argV h d
theorem Ok_argsO : ∀ (ds : List DS) (ms : List Nat) {kk : List DS → MS R} {k' : List D → M α}, (∀ ds, Ok F Q (kk ds) (k' (DS.encs ds))) → Ok F Q (argsOS ms ds kk) (argsO ms (DS.encs ds) k')
  | [], ms, _, _, h => h []
  | d :: r, ms, _, _, h => Ok_argO fun d' => Ok_argsO r ms.tail fun ds => h (d' :: ds)
theorem DS.encs_app (a b : List DS) : DS.encs (a ++ b) = DS.encs a ++ DS.encs b := by simp [DS.encs_map]
theorem lent_enc : ∀ (ds : List DS) (ms : List Nat), lent ms (DS.encs ds) = DS.encs (lentS ms ds)
  | [], ms => rfl
  | d :: r, ms => by
    simp only [DS.encs, lent, lentS, DS.refs_enc, lent_enc r, DS.cells_enc]
    split
    · rfl
    · rw [DS.encs_app]
theorem encH_app (a b : HeapS) : encH (a ++ b) = encH a ++ encH b := by simp [encH]
theorem Ok_gath : ∀ (n : Nat) (ks : List Nat) (seen : HeapS) {kk : HeapS → MS R} {k' : Heap → M α}, (∀ h, Ok F Q (kk h) (k' (encH h))) → Ok F Q (gathS n ks seen kk) (gath n ks (encH seen) k')
  | 0, _, _, _, _, _ => Ok_fail
  | n + 1, [], seen, _, _, h => h seen
  | n + 1, key :: ts, seen, kk, k', h => by
    simp only [gathS, Am.gath, lk_encH]
    cases hl : lk seen key with
    | some o => simp only [Option.isSome_some, Option.map_some, if_true]; exact Ok_gath n ts seen h
    | none =>
      simp only [Option.isSome_none, Option.map_none, Bool.false_eq_true, if_false]
      refine Ok_get fun o => ?_
      rw [ObS.refs_enc]
      have := Ok_gath n (o.refs ++ ts) (seen ++ [(key, o)]) h
      rwa [encH_app] at this
theorem Ok_kills {m : MS R} {m' : M α} (h : Ok F Q m m') : ∀ l : HeapS, Ok F Q (killsS l m) (kills (encH l) m')
  | [] => h
  | (key, o) :: r => by
    simp only [killsS, encH, List.map_cons, Am.kills, ObS.mut_enc]
    cases o.mut with
    | true => exact Ok_set rfl (Ok_kills h r)
    | false => exact Ok_kills h r
theorem Ok_writes {mm : List (Nat × Nat)} {f : Nat → Nat} {m : MS R} {m' : M α} (h : Ok F Q m m') : ∀ l : HeapS, Ok F Q (writesS mm f l m) (writes mm f (encH l) m')
  | [] => h
  | (key, o) :: r => by
    simp only [writesS, encH, List.map_cons, Am.writes]
    cases lkN mm key with
    | some old => exact Ok_set (ObS.ren_enc f o).symm (Ok_writes h r)
    | none => exact Ok_new (ObS.ren_enc f o).symm (Ok_writes h r)
theorem oneRes_enc (ds : List DS) : oneRes (DS.encs ds) = (oneResS ds).enc := by
  match ds with
  | [] => rfl
  | [d] => rfl
  | d :: e :: r => rfl
theorem Ok_backO {nm : Nat} {bs : List DS} {refs : List Nat} {sub : HeapS} {kk : DS → MS R} {k' : D → M α} (h : ∀ d, Ok F Q (kk d) (k' d.enc)) (roots : List Nat) (res : List DS) (h' : HeapS) :
    Ok F Q (backOS nm bs refs sub kk roots res h') (backO nm (DS.encs bs) refs (encH sub) k' roots (DS.encs res) (encH h')) := by
  unfold backOS Am.backO
  rw [subK_enc, newK_enc]
  refine Ok_grd (fun hb => ?_) (Ok_kills (Ok_writes ?_ _) _)
  · simp only [Bool.and_eq_true, beq_iff_eq, Bool.or_eq_true] at hb
    refine ⟨hb.1, ?_⟩
    rw [Bool.or_eq_true]
    rcases hb.2 with h1 | h1
    · left; rw [DS.encs_map]; cases bs <;> first | rfl | cases h1
    · right
      rw [Bool.and_eq_true]
      refine ⟨DS.flatL_enc res h1.1, ?_⟩
      have h2 := h1.2
      simp only [List.all_eq_true] at h2
      simp only [encH, List.all_map, List.all_eq_true, Function.comp]
      intro x hx
      exact ObS.flat_enc (h2 x hx)
  · unfold retK
    rw [DS.renL_enc, oneRes_enc]
    exact h _
theorem Ok_callO {FS : CfS R} (hF : FOK FS F) {nm v : Nat} {bs : List DS} {kk : DS → MS R} {k' : D → M α} (h : ∀ d, Ok F Q (kk d) (k' d.enc)) (ds : List DS) :
    Ok F Q (callOS FS nm v bs kk ds) (callO nm v (DS.encs bs) k' (DS.encs ds)) := by
  have hd : ∀ sub : HeapS, DS.encs ds ++ deep (DS.encs ds) (encH sub) = DS.encs (ds ++ deepS ds sub) := fun sub => by rw [deep_enc, DS.encs_app]
  unfold callOS Am.callO
  simp only [DS.refsL_enc]
  refine Ok_gath 1000 _ [] fun sub => Ok_gath 1000 _ [] fun bsub => ?_
  rw [hd sub]
  simp only [DS.refsL_enc]
  refine Ok_grd (fun hb => ?_) ?_
  · simp only [Bool.and_eq_true] at hb
    rw [DS.boxyL_enc]
    refine ⟨hb.1, ?_⟩
    have h2 := hb.2
    simp only [List.all_eq_true] at h2
    simp only [encH, List.all_map, List.all_eq_true, Function.comp]
    intro x hx
    have := h2 x hx
    have e := lk_encH bsub x.1
    rw [encH] at e
    rw [e]
    cases hl : lk bsub x.1 with
    | none => rfl
    | some o => rw [hl] at this; cases this
  · refine Ok_oret fun c hc => ⟨(DS.encs c.1, encH c.2), canon_enc (ds' := c.1) (h' := c.2) hc, ?_⟩
    have e0 : (DS.encs ds).length = ds.length := by rw [DS.encs_map, List.length_map]
    have e1 : (DS.encs c.1).take (DS.encs ds).length = DS.encs (c.1.take ds.length) := by rw [e0, DS.encs_map, DS.encs_map, List.map_take]
    have e2 : (DS.encs c.1).drop (DS.encs ds).length = DS.encs (c.1.drop ds.length) := by rw [e0, DS.encs_map, DS.encs_map, List.map_drop]
    show Ok F Q _ (grd (sameG (deep ((DS.encs c.1).take (DS.encs ds).length) (encH c.2)) ((DS.encs c.1).drop (DS.encs ds).length) = true) (.call v ((DS.encs c.1).take (DS.encs ds).length) (encH c.2) _))
    rw [e1, e2, deep_enc]
    exact Ok_grd (fun hb => sameG_enc hb) (Ok_call hF fun roots res h' => Ok_backO h roots res h')

theorem purs_enc : ∀ {ds : List DS} {vs : List S}, pursS ds = some vs → DS.encs ds = (vs.map S.enc).map .p
  | [], vs, h => by injection h with h; subst h; rfl
  | .p u :: r, vs, h => by
    simp only [pursS, Option.map_eq_some_iff] at h
    obtain ⟨a, h, rfl⟩ := h
    simp only [DS.encs, DS.enc, purs_enc h, List.map_cons]
  | .own _ :: _, _, h | .arr _ _ _ _ :: _, _, h | .ptr _ _ :: _, _, h | .ep _ _ _ :: _, _, h | .mp _ :: _, _, h | .fn _ _ :: _, _, h | .ifc _ _ _ :: _, _, h | .agg _ :: _, _, h | .tup _ :: _, _, h | .und :: _, _, h => by cases h
theorem purs_vals : ∀ (vs : List V), purs (vs.map .p) = some vs
  | [] => rfl
  | v :: r => by simp only [List.map_cons, purs, purs_vals r, Option.map_some]
theorem purs_none : ∀ {ds : List DS}, pursS ds = none → purs (DS.encs ds) = none
  | [], h => by cases h
  | .p u :: r, h => by
    simp only [pursS, Option.map_eq_none_iff] at h
    simp only [DS.encs, DS.enc, purs, purs_none h, Option.map_none]
  | .own _ :: _, _ | .arr _ _ _ _ :: _, _ | .ptr _ _ :: _, _ | .ep _ _ _ :: _, _ | .mp _ :: _, _ | .fn _ _ :: _, _ | .ifc _ _ _ :: _, _ | .agg _ :: _, _ | .tup _ :: _, _ | .und :: _, _ => rfl
theorem Ok_partsV : ∀ (ps : List (Nat × Nat × DS)) (cs : List S) {kk : List S → MS R} {k' : List V → M α}, (∀ vs : List S, Ok F Q (kk vs) (k' (vs.map S.enc))) → Ok F Q (partsVS ps cs kk) (partsV (encP ps) (cs.map S.enc) k')
  | [], cs, _, _, h => h cs
  | (off, size, d) :: r, cs, kk, k', h => by
    simp only [partsVS, encP, List.map_cons, Am.partsV, DS.cells_enc]
    refine Ok_toSs 300 d.cells fun vs => Ok_grd (fun hb => ?_) ?_
    · simp only [Bool.and_eq_true, beq_iff_eq, decide_eq_true_eq] at hb
      simpa using hb
    · rw [← setAt_enc]; exact Ok_partsV r _ h
theorem mmI_enc {kd : IntKind} {mx : Bool} : ∀ {ds : List DS} {a n : Int}, mmIS kd mx a ds = some n → mmI kd mx a (DS.encs ds) = some n
  | [], a, n, h => h
  | .p (.i kd' b) :: r, a, n, h => by
    simp only [mmIS] at h
    cases hk : decide (kd = kd') with
    | false => rw [hk] at h; cases h
    | true =>
      rw [hk] at h
      have := mmI_enc (ds := r) h
      simp only [DS.encs, DS.enc, S.enc, mmI, if_pos (of_decide_eq_true hk)]
      cases mx <;> exact this
  | .p (.b _) :: _, _, _, h | .p (.s _) :: _, _, _, h | .p (.l _) :: _, _, _, h | .p (.cp _) :: _, _, _, h | .p (.fn _ _) :: _, _, _, h | .p (.nl _) :: _, _, _, h | .p (.ifc _ _ _) :: _, _, _, h => by cases h
  | .own _ :: _, _, _, h | .arr _ _ _ _ :: _, _, _, h | .ptr _ _ :: _, _, _, h | .ep _ _ _ :: _, _, _, h | .mp _ :: _, _, _, h | .fn _ _ :: _, _, _, h | .ifc _ _ _ :: _, _, _, h | .agg _ :: _, _, _, h | .tup _ :: _, _, _, h | .und :: _, _, _, h => by cases h
theorem Ok_isNil {kk : Bool → MS R} {k' : Bool → M α} (h : ∀ b, Ok F Q (kk b) (k' b)) (kind : Nat) (d : DS) : Ok F Q (isNilS kk kind d) (isNilD k' kind d.enc) := by
  unfold isNilS; split <;> first | exact h _ | exact Ok_fail | skip
  simp only [isNilD]
  refine Ok_elems (fun e => Ok_grd (fun hb => ?_) (h false)) d
  simp only [Bool.not_eq_true', beq_eq_false_iff_ne] at hb
  cases hx : e.xs with
  | nil => rw [← EL.xs_len, hx] at hb; exact absurd rfl hb
  | cons _ _ => rfl
theorem Ok_un {kk : DS → MS R} {k' : D → M α} (h : ∀ d, Ok F Q (kk d) (k' d.enc)) (op : UnOp) (d : DS) : Ok F Q (unOS kk op d) (unO k' op d.enc) := by
  unfold unOS; split
  · exact h (.p (.i _ _))
  · exact h (.p (.b _))
  · exact h (.p (.i _ _))
  · exact Ok_fail
theorem Ok_move {off : Nat} {kk : DS → MS R} {k' : D → M α} (h : ∀ d, Ok F Q (kk d) (k' d.enc)) (d : DS) : Ok F Q (moveOS off kk d) (moveO off k' d.enc) := by
  unfold moveOS; split
  · exact h (.ptr _ _)
  · exact h (.ep _ _ _)
  · rename_i cells
    have := h (.p (.cp (cells.drop off)))
    simp only [DS.enc, S.enc, S.encs_map, moveO, List.map_drop] at this ⊢
    exact this
  · exact Ok_fail
theorem Ok_part {xs : List DS} {off : Nat} {kk : DS → MS R} {k' : D → M α} (h : ∀ d, Ok F Q (kk d) (k' d.enc)) : ∀ n : Option Nat, Ok F Q (partOS xs off kk n) (partO (DS.encs xs) off k' n)
  | none => Ok_oret fun a ha => ⟨a.enc, by simp [DS.encs_map, ha], h a⟩
  | some n => Ok_grd (fun hb => by rw [DS.encs_map, List.length_map]; exact of_decide_eq_true hb) (by
      have := h (.agg ((xs.drop off).take n))
      simpa only [DS.enc, DS.encs_map, List.map_drop, List.map_take] using this)
theorem Ok_xsO {n : Int} {kk : DS → MS R} {k' : D → M α} (h : ∀ d, Ok F Q (kk d) (k' d.enc)) (d : DS) : Ok F Q (xsOS n kk d) (xsO n k' d.enc) := by
  unfold xsOS; split
  · refine Ok_oo fun c hc => ?_
    unfold byte? at hc
    split at hc
    · rename_i h0
      injection hc with hc
      simp only [DS.enc, S.enc, Am.xsO, dif_pos h0, hc]
      exact h (.p (.i .u8 c))
    · cases hc
  · exact Ok_fail
theorem Ok_nc {kk : DS → MS R} {k' : D → M α} (h : ∀ d, Ok F Q (kk d) (k' d.enc)) (d : DS) : Ok F Q (ncOS kk d) (ncO k' d.enc) := by
  unfold ncOS; split
  · exact h (.p (.cp _))
  · exact h (.p (.fn _ _))
  · exact h (.ptr _ _)
  · exact h (.ep _ _ _)
  · exact h (.fn _ _)
  · exact Ok_fail
theorem Ok_exT {i : Nat} {kk : DS → MS R} {k' : D → M α} (h : ∀ d, Ok F Q (kk d) (k' d.enc)) (d : DS) : Ok F Q (exTS i kk d) (exT i k' d.enc) := by
  unfold exTS; split
  · exact Ok_oret fun a ha => ⟨a.enc, by simp [DS.encs_map, ha], h a⟩
  · exact Ok_fail
theorem Ok_pickL {v : Nat} {f : Nat → MS R} {m' : M α} (h : Ok F Q (f v) m') : ∀ cs : List Nat, Ok F Q (pickL v f cs) m'
  | [] => Ok_fail
  | c :: r => Ok_brx (fun e => by rw [← of_decide_eq_true e]; exact h) (fun _ => Ok_pickL h r)
theorem Ok_pickV {v : Nat} {f : Nat → MS R} {m' : M α} (h : Ok F Q (f v) m') : ∀ cs : List Nat, Ok F Q (pickV v f cs) m'
  | [] => h
  | c :: r => Ok_pickL h (c :: r)
theorem Ok_cx {FS : CfS R} (hF : FOK FS F) {nm : Nat} {cs : List Nat} {bs ds : List DS} {kk : DS → MS R} {k' : D → M α} (h : ∀ d, Ok F Q (kk d) (k' d.enc)) (d : DS) : Ok F Q (cxOS FS nm cs bs ds kk d) (cxO nm (DS.encs bs) (DS.encs ds) k' d.enc) := by
  unfold cxOS; split
  · rename_i v caps
    have := Ok_callO (Q := Q) hF (nm := nm) (v := v) (bs := bs) h (ds ++ caps.map .p)
    rw [DS.encs_app, DS.encs_p] at this
    refine Ok_pickV ?_ cs
    simpa only [DS.enc, S.enc, S.encs_map, cxO] using this
  · rename_i v caps
    have := Ok_callO (Q := Q) hF (nm := nm) (v := v) (bs := bs) h (ds ++ caps)
    rw [DS.encs_app] at this
    refine Ok_pickV ?_ cs
    simpa only [DS.enc, cxO] using this
  · exact Ok_fail
theorem Ok_mf {v : Nat} {kk : DS → MS R} {k' : D → M α} (h : ∀ d, Ok F Q (kk d) (k' d.enc)) (ds : List DS) : Ok F Q (mfOS v kk ds) (mfO v k' (DS.encs ds)) := by
  unfold mfOS Am.mfO
  cases hp : pursS ds with
  | some vs =>
    have := h (.p (.fn v vs))
    simp only [purs_enc hp, purs_vals]
    simpa only [DS.enc, S.enc, S.encs_map] using this
  | none => simp only [purs_none hp]; exact h (.fn v ds)
theorem Ok_mm {mx : Bool} {kk : DS → MS R} {k' : D → M α} (h : ∀ d, Ok F Q (kk d) (k' d.enc)) (ds : List DS) : Ok F Q (mmOS mx kk ds) (mmO mx k' (DS.encs ds)) := by
  unfold mmOS; split
  · exact Ok_oret fun n hn => ⟨n, mmI_enc hn, h (.p (.i _ n))⟩
  · exact Ok_fail
theorem Ok_bx {nm : Nat} {kk : DS → MS R} {k' : D → M α} (h : ∀ d, Ok F Q (kk d) (k' d.enc)) (d : DS) : Ok F Q (bxOS nm kk d) (bxO nm k' d.enc) := by
  refine Ok_grd (fun hb => ?_) (Ok_new (by rw [DS.cells_enc]; rfl) (h (.ptr nm 0)))
  rw [DS.cells_enc, DS.encs_map, List.all_map]
  simp only [List.all_eq_true, Function.comp] at hb ⊢
  intro x hx; rw [DS.one_enc]; exact hb x hx

theorem vl_peek {x : Od} {s : StS} {d : DS} (hp : peekS s x = some d) (k' : D → M α) (l : List Acc) : (vl x k').runA F s.enc l = (k' d.enc).runA F s.enc l := by
  cases x with
  | t n => simp only [peekS] at hp; simp only [vl, M.runA, StS.enc, lk_encE, hp, Option.map_some, Option.bind_some]
  | c v =>
    simp only [peekS, Option.map_eq_some_iff] at hp
    obtain ⟨u, h, rfl⟩ := hp
    simp only [vl, DS.enc, V.toS_enc h]
  | f v => cases hp
  | z sz key => cases hp
theorem Ok_pk {t : Bool} {a b : Od} {kk : DS → MS R} {k' : D → M α} (h : ∀ d, Ok F Q (kk d) (k' d.enc)) : Ok F Q (pkOS t a b kk) (iteM t (vl a k') (vl b k')) := by
  intro s l k r hr
  unfold pkOS at hr
  split at hr
  · rename_i k1 x k2 y h1 h2
    cases hk : decide (k2 = k1) with
    | false => rw [hk] at hr; cases hr
    | true =>
      rw [hk] at hr
      have := of_decide_eq_true hk; subst this
      obtain ⟨w, s1, l1, q1, q2⟩ := h _ s l k r hr
      refine ⟨w, s1, l1, ?_, q2⟩
      cases t <;> simp only [iteM, if_true, Bool.false_eq_true, if_false] <;> rw [vl_peek (by assumption)] <;> exact q1
  · rename_i x y h1 h2
    obtain ⟨w, s1, l1, q1, q2⟩ := h _ s l k r hr
    refine ⟨w, s1, l1, ?_, q2⟩
    cases t <;> simp only [iteM, if_true, Bool.false_eq_true, if_false] <;> rw [vl_peek (by assumption)] <;> exact q1
  · cases t with
    | true => exact Ok_vl h a s l k r hr
    | false => exact Ok_vl h b s l k r hr

/-! ### Maps, bytes -/
abbrev encM (ks vs : Sh) (xs : List (ks.den × Nat × vs.den)) : List (V × Nat × V) := xs.map fun x => (ks.enc x.1, x.2.1, vs.enc x.2.2)
theorem Ok_mpO {kk : Nat → (ks vs : Sh) → Nat → List (ks.den × Nat × vs.den) → MS R} {k' : Nat → Nat → List (V × Nat × V) → M α} (h : ∀ key ks vs c xs, Ok F Q (kk key ks vs c xs) (k' key c (encM ks vs xs))) (d : DS) : Ok F Q (mpOS kk d) (mpO k' d.enc) := by
  unfold mpOS; split
  · exact Ok_get (Ok_mpK fun ks vs c xs => h _ ks vs c xs)
  · exact Ok_fail
theorem eqD_enc {ks : Sh} {kind : Nat} (hk : (ks.kd == kind) = true) (hne : kind ≤ 2) (a b : ks.den) : eqV kind (ks.enc a) (ks.enc b) = some (ks.eqD a b) := by
  have := eq_of_beq hk
  subst this
  cases ks with
  | i k =>
    have : ∀ x y : Int, eqV 0 (.i k x) (.i k y) = some (eqI x y) := fun x y => by simp only [eqV, if_true]; rfl
    exact this a b
  | b => rfl
  | s => rfl
  | sl es => simp [Sh.kd] at hne
theorem mix_enc2 {ks vs : Sh} {kind : Nat} (hk : (ks.kd == kind) = true) (h2 : kind ≤ 2) (a : ks.den) : ∀ (xs : List (ks.den × Nat × vs.den)), mix kind (ks.enc a) (encM ks vs xs) = some (mixD ks a xs)
  | [] => rfl
  | e :: r => by
    have ih := mix_enc2 (vs := vs) hk h2 a r
    unfold encM at ih ⊢
    rw [List.map_cons, mix, mixD, ih, eqD_enc hk h2, Option.bind_some]
    cases ks.eqD a e.1 <;> rfl
theorem mixD_lt (ks : Sh) {β : Type} (a : ks.den) : ∀ (xs : List (ks.den × Nat × β)) (i : Nat), mixD ks a xs = some i → i < xs.length
  | [], i, h => by cases h
  | e :: r, i, h => by
    unfold mixD at h
    cases hb : ks.eqD a e.1 with
    | true => rw [hb] at h; injection h with h; subst h; simp
    | false =>
      rw [hb, cond_false] at h
      obtain ⟨j, h1, rfl⟩ := Option.map_eq_some_iff.1 h
      have := mixD_lt ks a r j h1
      simpa using this
theorem map_modify' {β γ : Type} (f : β → γ) (g : β → β) (g' : γ → γ) (hg : ∀ x, f (g x) = g' (f x)) : ∀ (l : List β) (i : Nat), (l.modify i g).map f = (l.map f).modify i g'
  | [], i => by simp
  | x :: l, 0 => by simp [hg]
  | x :: l, i + 1 => by simp [map_modify' f g g' hg l i]
theorem map_eraseIdx' {β γ : Type} (f : β → γ) : ∀ (l : List β) (i : Nat), (l.eraseIdx i).map f = (l.map f).eraseIdx i
  | [], i => by simp
  | x :: l, 0 => by simp
  | x :: l, i + 1 => by simp [map_eraseIdx' f l i]
theorem kd_le {ks : Sh} {kind : Nat} (hk : (ks.kd == kind) = true) (hk2 : ks.kd ≠ 3) : kind ≤ 2 := by
  have := eq_of_beq hk
  subst this
  cases ks <;> simp_all [Sh.kd]
theorem oret_bind {β γ : Type} {o : Option β} {b : β} {k : β → M γ} (h : o = some b) : oret o k = k b := by rw [h]; rfl
theorem Ok_mq {kind : Nat} {zero : V} {ok : Bool} {kk : DS → MS R} {k' : D → M α} (h : ∀ d, Ok F Q (kk d) (k' d.enc)) (u : S) (d : DS) :
    Ok F Q (mpOS (fun _ ks vs _ xs => gdS (ks.kd == kind && decide (kind ≤ 2)) (ooS (ks.prj u) fun a => ooS zero.toS fun zs => ooS (vs.prj zs) fun z => kk (mqRS ok (vs.inj (mgetD ks a xs z)) (mhasD ks a xs)))) d)
      (mpO (fun _ _ es => oret (mix kind u.enc es) fun j => k' (mqR ok zero (mval es j))) d.enc) :=
  Ok_mpO (fun key ks vs c xs => Ok_gd fun hk => Ok_oo fun a ha => Ok_oo fun zs hz => Ok_oo fun z hz2 => by
    rw [Bool.and_eq_true, decide_eq_true_iff] at hk
    rw [prj_enc ha, oret_bind (mix_enc2 hk.1 hk.2 a xs)]
    have e0 : vs.enc z = zero := by rw [← prj_enc hz2, V.toS_enc hz]
    have := h (mqRS ok (vs.inj (mgetD ks a xs z)) (mhasD ks a xs))
    have e1 : (mqRS ok (vs.inj (mgetD ks a xs z)) (mhasD ks a xs)).enc = mqR ok zero (mval (encM ks vs xs) (mixD ks a xs)) := by
      cases hm : mixD ks a xs with
      | none => cases ok <;> simp [mqRS, mqR, mgetD, mhasD, hm, DS.enc, DS.encs, S.enc, inj_enc, mval, e0]
      | some i =>
        have hi := mixD_lt ks a xs i hm
        cases ok <;> simp [mqRS, mqR, mgetD, mhasD, hm, DS.enc, DS.encs, S.enc, inj_enc, mval, List.getElem?_eq_getElem hi]
    rwa [e1] at this) d
theorem Ok_mu {kind : Nat} {kk : DS → MS R} {k' : D → M α} (h : ∀ d, Ok F Q (kk d) (k' d.enc)) (u y : S) (d : DS) :
    Ok F Q (mpOS (fun key ks vs c xs => gdS (ks.kd == kind && decide (kind ≤ 2)) (ooS (ks.prj u) fun a => ooS (vs.prj y) fun b => setS key (.mp ks vs (mclkD ks a c xs) (mputD ks a b c xs)) (kk .und))) d)
      (mpO (fun key c es => oret (mix kind u.enc es) fun j => .set key (.mp (mput u.enc y.enc c es j).1 (mput u.enc y.enc c es j).2) (k' .und)) d.enc) :=
  Ok_mpO (fun key ks vs c xs => Ok_gd fun hk => Ok_oo fun a ha => Ok_oo fun b hb => by
    rw [Bool.and_eq_true, decide_eq_true_iff] at hk
    rw [prj_enc ha, prj_enc hb, oret_bind (mix_enc2 hk.1 hk.2 a xs)]
    refine Ok_set ?_ (h .und)
    cases hm : mixD ks a xs with
    | none => simp [ObS.enc, mclkD, mputD, hm, mput]
    | some i =>
      simp only [ObS.enc, mclkD, mputD, hm, mput]
      rw [map_modify' (fun x : ks.den × Nat × vs.den => (ks.enc x.1, x.2.1, vs.enc x.2.2)) (fun e => (a, e.2.1, b)) (fun e => (ks.enc a, e.2.1, vs.enc b)) (fun _ => rfl)]) d
theorem Ok_me {kind : Nat} {zero : V} {kk : DS → MS R} {k' : D → M α} (h : ∀ d, Ok F Q (kk d) (k' d.enc)) (u : S) (d : DS) :
    Ok F Q (mpOS (fun key ks vs c xs => gdS (ks.kd == kind && decide (kind ≤ 2)) (ooS (ks.prj u) fun a => ooS zero.toS fun zs => ooS (vs.prj zs) fun z => setS key (.mp ks vs (mclkD ks a c xs) (mentD ks a z c xs)) (kk (.tup [.p (vs.inj (mgetD ks a xs z)), .p (.i .i64 (mstpD ks a c xs : Nat))])))) d)
      (mpO (fun key c es => oret (mix kind u.enc es) fun j => .set key (.mp (ment u.enc zero c es j).1 (ment u.enc zero c es j).2.1) (k' (.tup [.p (ment u.enc zero c es j).2.2.1, .p (.i .i64 (ment u.enc zero c es j).2.2.2)]))) d.enc) :=
  Ok_mpO (fun key ks vs c xs => Ok_gd fun hk => Ok_oo fun a ha => Ok_oo fun zs hz => Ok_oo fun z hz2 => by
    rw [Bool.and_eq_true, decide_eq_true_iff] at hk
    rw [prj_enc ha, oret_bind (mix_enc2 hk.1 hk.2 a xs)]
    have e0 : vs.enc z = zero := by rw [← prj_enc hz2, V.toS_enc hz]
    have := h (.tup [.p (vs.inj (mgetD ks a xs z)), .p (.i .i64 (mstpD ks a c xs : Nat))])
    have e1 : (DS.tup [.p (vs.inj (mgetD ks a xs z)), .p (.i .i64 (mstpD ks a c xs : Nat))]).enc = .tup [.p (ment (ks.enc a) zero c (encM ks vs xs) (mixD ks a xs)).2.2.1, .p (.i .i64 (ment (ks.enc a) zero c (encM ks vs xs) (mixD ks a xs)).2.2.2)] := by
      cases hm : mixD ks a xs with
      | none => simp [mgetD, mstpD, hm, DS.enc, DS.encs, S.enc, inj_enc, ment, e0]
      | some i =>
        have hi := mixD_lt ks a xs i hm
        simp [mgetD, mstpD, hm, DS.enc, DS.encs, S.enc, inj_enc, ment, List.getElem?_eq_getElem hi]
    rw [e1] at this
    refine Ok_set ?_ this
    cases hm : mixD ks a xs with
    | none => simp [ObS.enc, mclkD, mentD, hm, ment, e0]
    | some i =>
      simp only [ObS.enc, mclkD, mentD, hm, ment]
      rw [map_modify' (fun x : ks.den × Nat × vs.den => (ks.enc x.1, x.2.1, vs.enc x.2.2)) (fun e => (a, e.2.1, e.2.2)) (fun e => (ks.enc a, e.2.1, e.2.2)) (fun _ => rfl)]) d
theorem findIdx_enc {ks vs : Sh} {n : Int} : ∀ xs : List (ks.den × Nat × vs.den), (encM ks vs xs).findIdx? (fun e => (e.2.1 : Int) == n) = xs.findIdx? (fun e => (e.2.1 : Int) == n)
  | [] => rfl
  | e :: r => by
    have := findIdx_enc (n := n) r
    unfold encM at this ⊢
    rw [List.map_cons, List.findIdx?_cons, List.findIdx?_cons, this]
theorem Ok_mt {n : Int} {kk : DS → MS R} {k' : D → M α} (h : ∀ d, Ok F Q (kk d) (k' d.enc)) (y : S) (d : DS) :
    Ok F Q (mpOS (fun key ks vs c xs => ooS (vs.prj y) fun b => gdS (mstB n xs) (setS key (.mp ks vs c (mstD n b xs)) (kk .und))) d)
      (mpO (fun key c es => oret (es.findIdx? fun e => (e.2.1 : Int) == n) fun j => .set key (.mp c (es.modify j fun e => (e.1, e.2.1, y.enc))) (k' .und)) d.enc) :=
  Ok_mpO (fun key ks vs c xs => Ok_oo fun b hb => Ok_gd fun hs => by
    rw [findIdx_enc, prj_enc hb]
    cases hm : xs.findIdx? fun e => (e.2.1 : Int) == n with
    | none => simp [mstB, hm] at hs
    | some j =>
      refine Ok_set ?_ (h .und)
      simp only [ObS.enc, mstD, hm]
      rw [map_modify' (fun x : ks.den × Nat × vs.den => (ks.enc x.1, x.2.1, vs.enc x.2.2)) (fun e => (e.1, e.2.1, b)) (fun e => (e.1, e.2.1, vs.enc b)) (fun _ => rfl)]) d
theorem Ok_md {kind : Nat} {kk : DS → MS R} {k' : D → M α} (h : ∀ d, Ok F Q (kk d) (k' d.enc)) (u : S) (d : DS) :
    Ok F Q (mpOS (fun key ks vs c xs => gdS (ks.kd == kind && decide (kind ≤ 2)) (ooS (ks.prj u) fun a => setS key (.mp ks vs c (mdelD ks a xs)) (kk (.tup [])))) d)
      (mpO (fun key c es => oret (mix kind u.enc es) fun j => .set key (.mp c (mdel es j)) (k' (.tup []))) d.enc) :=
  Ok_mpO (fun key ks vs c xs => Ok_gd fun hk => Ok_oo fun a ha => by
    rw [Bool.and_eq_true, decide_eq_true_iff] at hk
    rw [prj_enc ha, oret_bind (mix_enc2 hk.1 hk.2 a xs)]
    refine Ok_set ?_ (h (.tup []))
    cases hm : mixD ks a xs with
    | none => simp [ObS.enc, mdelD, hm, mdel]
    | some i => simp only [ObS.enc, mdelD, hm, mdel]; rw [map_eraseIdx']) d
theorem bytesV_enc : ∀ xs : List Int, bytesOK xs = true → bytesV (xs.map fun n => [V.i .u8 n]) = some (xs.map fun n => UInt8.ofNat n.toNat)
  | [], _ => rfl
  | n :: r, h => by
    simp only [bytesOK, List.all_cons, Bool.and_eq_true, decide_eq_true_eq] at h
    simp only [List.map_cons, bytesV, if_pos h.1]
    rw [bytesV_enc r h.2]; rfl
theorem Ok_strE {kk : ByteArray → MS R} {k' : ByteArray → M α} (h : ∀ s, Ok F Q (kk s) (k' s)) (e : EL) : Ok F Q (strES kk e) (oret (bytesV e.xs) fun l => k' ⟨l.toArray⟩) := by
  cases e with
  | t es xs =>
    refine Ok_oo fun ys hy => Ok_gd fun hb => ?_
    have := (EL.as_enc hy).2
    rw [this]
    have e1 : List.map (encL [.i .u8]) ys = ys.map fun n => [V.i .u8 n] := rfl
    rw [e1, bytesV_enc ys hb]
    exact h (strI ys)
  | e sz => exact h (strI [])
theorem Ok_asS {kk : ByteArray → MS R} {k' : ByteArray → M α} (h : ∀ s, Ok F Q (kk s) (k' s)) (d : DS) : Ok F Q (asSS kk d) (asS k' d.enc) := by
  unfold asSS; split
  · exact h _
  · exact Ok_fail
theorem Ok_ev {FS : CfS R} (hF : FOK FS F) {H : Nat → Option (List Sh)} {nm : Nat} {kk : DS → MS R} {k' : D → M α} (h : ∀ d, Ok F Q (kk d) (k' d.enc)) : ∀ o : O, Ok F Q (evOS FS H nm kk o) (evO nm k' o)
  | .mv x => Ok_vl h x
  | .pk c a b => Ok_vl (Ok_asB fun t => Ok_pk h) c
  | .bi op x y => Ok_vl (Ok_asP fun u => Ok_vl (Ok_asP fun w => Ok_bin (fun r => h (.p r)) u w) y) x
  | .bb ne x y => Ok_vl (Ok_asB fun u => Ok_vl (Ok_asB fun w => by
      have := h (.p (.b (bif ne then u != w else u == w)))
      cases ne <;> exact this) y) x
  | .bn ne kind x => Ok_vl (Ok_isNil (fun t => h (.p (.b (ne != t)))) kind) x
  | .ba ne ks x y => Ok_vl (Ok_asG fun u => Ok_vl (Ok_asG fun w => Ok_oret fun t ht => ⟨t, eqs_enc _ _ _ _ ht, h (.p (.b (ne != t)))⟩) y) x
  | .un op x => Ok_vl (Ok_un h op) x
  | .ld n a => Ok_vl (Ok_ld h) a
  | .st n a v => Ok_vl (fun d => Ok_vl (fun x => Ok_oret fun xs hx => ⟨DS.encs xs, stX_enc hx, Ok_stC (h .und) d⟩) v) a
  | .fa off x => Ok_vl (Ok_move h) x
  | .fd off n x => Ok_vl (Ok_asG fun xs => Ok_part h n) x
  | .ix sz x i => Ok_vl (fun d => Ok_vl (Ok_asI fun _ n => Ok_ixO h d) i) x
  | .xa len sz x i => Ok_vl (fun d => Ok_vl (Ok_asI fun _ n => Ok_caseN len fun j => Ok_move h d) i) x
  | .xv len sz n x i => Ok_vl (Ok_asG fun xs => Ok_vl (Ok_asI fun _ m => Ok_caseN len fun j => Ok_part h n) i) x
  | .xs x i => Ok_vl (fun d => Ok_vl (Ok_asI fun _ n => Ok_xsO h d) i) x
  | .ln kind x => Ok_vl (Ok_lnO (fun n => h (.p (.i .i64 n))) kind) x
  | .ap sz bytes x y => Ok_vl (fun d => Ok_vl (Ok_elems fun ys => Ok_gd fun hs => by
      have hs := eq_of_beq hs
      exact Ok_grd' hs (Ok_apX hs h d)) y) x
  | .apa sz bytes x y => Ok_vl (fun d => Ok_vl (Ok_elems fun ys => Ok_gd fun hs => by
      have hs := eq_of_beq hs
      exact Ok_grd' hs (Ok_apX hs (Ok_slO h) d)) y) x
  | .bl zero parts => Ok_vparts parts fun ps => Ok_oret fun cs hc => ⟨encO cs, by
      have := putParts_enc _ _ _ hc
      rwa [show encO (zero.map fun _ => none) = zero.map fun _ => none by simp [encO, Function.comp_def]] at this, Ok_fillZ zero nm cs fun ds => h (.agg ds)⟩
  | .bs sz len zero parts => Ok_vparts parts fun ps => Ok_oo fun zs hz => by
      have := V.toSs_enc hz
      rw [S.encs_map] at this
      simp only [← this]
      refine Ok_partsV ps zs fun vs => Ok_oo fun e he => Ok_new ?_ (h (.own nm))
      have := of_enc he
      rw [chunks_enc]
      simp only [ObS.enc, this.1, this.2]
  | .bx x => Ok_vl (Ok_bx h) x
  | .al zero => Ok_zeros zero (nm + 1) fun ds => Ok_new rfl (h (.ptr nm 0))
  | .ms sz bytes zero x y => Ok_vl (Ok_asI fun _ n => Ok_vl (Ok_asI fun _ c => Ok_gd fun h1 => Ok_gd fun h2 => Ok_oo fun zs hz => Ok_oo fun e he => by
      have h1 := of_decide_eq_true h1
      have h2 := room_iff.1 h2
      refine Ok_grd' ⟨h1.1, h1.2, h2⟩ (Ok_new ?_ (h (.own nm)))
      have e1 := rep_enc he
      have e2 := V.toSs_enc hz
      rw [S.encs_map] at e2
      simp only [ObS.enc, e1.1, e1.2, e2]) y) x
  | .sl x sz lo hi mx => Ok_vl (Ok_slO h) x
  | .sk x sz lo hi mx => Ok_vl (Ok_slO (Ok_retake h)) x
  | .nc x => Ok_vl (Ok_nc h) x
  | .ex x i => Ok_vl (Ok_exT h) x
  | .ca v ms args => Ok_vls args fun ds => by
      show Ok F Q (argsOS ms ds _) (argsO ms (DS.encs ds) (callO nm v (lent ms (DS.encs ds)) k'))
      rw [lent_enc]
      exact Ok_argsO ds ms fun ds' => Ok_callO hF h ds'
  | .cx x ms args => Ok_vl (fun d => Ok_vls args fun ds => by
      rw [lent_enc]
      exact Ok_argsO ds ms fun ds' => Ok_cx hF h d) x
  | .mf v caps => Ok_vls caps fun ds => Ok_mf h ds
  | .ci kd x => Ok_vl (Ok_asI fun _ n => h (.p (.i kd (kd.wrap n)))) x
  | .mm mx xs => Ok_vls xs fun ds => Ok_mm h ds
  | .s2b x => Ok_vl (Ok_asS fun s => by
      have := h (.p (.l (.t [.i .u8] (bytesI s))))
      have e1 : (DS.p (.l (.t [.i .u8] (bytesI s)))).enc = .p (.sl 1 (vBytes s)) := by
        show D.p (.sl 1 (List.map (fun n => [V.i .u8 n]) (bytesI s))) = _
        unfold bytesI vBytes; rw [List.map_map]; rfl
      rwa [e1] at this) x
  | .b2s x => Ok_vl (Ok_elems fun e => Ok_strE (fun s => h (.p (.s s))) e) x
  | .mk => Ok_oo fun z hz => Ok_new rfl (h (.mp nm))
  | .mq kind zero ok x i => Ok_vl (fun d => Ok_vl (Ok_asP fun u => Ok_mq h u d) i) x
  | .mu kind x i v => Ok_vl (fun d => Ok_vl (Ok_asP fun u => Ok_vl (fun dv => Ok_toS 300 dv fun y => Ok_mu h u y d) v) i) x
  | .me kind zero x i => Ok_vl (fun d => Ok_vl (Ok_asP fun u => Ok_me h u d) i) x
  | .mt x s v => Ok_vl (fun d => Ok_vl (Ok_asI fun _ n => Ok_vl (fun dv => Ok_toS 300 dv fun y => Ok_mt h y d) v) s) x
  | .md kind x i => Ok_vl (fun d => Ok_vl (Ok_asP fun u => Ok_md h u d) i) x

theorem Ok_put {dst : Option Nat} {m : MS R} {m' : M α} (h : Ok F Q m m') (d : DS) : Ok F Q (putOS dst m d) (putO dst m' d.enc) := by
  cases dst with
  | none => exact h
  | some t => exact Ok_wr h
theorem know_enc {s : StS} {g : Nat} {x : Bool} (h : lk s.env g = some (.p (.b x))) : (⟨know s.env g x, s.heap⟩ : StS) = s := by
  rw [know_eq h]
theorem Ok_exO {FS : CfS R} (hF : FOK FS F) {H : Nat → Option (List Sh)} {m : MS R} {m' : M α} (h : Ok F Q m m') (o : AO) : Ok F Q (exOS FS H o m) (exO o m') := by
  cases hg : o.g with
  | none =>
    simp only [exOS, exO, hg]
    exact Ok_ev hF (fun d => Ok_put h d) o.op
  | some gw =>
    obtain ⟨g, want⟩ := gw
    simp only [exOS, exO, hg]
    have h1 : Ok F Q (evOS FS H o.nm (putOS o.dst m) o.op) (evO o.nm (putO o.dst m') o.op) := Ok_ev hF (fun d => Ok_put h d) o.op
    have h2 : Ok F Q (putOS o.dst m .und) (putO o.dst m' .und) := Ok_put h .und
    intro s l k r hr
    unfold rdS at hr
    split at hr
    · rename_i d hd
      simp only [M.runA, StS.enc, lk_encE, hd, Option.map_some, Option.bind_some]
      unfold guOS at hr
      split at hr
      · rename_i x
        simp only [DS.enc, S.enc, guO]
        cases x with
        | true =>
          rw [cond_true, know_enc hd] at hr
          cases want with
          | true => exact h1 s l k r hr
          | false => exact h2 s l k r hr
        | false =>
          rw [cond_false, know_enc hd] at hr
          cases want with
          | true => exact h2 s l k r hr
          | false => exact h1 s l k r hr
      · exact h2 s l k r hr
      · cases hr
    · cases hr
theorem Ok_exOs {FS : CfS R} (hF : FOK FS F) {H : Nat → Option (List Sh)} {m : MS R} {m' : M α} (h : Ok F Q m m') : ∀ l : List AO, Ok F Q (exOsS FS H l m) (exOs l m')
  | [] => h
  | o :: r => Ok_exO hF (Ok_exOs hF h r) o
end

/-! ### Code -/
section
variable {R : Type} {F : Cf}
theorem Ok_ret : Ok F (fun (_ : Unit) s l k r => k s l = some r) (retS : MS R) (.ret ()) := fun s l k r hr => ⟨(), s, l, rfl, hr⟩
theorem evDrw_enc {FS : CfS R} (hF : FOK FS F) {H : Nat → Option (List Sh)} : ∀ (ops : List AO) (i : Nat) (done : List (Nat × List Acc)) (s : StS) (k : StS → Option R) (r : R), evDrwS FS H i ops done s k = some r →
    ∃ s', evDrw F i ops done s.enc = some s'.enc ∧ k s' = some r
  | [], _, _, s, _, _, h => ⟨s, rfl, h⟩
  | o :: ops, i, done, s, k, r, h => by
    obtain ⟨a, s1, l1, h1, h2⟩ := Ok_exO hF (Ok_ret (F := F)) o _ _ _ _ h
    replace h2 : cond (freeOk i o l1 done) (evDrwS FS H (i + 1) ops ((i, l1) :: done) s1 k) none = some r := h2
    cases hf : freeOk i o l1 done with
    | false => rw [hf] at h2; cases h2
    | true =>
      rw [hf] at h2
      obtain ⟨s', h3, h4⟩ := evDrw_enc hF ops _ _ _ _ _ h2
      refine ⟨s', ?_, h4⟩
      simp only [evDrw]
      rw [h1]
      simp only [Option.bind_some]
      rw [if_pos hf]
      exact h3

/-- What is said of loops is so. -/
def LOK (F : Cf) (Lp : Nat → StS → KS R → Option R) : Nat → C → Prop
  | p, .seq a b => LOK F Lp (2 * p) a ∧ LOK F Lp (2 * p + 1) b
  | p, .cond _ a b => LOK F Lp (2 * p) a ∧ LOK F Lp (2 * p + 1) b
  | p, .block _ c => LOK F Lp (2 * p) c
  | p, .loop keep c => ∀ s k r, Lp p s k = some r → ∃ e s', runL F keep c s.enc = some (e, s'.enc) ∧ k e s' = some r
  | _, _ => True

theorem exS_sound {FS : CfS R} (hF : FOK FS F) {H : Nat → Option (List Sh)} {Lp : Nat → StS → KS R → Option R} {X : Nat → List SP} : ∀ (c : C) (p : Nat), LOK F Lp p c → ∀ (s : StS) (k : KS R) (r : R), exS FS H Lp X p c s k = some r →
    ∃ e s', runC F c s.enc = some (e, s'.enc) ∧ k e s' = some r
  | .skip, p, _, s, k, r, h => ⟨.nrm, s, runC_skip _ _, h⟩
  | .reg ops, p, _, s, k, r, h => by
    obtain ⟨a, s1, l1, h1, h2⟩ := Ok_exOs hF (Ok_ret (F := F)) ops _ _ _ _ h
    refine ⟨.nrm, s1, ?_, h2⟩
    rw [runC_reg, runA_run _ _ _ _ _ _ h1]; rfl
  | .drw ops, p, _, s, k, r, h => by
    obtain ⟨s', h1, h2⟩ := evDrw_enc hF ops 0 [] s _ r h
    refine ⟨.nrm, s', ?_, h2⟩
    rw [runC_drw, h1]; rfl
  | .seq a b, p, hl, s, k, r, h => by
    obtain ⟨e, s1, h1, h2⟩ := exS_sound hF a _ hl.1 _ _ _ h
    rw [runC_seq, h1]
    cases e with
    | nrm => exact exS_sound hF b _ hl.2 _ _ _ h2
    | ex id => exact ⟨_, s1, rfl, h2⟩
    | ret => exact ⟨_, s1, rfl, h2⟩
  | .cond x a b, p, hl, s, k, r, h => by
    simp only [exS] at h
    rw [runC_cond]
    unfold condS at h
    split at h
    · rename_i n
      split at h
      · rename_i t ht
        simp only [vl, M.run, StS.enc, lk_encE, ht, Option.map_some, Option.bind_some, DS.enc, S.enc, conK]
        cases t with
        | true => rw [cond_true, know_enc ht] at h; exact exS_sound hF a _ hl.1 _ _ _ h
        | false => rw [cond_false, know_enc ht] at h; exact exS_sound hF b _ hl.2 _ _ _ h
      · cases h
    · rename_i t
      simp only [vl, M.run, Option.bind_some, conK]
      cases t with
      | true => exact exS_sound hF a _ hl.1 _ _ _ h
      | false => exact exS_sound hF b _ hl.2 _ _ _ h
    · cases h
  | .block id c, p, hl, s, k, r, h => by
    obtain ⟨e, s1, h1, h2⟩ := exS_sound hF c _ hl _ _ _ h
    rw [runC_block, h1]
    cases e with
    | nrm => exact ⟨_, s1, rfl, h2⟩
    | ex id' =>
      simp only [blkS] at h2
      simp only [Option.bind_some, blkK]
      by_cases hi : id' = id
      · rw [if_pos hi] at h2; rw [if_pos hi]; exact ⟨_, s1, rfl, h2⟩
      · rw [if_neg hi] at h2; rw [if_neg hi]; exact ⟨_, s1, rfl, h2⟩
    | ret => exact ⟨_, s1, rfl, h2⟩
  | .loop keep c, p, hl, s, k, r, h => by
    obtain ⟨s0, h1, h2⟩ := Option.bind_eq_some_iff.1 h
    rw [runC_loop, keepSt_enc h1]
    exact hl s0 k r h2
  | .exit keep id, p, _, s, k, r, h => by
    obtain ⟨s0, h1, h2⟩ := Option.bind_eq_some_iff.1 h
    obtain ⟨s1, h3, h4⟩ := nrmS_enc h2
    rw [runC_exit, keepSt_enc h1, h3]
    exact ⟨_, s1, rfl, h4⟩
  | .ret keep, p, _, s, k, r, h => by
    obtain ⟨s0, h1, h2⟩ := Option.bind_eq_some_iff.1 h
    obtain ⟨s1, h3, h4⟩ := nrmS_enc h2
    rw [runC_ret, keepSt_enc h1, h3]
    exact ⟨_, s1, rfl, h4⟩

/-! ### Functions -/
section
variable {α : Type} {Q : α → StS → List Acc → (StS → List Acc → Option R) → R → Prop}
theorem Ok_resD {own : Bool} {kk : DS → MS R} {k' : D → M α} (h : ∀ d, Ok F Q (kk d) (k' d.enc)) (d : DS) : Ok F Q (resDS own kk d) (resD own k' d.enc) := by
  cases own with
  | true => cases d <;> first | exact h (.agg _) | exact h _
  | false =>
    have key : ∀ d, resDS false kk d = toS true 300 d (fun v => kk (.p v)) → resD false k' d.enc = toV true 300 d.enc (fun v => k' (.p v)) → Ok F Q (resDS false kk d) (resD false k' d.enc) := by
      intro d h1 h2
      rw [h1, h2]
      exact Ok_toS 300 d fun u => h (.p u)
    cases d with
    | agg xs => exact Ok_toSs 300 xs fun vs => by have := h (.agg (vs.map .p)); rwa [DS.enc, DS.encs_p] at this
    | _ => exact key _ rfl rfl
theorem Ok_resO {own : Bool} : ∀ (rs : List Rs) {kk : List DS → MS R} {k' : List D → M α}, (∀ ds, Ok F Q (kk ds) (k' (DS.encs ds))) → Ok F Q (resOS own rs kk) (resO own rs k')
  | [], _, _, h => h []
  | .t n :: r, _, _, h => Ok_rd (Ok_resD fun d => Ok_resO r fun ds => h (d :: ds))
  | .c a n :: r, _, _, h => Ok_rd (Ok_ld (Ok_resD fun d => Ok_resO r fun ds => h (d :: ds)))
end

theorem encs_drop (n : Nat) (ds : List DS) : (DS.encs ds).drop n = DS.encs (ds.drop n) := by simp [DS.encs_map]
theorem encs_take (n : Nat) (ds : List DS) : (DS.encs ds).take n = DS.encs (ds.take n) := by simp [DS.encs_map]
theorem end_enc {rp : List AP} {k : List Nat → List DS → HeapS → Option R} {ds : List DS} {s : StS} {r : R} (h : endS rp k ds s = some r) :
    ∃ roots res h', endK (DS.encs ds, s.enc) = some (roots, DS.encs res, encH h') ∧ k roots res h' = some r := by
  unfold endS at h
  obtain ⟨c, h1, h2⟩ := Option.bind_eq_some_iff.1 h
  obtain ⟨res, h', e1, e2, h2⟩ := nrmA_enc h2
  refine ⟨_, _, _, ?_, h2⟩
  rw [← e1, ← e2]
  have h3 := canon_enc (ds' := c.1) (h' := c.2) h1
  simp only [endK, StS.enc, hidden_enc, encE_snd, ← DS.encs_app, h3, Option.bind_some, endR]
  simp only [encE, List.length_map, encs_drop, encs_take, DS.refsL_enc]
theorem out_enc {rp : List AP} {ver : Ver} {k : List Nat → List DS → HeapS → Option R} {e : Ex} {s : StS} {r : R} (h : outS rp ver.own ver.res k e s = some r) :
    ∃ roots res h', outF F ver (e, s.enc) = some (roots, DS.encs res, encH h') ∧ k roots res h' = some r := by
  have main : ∀ s : StS, resOS ver.own ver.res (fun ds s l _ => endS rp k ds s) s [] (fun _ _ => none) = some r → ∃ roots res h', ((resO ver.own ver.res .ret).run F s.enc).bind endK = some (roots, DS.encs res, encH h') ∧ k roots res h' = some r := by
    intro s h
    have hq : ∀ ds : List DS, Ok F (fun (a : List D) s l _ r => ∃ ds, a = DS.encs ds ∧ endS rp k ds s = some r) (fun s l _ => endS rp k ds s) (.ret (DS.encs ds)) := fun ds s l k0 r hr => ⟨DS.encs ds, s, l, rfl, ds, rfl, hr⟩
    obtain ⟨a, s1, l1, h1, ds, rfl, h3⟩ := Ok_resO ver.res hq s [] _ r h
    have := runA_run _ _ _ _ _ _ h1
    rw [this]
    exact end_enc h3
  cases e with
  | ex id => cases h
  | nrm => exact main s h
  | ret => exact main s h

theorem ver_sound' {T : Tab} {FS : CfS R} (hF : FOK FS (runF T)) {H : Nat → Option (List Sh)} {Lp : Nat → StS → KS R → Option R} {X : Nat → List SP} {rp : List AP} {v : Nat} {ver : Ver} (hv : T.ver v = some ver) (hl : LOK (runF T) Lp 1 ver.code)
    {args : List DS} {h : HeapS} {k : List Nat → List DS → HeapS → Option R} {r : R} (hr : verS FS H Lp X rp ver args h k = some r) :
    ∃ roots res h', runF T v (DS.encs args) (encH h) = some (roots, DS.encs res, encH h') ∧ k roots res h' = some r := by
  unfold verS at hr
  cases hn : args.length == ver.np with
  | false => rw [hn] at hr; cases hr
  | true =>
    rw [hn] at hr
    have hn' : (DS.encs args).length = ver.np := by rw [DS.encs_map, List.length_map]; exact eq_of_beq hn
    obtain ⟨e, s', h1, h2⟩ := exS_sound hF ver.code 1 hl _ _ _ hr
    obtain ⟨roots, res, h', h3, h4⟩ := out_enc (F := runF T) h2
    refine ⟨roots, res, h', ?_, h4⟩
    rw [runF_eq hv _ hn']
    have e1 : (⟨params 0 (DS.encs args) (hide 0 (DS.encs args ++ deep (DS.encs args) (encH h))), encH h⟩ : St) = StS.enc ⟨paramsS 0 args (hideS 0 (args ++ deepS args h)), h⟩ := by
      simp only [StS.enc, deep_enc, ← DS.encs_app, hide_enc, params_enc]
    rw [e1, h1]
    exact h3
end
end Am
end Go.Proofs.YtfdmmnfjdifccaaGreatDoor
