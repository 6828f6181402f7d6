/- The typed layer: what typed values stand for. -/
import Derived.Test.YtfdmmnfjdifccaaGreatDoorAs1
set_option linter.unusedVariables false
set_option linter.unusedSimpArgs false
set_option linter.constructorNameAsVariable false
namespace Go.Proofs.YtfdmmnfjdifccaaGreatDoor
namespace Am

theorem S.encs_map : ∀ l : List S, S.encs l = l.map S.enc
  | [] => rfl
  | x :: r => by simp [S.encs, S.encs_map r]
theorem DS.encs_map : ∀ l : List DS, DS.encs l = l.map DS.enc
  | [] => rfl
  | x :: r => by simp [DS.encs, DS.encs_map r]

theorem injL_enc : ∀ (es : List Sh) (x : denL es), (injL es x).map S.enc = encL es x
  | [], _ => rfl
  | [s], x => by
    cases s <;> simp [injL, encL, Sh.inj, S.enc, Sh.enc, EL.sz, EL.xs]
  | s :: t :: q, x => by
    simp only [injL, encL, List.map_cons, injL_enc (t :: q) x.2]
    cases s <;> simp [Sh.inj, S.enc, Sh.enc, EL.sz, EL.xs]
theorem inj_enc (s : Sh) (x : s.den) : (s.inj x).enc = s.enc x := by
  cases s <;> simp [Sh.inj, S.enc, Sh.enc, EL.sz, EL.xs]

theorem injL_len : ∀ (es : List Sh) (x : denL es), (injL es x).length = es.length
  | [], _ => rfl
  | [s], x => rfl
  | s :: t :: q, x => by simp only [injL, List.length_cons, injL_len (t :: q) x.2]
theorem encL_len (es : List Sh) (x : denL es) : (encL es x).length = es.length := by
  rw [← injL_enc, List.length_map, injL_len]

theorem EL.xs_len (e : EL) : e.xs.length = e.len := by cases e <;> simp [EL.xs, EL.len]

theorem EL.as_enc {es : List Sh} {e : EL} {xs : List (denL es)} (h : e.as es = some xs) : e.sz = es.length ∧ e.xs = xs.map (encL es) := by
  cases e with
  | t es' ys =>
    simp only [EL.as] at h
    split at h
    · rename_i hb
      have := beqL_eq _ _ hb
      subst this
      injection h with h; subst h
      exact ⟨rfl, rfl⟩
    · cases h
  | e sz =>
    simp only [EL.as] at h
    cases hs : sz == es.length with
    | false => rw [hs] at h; cases h
    | true =>
      rw [hs] at h; injection h with h; subst h
      exact ⟨by simpa [EL.sz] using hs, rfl⟩

theorem prjI_eq {k : IntKind} {u : S} {n : Int} (h : prjI k u = some n) : u = .i k n := by
  cases u <;> simp only [prjI, reduceCtorEq] at h
  rename_i k' m
  cases hk : decide (k' = k) with
  | false => rw [hk] at h; cases h
  | true => rw [hk] at h; injection h with h; subst h; rw [of_decide_eq_true hk]
theorem prjB_eq {u : S} {n : Bool} (h : prjB u = some n) : u = .b n := by
  cases u <;> simp only [prjB, reduceCtorEq, Option.some.injEq] at h
  rw [h]
theorem prjS_eq {u : S} {n : ByteArray} (h : prjS u = some n) : u = .s n := by
  cases u <;> simp only [prjS, reduceCtorEq, Option.some.injEq] at h
  rw [h]
theorem prj_enc : ∀ {s : Sh} {u : S} {x : s.den}, s.prj u = some x → u.enc = s.enc x
  | .i k, u, x, h => by rw [prjI_eq h]; rfl
  | .b, u, x, h => by rw [prjB_eq h]; rfl
  | .s, u, x, h => by rw [prjS_eq h]; rfl
  | .sl es, u, x, h => by
    have h : prjE es u = some x := h
    obtain ⟨e, rfl, h⟩ : ∃ e, u = .l e ∧ e.as es = some x := by
      cases u <;> simp only [prjE, reduceCtorEq] at h
      exact ⟨_, rfl, h⟩
    have := EL.as_enc (e := e) h
    show V.sl e.sz e.xs = V.sl es.length (x.map (encL es))
    rw [this.1, this.2]

theorem headS_eq {us : List S} {x : S × List S} (h : headS us = some x) : us = x.1 :: x.2 := by
  cases us with
  | nil => cases h
  | cons u r => injection h with h; subst h; rfl
theorem nilS_eq {α : Type} {a b : α} {us : List S} (h : nilS a us = some b) : us = [] ∧ a = b := by
  cases us with
  | nil => injection h with h; exact ⟨rfl, h⟩
  | cons u r => cases h
theorem prjL_enc : ∀ (es : List Sh) (us : List S) (x : denL es), prjL es us = some x → us.map S.enc = encL es x
  | [], us, x, h => by rw [(nilS_eq h).1]; rfl
  | [s], us, x, h => by
    obtain ⟨y, h1, h⟩ := Option.bind_eq_some_iff.1 h
    obtain ⟨a, h2, h⟩ := Option.bind_eq_some_iff.1 h
    obtain ⟨h3, h4⟩ := nilS_eq h
    rw [headS_eq h1, h3]
    subst h4
    show [y.1.enc] = [s.enc a]
    rw [prj_enc h2]
  | s :: t :: q, us, x, h => by
    obtain ⟨y, h1, h⟩ := Option.bind_eq_some_iff.1 h
    obtain ⟨a, h2, h⟩ := Option.bind_eq_some_iff.1 h
    obtain ⟨b, h3, h⟩ := Option.bind_eq_some_iff.1 h
    injection h with h; subst h
    rw [headS_eq h1]
    show y.1.enc :: y.2.map S.enc = s.enc a :: encL (t :: q) b
    rw [prj_enc h2, prjL_enc (t :: q) y.2 b h3]

mutual
theorem V.toS_enc : ∀ {v : V} {u : S}, v.toS = some u → u.enc = v
  | .i k n, u, h => by injection h with h; subst h; rfl
  | .b t, u, h => by injection h with h; subst h; rfl
  | .s x, u, h => by injection h with h; subst h; rfl
  | .sl sz [], u, h => by injection h with h; subst h; rfl
  | .cp cells, u, h => by
    simp only [V.toS, Option.map_eq_some_iff] at h
    obtain ⟨a, h, rfl⟩ := h
    simp only [S.enc, V.toSs_enc h]
  | .fn v caps, u, h => by
    simp only [V.toS, Option.map_eq_some_iff] at h
    obtain ⟨a, h, rfl⟩ := h
    simp only [S.enc, V.toSs_enc h]
  | .nl k, u, h => by injection h with h; subst h; rfl
  | .sl sz (_ :: _), u, h => by cases h
  | .ifc _ _ _, u, h => by cases h
theorem V.toSs_enc : ∀ {vs : List V} {us : List S}, V.toSs vs = some us → S.encs us = vs
  | [], us, h => by injection h with h; subst h; rfl
  | v :: r, us, h => by
    simp only [V.toSs] at h
    obtain ⟨a, h1, h⟩ := Option.bind_eq_some_iff.1 h
    obtain ⟨b, h2, h⟩ := Option.bind_eq_some_iff.1 h
    injection h with h; subst h
    simp [S.encs, V.toS_enc h1, V.toSs_enc h2]
end

theorem lk_map {α β : Type} (f : α → β) : ∀ (l : List (Nat × α)) (t : Nat), lk (l.map fun x => (x.1, f x.2)) t = (lk l t).map f
  | [], _ => rfl
  | (k, x) :: r, t => by
    simp only [List.map_cons, lk]
    by_cases h : k = t
    · simp [h]
    · simp [h, lk_map f r t]
theorem lk_encE (e : EnvS) (t : Nat) : lk (encE e) t = (lk e t).map DS.enc := lk_map _ e t
theorem lk_encH (h : HeapS) (t : Nat) : lk (encH h) t = (lk h t).map ObS.enc := lk_map _ h t

theorem DS.one_enc (d : DS) : d.enc.one = d.one := by cases d <;> rfl
theorem cellAt_enc {o : ObS} {off : Nat} {d : DS} (h : cellAtS o off = some d) : cellAt o.enc off = some d.enc := by
  cases o with
  | box cs => simp only [cellAtS] at h; simp [cellAt, ObS.enc, DS.encs_map, h]
  | fbx cs =>
    simp only [cellAtS, Option.map_eq_some_iff] at h
    obtain ⟨a, h, rfl⟩ := h
    simp [cellAt, ObS.enc, S.encs_map, h, DS.enc]
  | arr e => cases h
  | frz e => cases h
  | mp ks vs c xs => cases h
  | dead => cases h
theorem cellPut_enc {o o' : ObS} {off : Nat} {d : DS} (h : cellPutS o off d = some o') : cellPut o.enc off d.enc = some o'.enc := by
  cases o with
  | box cs =>
    simp only [cellPutS] at h
    cases hc : decide (off < cs.length) && d.one with
    | false => rw [hc] at h; cases h
    | true =>
      rw [hc] at h; injection h with h; subst h
      rw [Bool.and_eq_true, decide_eq_true_eq] at hc
      simp [cellPut, ObS.enc, DS.encs_map, hc.1, DS.one_enc, hc.2, List.map_set]
  | fbx cs => cases h
  | arr e => cases h
  | frz e => cases h
  | mp ks vs c xs => cases h
  | dead => cases h

mutual
theorem DS.refs_enc : ∀ d : DS, d.enc.refs = d.refs
  | .p _ => rfl
  | .own _ => rfl
  | .arr _ _ _ _ => rfl
  | .ptr _ _ => rfl
  | .ep _ _ _ => rfl
  | .mp _ => rfl
  | .fn _ caps => by simp only [DS.enc, D.refs, DS.refs, DS.refsL_enc caps]
  | .ifc _ _ xs => by simp only [DS.enc, D.refs, DS.refs, DS.refsL_enc xs]
  | .agg xs => by simp only [DS.enc, D.refs, DS.refs, DS.refsL_enc xs]
  | .tup xs => by simp only [DS.enc, D.refs, DS.refs, DS.refsL_enc xs]
  | .und => rfl
theorem DS.refsL_enc : ∀ ds : List DS, D.refsL (DS.encs ds) = DS.refsL ds
  | [] => rfl
  | d :: r => by simp only [DS.encs, D.refsL, DS.refsL, DS.refs_enc d, DS.refsL_enc r]
end
mutual
theorem DS.ren_enc (f : Nat → Nat) : ∀ d : DS, d.enc.ren f = (d.ren f).enc
  | .p _ => rfl
  | .own _ => rfl
  | .arr _ _ _ _ => rfl
  | .ptr _ _ => rfl
  | .ep _ _ _ => rfl
  | .mp _ => rfl
  | .fn _ caps => by simp only [DS.enc, D.ren, DS.ren, DS.renL_enc f caps]
  | .ifc _ _ xs => by simp only [DS.enc, D.ren, DS.ren, DS.renL_enc f xs]
  | .agg xs => by simp only [DS.enc, D.ren, DS.ren, DS.renL_enc f xs]
  | .tup xs => by simp only [DS.enc, D.ren, DS.ren, DS.renL_enc f xs]
  | .und => rfl
theorem DS.renL_enc (f : Nat → Nat) : ∀ ds : List DS, D.renL f (DS.encs ds) = DS.encs (DS.renL f ds)
  | [] => rfl
  | d :: r => by simp only [DS.encs, D.renL, DS.renL, DS.ren_enc f d, DS.renL_enc f r]
end
theorem ObS.refs_enc (o : ObS) : o.enc.refs = o.refs := by
  cases o <;> simp [ObS.enc, Ob.refs, ObS.refs, DS.refsL_enc]
theorem ObS.ren_enc (f : Nat → Nat) (o : ObS) : o.enc.ren f = (o.ren f).enc := by
  cases o <;> simp [ObS.enc, Ob.ren, ObS.ren, DS.renL_enc]
theorem ObS.mut_enc (o : ObS) : o.enc.mut = o.mut := by cases o <;> rfl

theorem reach_enc (h : HeapS) : ∀ (n : Nat) (ks seen : List Nat), reach (encH h) n ks seen = reachS h n ks seen
  | 0, _, _ => rfl
  | n + 1, [], _ => rfl
  | n + 1, k :: ts, seen => by
    simp only [reach, reachS, reach_enc h n]
    cases hc : seen.contains k
    · simp only [Bool.false_eq_true, if_false, cond_false, lk_encH]
      cases lk h k <;> simp [ObS.refs_enc, reach_enc h n]
    · simp
theorem restrict_enc (h : HeapS) (all : List Nat) : ∀ (ks : List Nat) (j : Nat), restrict (encH h) ks all j = (restrictS h ks all j).map encH
  | [], _ => rfl
  | k :: r, j => by
    unfold restrict restrictS
    simp only [lk_encH, restrict_enc h all r (j + 1)]
    cases lk h k with
    | none => rfl
    | some o =>
      simp only [Option.map_some, Option.bind_some]
      cases restrictS h r all (j + 1) with
      | none => rfl
      | some t => simp [encH, ObS.ren_enc]
theorem canon_enc {ds ds' : List DS} {h h' : HeapS} (hc : canonS ds h = some (ds', h')) : canon (DS.encs ds) (encH h) = some (DS.encs ds', encH h') := by
  simp only [canonS] at hc
  obtain ⟨ks, h1, hc⟩ := Option.bind_eq_some_iff.1 hc
  obtain ⟨t, h2, hc⟩ := Option.bind_eq_some_iff.1 hc
  injection hc with hc
  injection hc with hc1 hc2
  subst hc1 hc2
  simp [canon, canK, canR, DS.refsL_enc, reach_enc, h1, restrict_enc, h2, DS.renL_enc]

theorem DS.cells_enc (d : DS) : d.enc.cells = DS.encs d.cells := by cases d <;> rfl
mutual
theorem S.flat_enc : ∀ {u : S}, u.flat = true → u.enc.flat = true
  | .i _ _, _ | .b _, _ | .s _, _ | .nl _, _ => rfl
  | .l (.e _), _ => rfl
  | .l (.t _ _), h | .cp _, h | .ifc _ _ _, h => by simp [S.flat] at h
  | .fn _ caps, h => by simp only [S.enc, V.flat]; exact S.flatL_enc (by simpa only [S.flat] using h)
theorem S.flatL_enc : ∀ {us : List S}, S.flatL us = true → V.flatL (S.encs us) = true
  | [], _ => rfl
  | u :: r, h => by
    simp only [S.flatL, Bool.and_eq_true] at h
    simp only [S.encs, V.flatL, S.flat_enc h.1, S.flatL_enc h.2, Bool.and_self]
end
mutual
theorem DS.flat_enc : ∀ (d : DS), d.flat = true → d.enc.flat = true
  | .p u, h => S.flat_enc h
  | .own _, _ => rfl
  | .arr _ _ _ _, _ => rfl
  | .ptr _ _, _ => rfl
  | .ep _ _ _, _ => rfl
  | .mp _, _ => rfl
  | .fn _ caps, h => by simp only [DS.enc, D.flat]; exact DS.flatL_enc caps h
  | .ifc _ _ xs, h => by simp only [DS.enc, D.flat]; exact DS.flatL_enc xs h
  | .agg xs, h => by simp only [DS.enc, D.flat]; exact DS.flatL_enc xs h
  | .tup xs, h => by simp only [DS.enc, D.flat]; exact DS.flatL_enc xs h
  | .und, _ => rfl
theorem DS.flatL_enc : ∀ (ds : List DS), DS.flatL ds = true → D.flatL (DS.encs ds) = true
  | [], _ => rfl
  | d :: r, h => by
    simp only [DS.flatL, Bool.and_eq_true] at h
    simp only [DS.encs, D.flatL, DS.flat_enc d h.1, DS.flatL_enc r h.2, Bool.and_self]
end
theorem flat_encL : ∀ (es : List Sh) (x : denL es), es.all flatSh = true → (encL es x).all V.flat = true
  | [], _, _ => rfl
  | [s], x, h => by cases s <;> simp_all [encL, Sh.enc, V.flat, flatSh]
  | s :: t :: q, x, h => by
    simp only [List.all_cons, Bool.and_eq_true] at h
    have := flat_encL (t :: q) x.2 (by simpa using h.2)
    simp only [encL, List.all_cons, this, Bool.and_true]
    cases s <;> simp_all [Sh.enc, V.flat, flatSh]
theorem flat_encS {s : Sh} (h : flatSh s = true) (x : s.den) : (s.enc x).flat = true := by
  cases s <;> simp_all [Sh.enc, V.flat, flatSh]
theorem ObS.flat_enc {o : ObS} (h : o.flat = true) : o.enc.flat = true := by
  cases o with
  | box cs => exact DS.flatL_enc cs h
  | arr e =>
    cases e with
    | t es xs =>
      simp only [ObS.enc, Ob.flat, EL.xs, List.all_map, List.all_eq_true]
      intro x _
      exact flat_encL es x h
    | e sz => rfl
  | frz e => cases h
  | fbx cs => cases h
  | mp ks vs c xs =>
    simp only [ObS.flat, Bool.and_eq_true] at h
    simp only [ObS.enc, Ob.flat, List.all_map, List.all_eq_true, Function.comp, Bool.and_eq_true]
    intro x _
    exact ⟨flat_encS h.1 _, flat_encS h.2 _⟩
  | dead => rfl
mutual
theorem DS.boxy_enc : ∀ d : DS, d.enc.boxy = d.boxy
  | .p _ => rfl
  | .own _ => rfl
  | .arr _ _ _ _ => rfl
  | .ptr _ _ => rfl
  | .ep _ _ _ => rfl
  | .mp _ => rfl
  | .fn _ caps => by simp only [DS.enc, D.boxy, DS.boxy, DS.boxyL_enc caps]
  | .ifc _ _ xs => by simp only [DS.enc, D.boxy, DS.boxy, DS.boxyL_enc xs]
  | .agg xs => by simp only [DS.enc, D.boxy, DS.boxy, DS.boxyL_enc xs]
  | .tup xs => by simp only [DS.enc, D.boxy, DS.boxy, DS.boxyL_enc xs]
  | .und => rfl
theorem DS.boxyL_enc : ∀ ds : List DS, D.boxyL (DS.encs ds) = DS.boxyL ds
  | [] => rfl
  | d :: r => by simp only [DS.encs, D.boxyL, DS.boxyL, DS.boxy_enc d, DS.boxyL_enc r]
end

theorem hidden_enc (e : EnvS) : hidden (encE e) = encE (hiddenS e) := by
  simp only [hidden, encE, hiddenS, List.filter_map]; rfl
theorem kept_enc : ∀ (ks : List Nat) (e : EnvS), kept ks (encE e) = encE (keptS ks e)
  | [], e => hidden_enc e
  | t :: r, e => by
    simp only [kept, keptS, lk_encE, kept_enc r e]
    cases lk e t <;> rfl
theorem encE_fst (e : EnvS) : (encE e).map (·.1) = e.map (·.1) := by simp [encE, Function.comp_def]
theorem encE_snd (e : EnvS) : (encE e).map (·.2) = DS.encs (e.map (·.2)) := by simp [encE, DS.encs_map, Function.comp_def]
theorem zip_encE (ks : List Nat) (ds : List DS) : ks.zip (DS.encs ds) = encE (ks.zip ds) := by
  rw [DS.encs_map, encE, List.zip_map_right]; rfl
theorem keepSt_enc {keep : List Nat} {s s' : StS} (h : keepStS keep s = some s') : keepSt keep s.enc = some s'.enc := by
  simp only [keepStS] at h
  obtain ⟨c, h1, h⟩ := Option.bind_eq_some_iff.1 h
  injection h with h; subst h
  have := canon_enc (ds' := c.1) (h' := c.2) h1
  simp only [keepSt, StS.enc, kept_enc, encE_snd, encE_fst, this, Option.bind_some, keepK, zip_encE]

theorem know_eq : ∀ {e : EnvS} {t : Nat} {b : Bool}, lk e t = some (.p (.b b)) → know e t b = e
  | (k, d) :: r, t, b, h => by
    simp only [lk] at h
    simp only [know]
    by_cases hk : k = t
    · rw [if_pos hk] at h; injection h with h; rw [if_pos hk, h]
    · rw [if_neg hk] at h; rw [if_neg hk, know_eq h]
  | [], _, _, h => by cases h

theorem hide_enc : ∀ (ds : List DS) (i : Nat), hide i (DS.encs ds) = encE (hideS i ds)
  | [], _ => rfl
  | d :: r, i => by
    simp only [DS.encs, hide, hideS, DS.refs_enc, hide_enc r (i + 1)]
    cases hd : (DS.refs d).isEmpty <;> simp [hd, encE]
theorem params_enc : ∀ (ds : List DS) (i : Nat) (e : EnvS), params i (DS.encs ds) (encE e) = encE (paramsS i ds e)
  | [], _, _ => rfl
  | d :: r, i, e => by simp only [DS.encs, params, paramsS, params_enc r (i + 1) e]; rfl

mutual
theorem DS.same_enc : ∀ (a b : DS), D.same a.enc b.enc = DS.same a b
  | .own k, b => by cases b <;> simp only [DS.enc, D.same, DS.same]
  | .ptr k o, b => by cases b <;> simp only [DS.enc, D.same, DS.same]
  | .mp k, b => by cases b <;> simp only [DS.enc, D.same, DS.same]
  | .fn v cs, b => by
    cases b <;> simp only [DS.enc, D.same, DS.same]
    rw [DS.sameL_enc cs _]
  | .p _, b => by cases b <;> simp only [DS.enc, D.same, DS.same]
  | .arr _ _ _ _, b => by cases b <;> simp only [DS.enc, D.same, DS.same]
  | .ep _ _ _, b => by cases b <;> simp only [DS.enc, D.same, DS.same]
  | .ifc _ _ _, b => by cases b <;> simp only [DS.enc, D.same, DS.same]
  | .agg _, b => by cases b <;> simp only [DS.enc, D.same, DS.same]
  | .tup _, b => by cases b <;> simp only [DS.enc, D.same, DS.same]
  | .und, b => by cases b <;> simp only [DS.enc, D.same, DS.same]
theorem DS.sameL_enc : ∀ (a b : List DS), D.sameL (DS.encs a) (DS.encs b) = DS.sameL a b
  | [], [] => rfl
  | a :: r, b :: q => by simp only [DS.encs, D.sameL, DS.sameL, DS.same_enc a b, DS.sameL_enc r q]
  | [], _ :: _ => rfl
  | _ :: _, [] => rfl
end
theorem ObS.same_enc (a b : ObS) : Ob.same a.enc b.enc = ObS.same a b := by
  cases a <;> cases b <;> simp only [ObS.enc, Ob.same, ObS.same]
  exact DS.sameL_enc _ _
theorem unch_enc (m : List (Nat × Nat)) (f : Nat → Nat) (sub : HeapS) (x : Nat × ObS) : unch m f (encH sub) (x.1, x.2.enc) = unchS m f sub x := by
  unfold unch unchS
  cases lkN m x.1 with
  | none => rfl
  | some old =>
    simp only [lk_encH]
    cases lk sub old with
    | none => rfl
    | some o => simp only [Option.map_some, ObS.ren_enc, ObS.same_enc]
theorem newK_enc (m : List (Nat × Nat)) (f : Nat → Nat) (sub h : HeapS) : newK m f (encH sub) (encH h) = encH (newKS m f sub h) := by
  unfold newK newKS encH
  rw [List.filter_map]
  congr 1
  refine List.filter_congr fun x _ => ?_
  have := unch_enc m f sub x
  rw [encH] at this
  simp only [Function.comp, this]
theorem subK_enc (m : List (Nat × Nat)) (f : Nat → Nat) (h sub : HeapS) : subK m f (encH h) (encH sub) = encH (subKS m f h sub) := by
  unfold subK subKS encH
  rw [List.filter_map]
  congr 1
  refine List.filter_congr fun y _ => ?_
  simp only [Function.comp, List.any_map]
  congr 2
  funext x
  have := unch_enc m f sub x
  rw [encH] at this
  simp only [Function.comp, this]
theorem deep_enc (ds : List DS) : ∀ h : HeapS, deep (DS.encs ds) (encH h) = DS.encs (deepS ds h)
  | [] => rfl
  | (k, o) :: r => by
    have ih := deep_enc ds r
    show deep (DS.encs ds) ((k, o.enc) :: encH r) = _
    unfold deep deepS
    rw [ih, DS.refsL_enc]
    cases hc : (DS.refsL ds).contains k with
    | true => rfl
    | false =>
      rw [if_neg (by simp), cond_false]
      cases o <;> rfl
theorem sameG_enc : ∀ {a b : List DS}, sameGS a b = true → sameG (DS.encs a) (DS.encs b) = true := by
  intro a
  induction a with
  | nil => intro b h; cases b with
    | nil => rfl
    | cons x q => cases x <;> cases h
  | cons d r ih =>
    intro b h
    cases b with
    | nil => cases d <;> cases h
    | cons x q =>
      cases d <;> cases x <;> first | (cases h; done) | skip
      all_goals
        simp only [sameGS, Bool.and_eq_true] at h
        simp only [DS.encs, DS.enc, sameG, Bool.and_eq_true]
        exact ⟨h.1, ih h.2⟩

/-! ### Patterns -/
mutual
theorem PV.bd_enc : ∀ (p : PV) (u : S) (x : p.den), p.mt u = some x → (p.bd x).enc = u.enc
  | .s sh, u, x, h => by
    replace h : sh.prj u = some x := h
    exact (inj_enc sh x).trans (prj_enc h).symm
  | .cp ps, u, x, h => by
    obtain ⟨l, h1, h2⟩ := Option.bind_eq_some_iff.1 h
    cases u <;> simp only [cpU, reduceCtorEq, Option.some.injEq] at h1
    subst h1
    have := bdV_enc ps _ x h2
    show V.cp (S.encs (bdV ps x)) = _
    rw [this]; rfl
  | .fn v ps, u, x, h => by
    obtain ⟨l, h1, h2⟩ := Option.bind_eq_some_iff.1 h
    cases u <;> simp only [fnU, reduceCtorEq] at h1
    rename_i v' caps
    cases hb : v' == v with
    | false => rw [hb] at h1; cases h1
    | true =>
      rw [hb] at h1; injection h1 with h1; subst h1
      have := bdV_enc ps _ x h2
      show V.fn v (S.encs (bdV ps x)) = _
      rw [this, eq_of_beq hb]; rfl
  | .nl k, u, x, h => by
    replace h : nlU k u = some x := h
    cases u <;> simp only [nlU, reduceCtorEq] at h
    rename_i k'
    cases hb : k' == k with
    | false => rw [hb] at h; cases h
    | true => rw [eq_of_beq hb]; rfl
  | .e sz, u, x, h => by
    replace h : eU sz u = some x := h
    unfold eU at h
    split at h
    · rename_i n
      cases hb : n == sz with
      | false => rw [hb] at h; cases h
      | true => rw [eq_of_beq hb]; rfl
    · cases h
  | .ki k c, u, x, h => by
    replace h : kiU k c u = some x := h
    cases u <;> simp only [kiU, reduceCtorEq] at h
    rename_i k' n
    cases hb : (decide (k' = k) && decide (n = c)) with
    | false => rw [hb] at h; cases h
    | true =>
      rw [Bool.and_eq_true, decide_eq_true_eq, decide_eq_true_eq] at hb
      rw [hb.1, hb.2]; rfl
  | .kb c, u, x, h => by
    replace h : kbU c u = some x := h
    cases u <;> simp only [kbU, reduceCtorEq] at h
    rename_i t
    cases hb : t == c with
    | false => rw [hb] at h; cases h
    | true => rw [eq_of_beq hb]; rfl
  | .ks c, u, x, h => by
    replace h : ksU c u = some x := h
    cases u <;> simp only [ksU, reduceCtorEq] at h
    rename_i t
    cases hb : decide (t = c) with
    | false => rw [hb] at h; cases h
    | true => rw [of_decide_eq_true hb]; rfl
  | .fv ps, u, x, h => by
    obtain ⟨l, h1, h2⟩ := Option.bind_eq_some_iff.1 h
    obtain ⟨y, h4, h3⟩ := Option.bind_eq_some_iff.1 h2
    injection h3 with h3; subst h3
    cases u <;> simp only [fvU, reduceCtorEq, Option.some.injEq] at h1
    subst h1
    have := bdV_enc ps _ y h4
    show V.fn _ (S.encs (bdV ps y)) = _
    rw [this]; rfl
  | .fa, u, x, h => by
    replace h : fvU u = some x := h
    cases u <;> simp only [fvU, reduceCtorEq] at h
    injection h with h; subst h; rfl
theorem bdV_enc : ∀ (ps : List PV) (us : List S) (x : denV ps), mtV ps us = some x → S.encs (bdV ps x) = S.encs us
  | [], us, x, h => by rw [(nilS_eq h).1]; rfl
  | p :: r, us, x, h => by
    obtain ⟨y, h1, h⟩ := Option.bind_eq_some_iff.1 h
    obtain ⟨a, h2, h⟩ := Option.bind_eq_some_iff.1 h
    obtain ⟨b, h3, h⟩ := Option.bind_eq_some_iff.1 h
    injection h with h; subst h
    rw [headS_eq h1]
    show (p.bd a).enc :: S.encs (bdV r b) = y.1.enc :: S.encs y.2
    rw [PV.bd_enc p _ _ h2, bdV_enc r _ _ h3]
end
theorem headD_eq {us : List DS} {x : DS × List DS} (h : headD us = some x) : us = x.1 :: x.2 := by
  cases us with
  | nil => cases h
  | cons u r => injection h with h; subst h; rfl
theorem nilD_eq {α : Type} {a b : α} {us : List DS} (h : nilD a us = some b) : us = [] ∧ a = b := by
  cases us with
  | nil => injection h with h; exact ⟨rfl, h⟩
  | cons u r => cases h
mutual
theorem PD.bd_enc : ∀ (p : PD) (d : DS) (x : p.den), p.mt d = some x → (p.bd x).enc = d.enc
  | .p v, d, x, h => by
    obtain ⟨u, h1, h2⟩ := Option.bind_eq_some_iff.1 h
    cases d <;> simp only [pU, reduceCtorEq, Option.some.injEq] at h1
    subst h1
    show D.p (v.bd x).enc = _
    rw [PV.bd_enc v _ x h2]; rfl
  | .mp k, d, x, h => by
    replace h : mpUD k d = some x := h
    cases d <;> simp only [mpUD, reduceCtorEq] at h
    rename_i k'
    cases hb : k' == k with
    | false => rw [hb] at h; cases h
    | true => rw [eq_of_beq hb]; rfl
  | .own k, d, x, h => by
    replace h : ownU k d = some x := h
    cases d <;> simp only [ownU, reduceCtorEq] at h
    rename_i k'
    cases hb : k' == k with
    | false => rw [hb] at h; cases h
    | true => rw [eq_of_beq hb]; rfl
  | .arr k ap, d, x, h => by
    replace h : arrU k ap d = some x := h
    cases d <;> simp only [arrU, reduceCtorEq] at h
    rename_i k' off len ap'
    cases hb : (k' == k && ap' == ap) with
    | false => rw [hb] at h; cases h
    | true =>
      rw [hb] at h; injection h with h; subst h
      rw [Bool.and_eq_true] at hb
      rw [← eq_of_beq hb.1, ← eq_of_beq hb.2]; rfl
  | .ptr k off, d, x, h => by
    replace h : ptrU k off d = some x := h
    cases d <;> simp only [ptrU, reduceCtorEq] at h
    rename_i k' off'
    cases hb : (k' == k && off' == off) with
    | false => rw [hb] at h; cases h
    | true =>
      rw [Bool.and_eq_true] at hb
      rw [← eq_of_beq hb.1, ← eq_of_beq hb.2]; rfl
  | .ep k off, d, x, h => by
    replace h : epU k off d = some x := h
    cases d <;> simp only [epU, reduceCtorEq] at h
    rename_i k' i off'
    cases hb : (k' == k && off' == off) with
    | false => rw [hb] at h; cases h
    | true =>
      rw [hb] at h; injection h with h; subst h
      rw [Bool.and_eq_true] at hb
      rw [← eq_of_beq hb.1, ← eq_of_beq hb.2]; rfl
  | .agg ps, d, x, h => by
    obtain ⟨l, h1, h2⟩ := Option.bind_eq_some_iff.1 h
    cases d <;> simp only [aggU, reduceCtorEq, Option.some.injEq] at h1
    subst h1
    show D.agg (DS.encs (bdD ps x)) = _
    rw [bdD_enc ps _ x h2]; rfl
  | .fn v ps, d, x, h => by
    obtain ⟨l, h1, h2⟩ := Option.bind_eq_some_iff.1 h
    cases d <;> simp only [dfnU, reduceCtorEq] at h1
    rename_i v' caps
    cases hb : v' == v with
    | false => rw [hb] at h1; cases h1
    | true =>
      rw [hb] at h1; injection h1 with h1; subst h1
      show D.fn v (DS.encs (bdD ps x)) = _
      rw [bdD_enc ps _ x h2, eq_of_beq hb]; rfl
  | .und, d, x, h => by
    replace h : undU d = some x := h
    cases d <;> simp only [undU, reduceCtorEq] at h
    rfl
  | .fv ps, d, x, h => by
    obtain ⟨l, h1, h2⟩ := Option.bind_eq_some_iff.1 h
    obtain ⟨y, h4, h3⟩ := Option.bind_eq_some_iff.1 h2
    injection h3 with h3; subst h3
    cases d <;> simp only [dfvU, reduceCtorEq, Option.some.injEq] at h1
    subst h1
    show D.fn _ (DS.encs (bdD ps y)) = _
    rw [bdD_enc ps _ y h4]; rfl
theorem bdD_enc : ∀ (ps : List PD) (us : List DS) (x : denD ps), mtD ps us = some x → DS.encs (bdD ps x) = DS.encs us
  | [], us, x, h => by rw [(nilD_eq h).1]; rfl
  | p :: r, us, x, h => by
    obtain ⟨y, h1, h⟩ := Option.bind_eq_some_iff.1 h
    obtain ⟨a, h2, h⟩ := Option.bind_eq_some_iff.1 h
    obtain ⟨b, h3, h⟩ := Option.bind_eq_some_iff.1 h
    injection h with h; subst h
    rw [headD_eq h1]
    show (p.bd a).enc :: DS.encs (bdD r b) = y.1.enc :: DS.encs y.2
    rw [PD.bd_enc p _ _ h2, bdD_enc r _ _ h3]
end
theorem emE_eq {sz : Nat} {e : EL} {x : Unit} (h : emE sz e = some x) : e = .e sz := by
  cases e with
  | t es xs => cases h
  | e n =>
    simp only [emE] at h
    cases hb : n == sz with
    | false => rw [hb] at h; cases h
    | true => rw [eq_of_beq hb]
theorem PO.bd_enc : ∀ (p : PO) (o : ObS) (x : p.den), p.mt o = some x → (p.bd x).enc = o.enc
  | .box ps, o, x, h => by
    obtain ⟨l, h1, h2⟩ := Option.bind_eq_some_iff.1 h
    cases o <;> simp only [boxU, reduceCtorEq, Option.some.injEq] at h1
    subst h1
    show Ob.box (DS.encs (bdD ps x)) = _
    rw [bdD_enc ps _ x h2]; rfl
  | .arr es, o, x, h => by
    obtain ⟨l, h1, h2⟩ := Option.bind_eq_some_iff.1 h
    cases o <;> simp only [arrO, reduceCtorEq, Option.some.injEq] at h1
    subst h1
    have := EL.as_enc h2
    show Ob.arr es.length (List.map (encL es) x) = Ob.arr _ _
    rw [this.1, this.2]
  | .frz es, o, x, h => by
    obtain ⟨l, h1, h2⟩ := Option.bind_eq_some_iff.1 h
    cases o <;> simp only [frzO, reduceCtorEq, Option.some.injEq] at h1
    subst h1
    have := EL.as_enc h2
    show Ob.frz es.length (List.map (encL es) x) = Ob.frz _ _
    rw [this.1, this.2]
  | .em sz, o, x, h => by
    obtain ⟨l, h1, h2⟩ := Option.bind_eq_some_iff.1 h
    cases o <;> simp only [arrO, reduceCtorEq, Option.some.injEq] at h1
    subst h1
    rw [emE_eq h2]; rfl
  | .emf sz, o, x, h => by
    obtain ⟨l, h1, h2⟩ := Option.bind_eq_some_iff.1 h
    cases o <;> simp only [frzO, reduceCtorEq, Option.some.injEq] at h1
    subst h1
    rw [emE_eq h2]; rfl
  | .fbx ps, o, x, h => by
    obtain ⟨l, h1, h2⟩ := Option.bind_eq_some_iff.1 h
    cases o <;> simp only [fbxU, reduceCtorEq, Option.some.injEq] at h1
    subst h1
    show Ob.fbx (S.encs (bdV ps x)) = _
    rw [bdV_enc ps _ x h2]; rfl
  | .mp ks vs, o, x, h => by
    replace h : mpU ks vs o = some x := h
    unfold mpU at h
    split at h
    · rename_i ks' vs' c xs
      split at h
      · rename_i h1
        split at h
        · rename_i h2
          have e1 := Sh.beq_eq _ _ h1
          have e2 := Sh.beq_eq _ _ h2
          subst e1 e2
          injection h with h; subst h; rfl
        · cases h
      · cases h
    · cases h
  | .dead, o, x, h => by
    replace h : deadU o = some x := h
    cases o <;> simp only [deadU, reduceCtorEq] at h
    rfl
theorem headN_eq {α : Type} {n : Nat} {us : List (Nat × α)} {x : α × List (Nat × α)} (h : headN n us = some x) : us = (n, x.1) :: x.2 := by
  cases us with
  | nil => cases h
  | cons u r =>
    simp only [headN] at h
    cases hb : u.1 == n with
    | false => rw [hb] at h; cases h
    | true => rw [hb] at h; injection h with h; subst h; rw [← eq_of_beq hb]
theorem nilN_eq {α β : Type} {a b : β} {us : List (Nat × α)} (h : nilN a us = some b) : us = [] ∧ a = b := by
  cases us with
  | nil => injection h with h; exact ⟨rfl, h⟩
  | cons u r => cases h
theorem bdH_enc : ∀ (ps : List (Nat × PO)) (us : HeapS) (x : denH ps), mtH ps us = some x → encH (bdH ps x) = encH us
  | [], us, x, h => by rw [(nilN_eq h).1]; rfl
  | p :: r, us, x, h => by
    obtain ⟨y, h1, h⟩ := Option.bind_eq_some_iff.1 h
    obtain ⟨a, h2, h⟩ := Option.bind_eq_some_iff.1 h
    obtain ⟨b, h3, h⟩ := Option.bind_eq_some_iff.1 h
    injection h with h; subst h
    rw [headN_eq h1]
    have e1 := PO.bd_enc p.2 _ _ h2
    have e2 := bdH_enc r _ _ h3
    simp only [encH, List.map_cons, bdH] at e2 ⊢
    rw [e1, e2]
theorem bdE_enc : ∀ (ps : List (Nat × PD)) (us : EnvS) (x : denE ps), mtE ps us = some x → encE (bdE ps x) = encE us
  | [], us, x, h => by rw [(nilN_eq h).1]; rfl
  | p :: r, us, x, h => by
    obtain ⟨y, h1, h⟩ := Option.bind_eq_some_iff.1 h
    obtain ⟨a, h2, h⟩ := Option.bind_eq_some_iff.1 h
    obtain ⟨b, h3, h⟩ := Option.bind_eq_some_iff.1 h
    injection h with h; subst h
    rw [headN_eq h1]
    have e1 := PD.bd_enc p.2 _ _ h2
    have e2 := bdE_enc r _ _ h3
    simp only [encE, List.map_cons, bdE] at e2 ⊢
    rw [e1, e2]
theorem SP.bd_enc {P : SP} {s : StS} {x : P.den} (h : P.mt s = some x) : (P.bd x).enc = s.enc := by
  obtain ⟨a, h1, h⟩ := Option.bind_eq_some_iff.1 h
  obtain ⟨b, h2, h⟩ := Option.bind_eq_some_iff.1 h
  injection h with h; subst h
  simp only [SP.bd, StS.enc, bdE_enc _ _ _ h1, bdH_enc _ _ _ h2]
theorem AP.bd_enc {P : AP} {ds : List DS} {hp : HeapS} {x : P.den} (h : P.mt ds hp = some x) : DS.encs (bdD P.ds x.1) = DS.encs ds ∧ encH (bdH P.heap x.2) = encH hp := by
  obtain ⟨a, h1, h⟩ := Option.bind_eq_some_iff.1 h
  obtain ⟨b, h2, h⟩ := Option.bind_eq_some_iff.1 h
  injection h with h; subst h
  exact ⟨bdD_enc _ _ _ h1, bdH_enc _ _ _ h2⟩
theorem nrmS_enc {R : Type} {k : StS → Option R} {r : R} {s : StS} : ∀ {X : List SP}, nrmS X s k = some r → ∃ s', s.enc = s'.enc ∧ k s' = some r
  | [], h => ⟨s, rfl, h⟩
  | P :: X, h => by
    unfold nrmS at h
    split at h
    · rename_i x hx; exact ⟨P.bd x, (SP.bd_enc hx).symm, h⟩
    · exact nrmS_enc h
theorem nrmA_enc {R : Type} {k : List DS → HeapS → Option R} {r : R} {ds : List DS} {hp : HeapS} : ∀ {X : List AP}, nrmA X ds hp k = some r → ∃ ds' h', DS.encs ds = DS.encs ds' ∧ encH hp = encH h' ∧ k ds' h' = some r
  | [], h => ⟨ds, hp, rfl, rfl, h⟩
  | P :: X, h => by
    unfold nrmA at h
    split at h
    · rename_i x hx
      have := AP.bd_enc hx
      exact ⟨_, _, this.1.symm, this.2.symm, h⟩
    · exact nrmA_enc h
end Am
end Go.Proofs.YtfdmmnfjdifccaaGreatDoor
