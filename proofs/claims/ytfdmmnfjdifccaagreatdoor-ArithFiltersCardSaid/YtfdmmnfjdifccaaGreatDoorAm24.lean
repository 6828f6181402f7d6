/- Functions, to their ends. -/
import Derived.Test.YtfdmmnfjdifccaaGreatDoorAm23
set_option linter.unusedVariables false
set_option linter.unusedSimpArgs false
namespace Go.Proofs.YtfdmmnfjdifccaaGreatDoor
namespace Am

mutual
theorem ren_id : ∀ d : D, (d.ren fun k => k) = d
  | .p u => rfl
  | .own k => rfl
  | .arr k off len ap => rfl
  | .ptr k off => rfl
  | .ep k i off => rfl
  | .mp k => rfl
  | .fn v caps => by simp only [D.ren, renL_id caps]
  | .ifc t a xs => by simp only [D.ren, renL_id xs]
  | .agg xs => by simp only [D.ren, renL_id xs]
  | .tup xs => by simp only [D.ren, renL_id xs]
  | .und => rfl
theorem renL_id : ∀ ds : List D, D.renL (fun k => k) ds = ds
  | [] => rfl
  | d :: ds => by simp only [D.renL, ren_id d, renL_id ds]
end

theorem params_lk : ∀ (ds : List D) (i : Nat) (e : Env) (t : Nat) (d : D), lk (params i ds e) t = some d → (∃ h : t - i < ds.length, i ≤ t ∧ ds[t - i] = d) ∨ ((t < i ∨ i + ds.length ≤ t) ∧ lk e t = some d)
  | [], i, e, t, d, hl => .inr ⟨by simp; omega, hl⟩
  | x :: ds, i, e, t, d, hl => by
    unfold params at hl
    rw [lk_cons] at hl
    split at hl
    · rename_i he
      subst he
      injection hl with hl
      exact .inl ⟨by simp, Nat.le_refl _, by simpa using hl⟩
    · rename_i he
      rcases params_lk ds (i + 1) e t d hl with ⟨h1, h2, h3⟩ | ⟨h1, h2⟩
      · refine .inl ⟨by simp; omega, by omega, ?_⟩
        have : t - i = (t - (i + 1)) + 1 := by omega
        simp only [this, List.getElem_cons_succ]
        exact h3
      · exact .inr ⟨by simp; omega, h2⟩

theorem hide_lk : ∀ (ds : List D) (i : Nat) (t : Nat) (d : D), lk (hide i ds) t = some d → ∃ h : t - (100000 + i) < ds.length, 100000 + i ≤ t ∧ ds[t - (100000 + i)] = d
  | [], i, t, d, hl => by cases hl
  | x :: ds, i, t, d, hl => by
    have rest : lk (hide (i + 1) ds) t = some d → ∃ h : t - (100000 + i) < (x :: ds).length, 100000 + i ≤ t ∧ (x :: ds)[t - (100000 + i)] = d := by
      intro hl
      obtain ⟨h1, h2, h3⟩ := hide_lk ds (i + 1) t d hl
      refine ⟨by simp; omega, by omega, ?_⟩
      have : t - (100000 + i) = (t - (100000 + (i + 1))) + 1 := by omega
      simp only [this, List.getElem_cons_succ]
      exact h3
    unfold hide at hl
    split at hl
    · exact rest hl
    · rw [lk_cons] at hl
      split at hl
      · rename_i he
        subst he
        injection hl with hl
        exact ⟨by simp, Nat.le_refl _, by simpa using hl⟩
      · exact rest hl

theorem hide_get : ∀ (ds : List D) (i j : Nat) (hj : j < ds.length), (ds[j]).refs ≠ [] → lk (hide i ds) (100000 + i + j) = some ds[j]
  | [], i, j, hj, _ => by simp at hj
  | x :: ds, i, j, hj, hn => by
    unfold hide
    cases j with
    | zero =>
      simp only [List.getElem_cons_zero] at hn ⊢
      rw [if_neg (by simpa using hn), lk_cons, if_pos (by omega)]
    | succ j =>
      have := hide_get ds (i + 1) j (by simpa using hj) hn
      rw [show 100000 + (i + 1) + j = 100000 + i + (j + 1) from by omega] at this
      split
      · exact this
      · rw [lk_cons, if_neg (by omega)]
        exact this

theorem hide_refs : ∀ (ds : List D) (i : Nat), D.refsL ((hide i ds).map (·.2)) = D.refsL ds
  | [], i => rfl
  | x :: ds, i => by
    unfold hide
    split
    · rename_i he
      have : x.refs = [] := by simpa using he
      simp only [D.refsL, this, List.nil_append]
      exact hide_refs ds (i + 1)
    · simp only [List.map_cons, D.refsL, hide_refs ds (i + 1)]

theorem hide_hidden : ∀ (ds : List D) (i : Nat), hidden (hide i ds) = hide i ds
  | [], i => rfl
  | x :: ds, i => by
    unfold hide
    split
    · exact hide_hidden ds (i + 1)
    · have := hide_hidden ds (i + 1)
      unfold hidden at this ⊢
      rw [List.filter_cons, if_pos (by simp), this]

theorem params_hidden : ∀ (ds : List D) (i : Nat) (e : Env), i + ds.length ≤ 100000 → hidden (params i ds e) = hidden e
  | [], i, e, _ => rfl
  | x :: ds, i, e, hle => by
    have := params_hidden ds (i + 1) e (by simp at hle; omega)
    unfold params
    unfold hidden at this ⊢
    rw [List.filter_cons, if_neg (by simp at hle ⊢; omega)]
    exact this

section
variable {P : Program} {fo : Fo} {vm : FuncId → Nat} {vmode : Nat → List Nat} {φ : Lay} {Im : Nat → Prop} {w : World} {h : Heap} {a : Act} {av : List Value} {e : Env} {F : Cf}

theorem oneRes_rep {ds : List D} {vs : List Value} (hr : RepDs fo φ Im w ds vs) : RepD fo φ Im w (oneRes ds) (oneV vs) := by
  obtain ⟨hl, hr⟩ := hr
  match ds, vs with
  | [], [] => exact .tup [] [] rfl (fun i hi => absurd hi (by simp))
  | [d], [v] => exact hr 0 (by simp) (by simp)
  | d :: d' :: ds, v :: v' :: vs => exact .tup _ _ hl hr
  | [], _ :: _ => simp at hl
  | _ :: _, [] => simp at hl
  | [_], _ :: _ :: _ => simp at hl
  | _ :: _ :: _, [_] => simp at hl

theorem ver_sound (hF : CallsOK P fo F) (hfo : ∀ f, fo (vm f) = some f) (hD : DrawsOK P vm vmode fo F) {hint : Hint} {ver : Ver} (hc : cVer P vm vmode fo hint ver.fid ver.own = some ver) {n : Nat} {ds : List D} {roots : List Nat} {res : List D} {h2 : Heap}
    (hr : verF F n ver ds h = some (roots, res, h2)) {args gv : List Value} (hs : HS fo φ Im w h) (hrep0 : RepDs fo φ Im w ds args) (hgv : RepDs fo φ Im w (deep ds h) gv) : Lands P (callFunc ver.fid args.toArray) w (CallPost fo φ Im w h (ds ++ deep ds h) (args ++ gv) roots res h2) := by
  have hrep : RepDs fo φ Im w (ds ++ deep ds h) (args ++ gv) := RepDs_app hrep0 hgv
  unfold cVer at hc
  obtain ⟨fn, hfn, hc⟩ := Option.bind_eq_some_iff.1 hc
  obtain ⟨body, hbody, hc⟩ := Option.bind_eq_some_iff.1 hc
  split at hc
  case isFalse => cases hc
  rename_i hok
  obtain ⟨hname, h5, hnp⟩ := hok
  obtain ⟨x, hx, hc⟩ := Option.bind_eq_some_iff.1 hc
  obtain ⟨rs, hrs, hver⟩ := Option.map_eq_some_iff.1 hc
  have hcode : ver.code = keeps fn.ntmps hint.jn x.1 1 (resSlots rs) (fun _ => 0) (resSlots rs) := by rw [← hver]
  have hres : ver.res = rs := by rw [← hver]
  have hvnp : ver.np = fn.params.size + fn.nfree := by rw [← hver]
  have hof : Of P vm vmode fo fn.ntmps body ver.code := by rw [hcode]; exact keeps_of h5 (cCode_of _ _ _ hx) _ _ _ _
  unfold verF at hr
  split at hr
  case isFalse => cases hr
  rename_i hlen
  obtain ⟨⟨ex, s'⟩, hev, hout⟩ := Option.bind_eq_some_iff.1 hr
  have hdl : ds.length ≤ 100000 := by rw [hlen, hvnp]; exact hnp
  have henter : (callFunc ver.fid args.toArray).run P w = .ok (.enter ver.fid args.toArray) w := by
    have h1 : fn.name ≠ "runtime.NumGoroutine" := by simpa using hname
    simp [callFunc, hfn, h1, hbody]
  unfold Lands
  rw [henter]
  refine calls_of_wp hfn hbody ?_
  have hinv : Inv fo w (Own φ h) Im (ds ++ deep ds h) (args ++ gv) fn.ntmps { env := params 0 ds (hide 0 (ds ++ deep ds h)), heap := h } { tmps := args.toArray ++ Array.replicate (fn.ntmps - args.toArray.size) undef, defers := [] } w := by
    refine ⟨φ, Im, .refl hs, fun t d hl => ?_, rfl, by simp; omega, fun k => k, ?_⟩
    · rcases params_lk ds 0 _ t d hl with ⟨q1, _, q3⟩ | ⟨q1, q2⟩
      · simp only [Nat.sub_zero] at q1 q3
        have ht : t < args.length := by rw [← hrep0.1]; exact q1
        refine ⟨args[t], ?_, by rw [← q3]; exact hrep0.2 t q1 ht⟩
        rw [if_pos (by omega)]
        show (args.toArray ++ Array.replicate (fn.ntmps - args.toArray.size) undef)[t]? = some args[t]
        rw [Array.getElem?_append_left (by simpa using ht), List.getElem?_toArray, List.getElem?_eq_getElem ht]
      · obtain ⟨p1, p2, p3⟩ := hide_lk (ds ++ deep ds h) 0 t d q2
        simp only [Nat.add_zero] at p1 p2 p3
        have ht : t - 100000 < (args ++ gv).length := by rw [← hrep.1]; exact p1
        refine ⟨(args ++ gv)[t - 100000], ?_, by rw [← p3]; exact hrep.2 _ p1 ht⟩
        rw [if_neg (by omega), List.getElem?_eq_getElem ht]
    · show hidden (params 0 ds (hide 0 (ds ++ deep ds h))) = _
      rw [params_hidden ds 0 _ (by omega), hide_hidden]
      have : (fun x : Nat × D => (x.1, x.2.ren fun k => k)) = id := by
        funext x
        simp [ren_id]
      rw [this, List.map_id]
  refine evC_sound hF hfo hD h5 hof n _ ex s' hev _ w hinv _ fun a1 w1 hi => ?_
  obtain ⟨φ1, Im1, hfr, he, hd0, hsz, g0, hg0⟩ := hi
  have hout' : ((resO ver.own ver.res .ret).run F s').bind endK = some (roots, res, h2) ∧ (exitOf ex = .normal ∨ exitOf ex = .ret) := by
    cases ex with
    | nrm => exact ⟨hout, .inl rfl⟩
    | ret => exact ⟨hout, .inr rfl⟩
    | ex id => cases hout
  obtain ⟨hout', hex⟩ := hout'
  obtain ⟨⟨dr, s2⟩, hrun, hend⟩ := Option.bind_eq_some_iff.1 hout'
  obtain ⟨e1, h1⟩ := s'
  obtain ⟨dr', Im2, h2', vs, z1, z2, z3, z4⟩ := resO_sound (P := P) (fo := fo) (φ := φ1) (w := w1) (a := a1) (av := args ++ gv) (e := e1) (F := F) (own := ver.own) (fun t v hv => by rw [Array.getD_eq_getD_getElem?, hv]; rfl) fn.results.toList ver.res (by rw [hres]; exact hrs) hfr.hs he hrun
  injection z1 with z1
  injection z1 with z1 z1'
  subst z1 z1'
  have hfr2 := hfr.trans z2.fr
  have he2 : ER fo φ1 Im2 w1 a1 (args ++ gv) e1 := he.stp hfr.hs z2
  obtain ⟨⟨cs, hcan⟩, hc1, hc2⟩ := Option.bind_eq_some_iff.1 hend
  obtain ⟨ks, hnd, kin, kclo, rfl, kget, khc⟩ := canon_spec hc1
  injection hc2 with hc2
  injection hc2 with c1 c2
  injection c2 with c2 c3
  subst c3
  simp only [renL_eq] at c1 c2
  have htake : (List.map (D.ren (idx ks)) ((hidden e1).map (·.2) ++ dr')).take (hidden e1).length = ((hidden e1).map (·.2)).map (D.ren (idx ks)) := by
    rw [List.map_append, List.take_append_of_le_length (by simp), List.take_of_length_le (by simp)]
  have hdrop : (List.map (D.ren (idx ks)) ((hidden e1).map (·.2) ++ dr')).drop (hidden e1).length = dr'.map (D.ren (idx ks)) := by
    rw [List.map_append, List.drop_append_of_le_length (by simp), List.drop_of_length_le (by simp), List.nil_append]
  have c1' : roots = D.refsL (((hidden e1).map (·.2)).map (D.ren (idx ks))) := by rw [← c1, ← htake]
  have c2' : res = dr'.map (D.ren (idx ks)) := by rw [← c2, ← hdrop]
  obtain ⟨hsc, hown⟩ := HS.canon hfr2.hs hnd kclo kget khc
  have hpost : CallPost fo φ Im w h (ds ++ deep ds h) (args ++ gv) roots res hcan (oneV vs) w1 := by
    refine ⟨layC φ1 ks, Im2, fun k => idx ks (g0 k), ⟨hsc, hfr2.im, hfr2.frame, fun g hg => hfr2.own g ?_, hfr2.imnew, hfr2.size, hfr2.os, hfr2.tape, hfr2.output⟩, ?_, ?_, ⟨by rw [renL_eq]; simpa using hrep.1, fun i hi hi' => ?_⟩, fun x hx => (khc x hx).2⟩
    · obtain ⟨k, o, l, _, q⟩ := hown g hg
      exact ⟨k, o, l, q⟩
    · rw [c2', ← renL_eq]
      refine oneRes_rep (z3.ren fun q hq => layC_idx (kin q ?_))
      obtain ⟨d, d1, d2⟩ := refsL_mem.1 hq
      exact refsL_mem.2 ⟨d, List.mem_append_right _ d1, d2⟩
    · rw [c1', ← renL_eq, refsL_ren, hg0, List.map_map]
      have : List.map ((fun x : Nat × D => x.2) ∘ fun x : Nat × D => (x.1, x.2.ren g0)) (hide 0 (ds ++ deep ds h)) = D.renL g0 ((hide 0 (ds ++ deep ds h)).map (·.2)) := by
        rw [renL_eq, List.map_map]
        rfl
      rw [this, refsL_ren, hide_refs, List.map_map]
      rfl
    · have hi2 : i < (ds ++ deep ds h).length := by simpa [renL_eq] using hi
      simp only [renL_eq, List.getElem_map]
      by_cases hn : ((ds ++ deep ds h)[i]).refs = []
      · refine RepD.ren (φ := φ) ?_ (fun k hk => by rw [hn] at hk; cases hk)
        exact (hrep.2 i hi2 hi').mono (fun _ _ h => h) hfr2.im (fun g hg => hfr2.imold hs.imb (fun g hg ho => hs.imm g ho hg) g hg)
      · have hl : lk (hidden e1) (100000 + i) = some (((ds ++ deep ds h)[i]).ren g0) := by
          rw [hg0]
          have q1 := hide_get (ds ++ deep ds h) 0 i hi2 hn
          have q2 : ∀ (L : Env) (t : Nat), lk (L.map fun x => (x.1, x.2.ren g0)) t = (lk L t).map (D.ren g0) := by
            intro L
            induction L with
            | nil => intro t; rfl
            | cons x L ih =>
              intro t
              obtain ⟨k, d⟩ := x
              simp only [List.map_cons, lk_cons]
              split
              · rfl
              · exact ih t
          rw [q2, show 100000 + i = 100000 + 0 + i from by omega, q1]
          rfl
        obtain ⟨v, v1, v2⟩ := he2 _ _ (lk_filter (p := fun k => decide (100000 ≤ k)) hl)
        rw [if_neg (by omega), show 100000 + i - 100000 = i from by omega, List.getElem?_eq_getElem hi'] at v1
        injection v1 with v1
        subst v1
        have := v2.ren (φ' := layC φ1 ks) (f := idx ks) (fun q hq => layC_idx (kin q (refsL_mem.2 ⟨_, List.mem_append_left _ (List.mem_map.2 ⟨_, lk_mem hl, rfl⟩), hq⟩)))
        rw [ren_ren] at this
        exact this
  have hb : a1.defers = [] ∧ ∃ v, (results fn a1.tmps).run P w1 = .ok v w1 ∧ ∃ v', Ending.returned v = .returned v' ∧ CallPost fo φ Im w h (ds ++ deep ds h) (args ++ gv) roots res hcan v' w1 := ⟨hd0, _, results_run z4, _, rfl, hpost⟩
  rcases hex with hex | hex
  · rw [hex]; exact hb
  · rw [hex]; exact hb

structure TabOK (P : Program) (vm : FuncId → Nat) (vmode : Nat → List Nat) (fo : Fo) (T : Tab) : Prop where
  ver : ∀ v ver, T.ver v = some ver → ∃ hint, cVer P vm vmode fo hint ver.fid ver.own = some ver
  fid : ∀ v ver f, T.ver v = some ver → fo v = some f → ver.fid = f
  ext : ∀ v f ds h roots res h2, T.ver v = none → fo v = some f → T.ext v ds h = some (roots, res, h2) →
    deep ds h = [] ∧ ∀ φ Im w args, HS fo φ Im w h → RepDs fo φ Im w ds args → Lands P (callFunc f args.toArray) w (CallPost fo φ Im w h ds args roots res h2)

theorem evF_sound (hfo : ∀ f, fo (vm f) = some f) {T : Tab} (hT : TabOK P vm vmode fo T) (hD : ∀ F, CallsOK P fo F → DrawsOK P vm vmode fo F) : ∀ n, CallsOK P fo (evF T n)
  | 0 => fun v f ds h roots res h2 hv hr => by cases hr
  | n + 1 => fun v f ds h roots res h2 hv hr φ Im w args gv hs hrep hgv => by
    unfold evF at hr
    cases hver : T.ver v with
    | none =>
      rw [hver] at hr
      obtain ⟨hd, he⟩ := hT.ext v f ds h roots res h2 hver hv hr
      rw [hd] at hgv ⊢
      have : gv = [] := List.eq_nil_of_length_eq_zero hgv.1.symm
      rw [this, List.append_nil, List.append_nil]
      exact he φ Im w args hs hrep
    | some ver =>
      rw [hver] at hr
      obtain ⟨hint, hc⟩ := hT.ver v ver hver
      have hF := evF_sound hfo hT hD n
      have := hT.fid v ver f hver hv
      subst this
      exact ver_sound hF hfo (hD _ hF) hc hr hs hrep hgv

theorem runF_sound (hfo : ∀ f, fo (vm f) = some f) {T : Tab} (hT : TabOK P vm vmode fo T) (hD : ∀ F, CallsOK P fo F → DrawsOK P vm vmode fo F) : CallsOK P fo (runF T) := by
  intro v f ds h roots res h2 hv hr
  obtain ⟨n, hn⟩ := runF_some.1 hr
  exact evF_sound hfo hT hD n v f ds h roots res h2 hv hn
end
end Am
end Go.Proofs.YtfdmmnfjdifccaaGreatDoor
