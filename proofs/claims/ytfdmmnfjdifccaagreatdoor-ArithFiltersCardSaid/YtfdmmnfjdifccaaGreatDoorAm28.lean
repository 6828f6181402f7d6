/- Regions whose order is open: every order comes to the same. -/
import Derived.Test.YtfdmmnfjdifccaaGreatDoorAm27
set_option linter.unusedVariables false
set_option linter.unusedSimpArgs false
namespace Go.Proofs.YtfdmmnfjdifccaaGreatDoor
namespace Am
section
variable {P : Program} {fo : Fo} {vm : FuncId → Nat} {vmode : Nat → List Nat} {F : Cf} {w0 : World} {Own0 Im0 : Nat → Prop} {nt : Nat} {args : List D} {av : List Value}

theorem Inv.eq {s r : St} {a : Act} {w : World} (hi : Inv fo w0 Own0 Im0 args av nt s a w) (he : EQ s r) (hh : Hid args r.env) : Inv fo w0 Own0 Im0 args av nt r a w := by
  obtain ⟨φ, Im, hfr, hE, hd, hsz, _⟩ := hi
  have hs := stp_ext hfr.hs (h' := r.heap) (fun k => by rw [he.2])
  exact ⟨φ, Im, hfr.trans hs.fr, fun t d hl => hE t d (by rw [he.1]; exact hl), hd, hsz, hh⟩

theorem Inv.drew {s : St} {a : Act} {w : World} (hi : Inv fo w0 Own0 Im0 args av nt s a w) : Inv fo w0 Own0 Im0 args av nt s a { w with drawn := w.drawn + 1 } := by
  obtain ⟨φ, Im, hfr, hE, hd, hsz, hh⟩ := hi
  refine ⟨φ, Im, ⟨⟨fun k o hk => (hfr.hs.rep k o hk).keep (fun _ _ h => h) (fun _ h => h) (fun _ _ => rfl) (fun _ _ _ _ => rfl), hfr.hs.sep, hfr.hs.imm, hfr.hs.imb, hfr.hs.dom, hfr.hs.tb⟩, hfr.im, hfr.frame, hfr.own, hfr.imnew, hfr.size, hfr.os, hfr.tape, hfr.output⟩, fun t d hl => ?_, hd, hsz, hh⟩
  obtain ⟨v, h1, h2⟩ := hE t d hl
  exact ⟨v, h1, h2.mono (fun _ _ h => h) (fun _ h => h) (fun _ _ => rfl)⟩

theorem any_sound (hF : CallsOK P fo F) (hfo : ∀ f, fo (vm f) = some f) (h5 : nt ≤ 100000) {ops : Array Oper} {L : Nat → AO} (hL : ∀ i (hi : i < ops.size), AOof P vm vmode fo nt ops ops[i] (L i)) {Q : Exit → Act → World → Prop} {r : St} (hQ : ∀ a w, Inv fo w0 Own0 Im0 args av nt r a w → Q .normal a w) (hhr : Hid args r.env)
    (hpre : ∀ i (hi : i < ops.size), ∀ q, q ∈ (L i).pre → ∃ e, e ∈ ops[i].after ∧ Region.binds .any e = true ∧ (q = e.on ∨ q ∈ (L e.on).pre)) (hedge : ∀ i (hi : i < ops.size), ∀ e, e ∈ ops[i].after → Region.binds .any e = true → e.on < i) :
    ∀ (fuel : Nat) (listed : Array Bool) (rem : List (Nat × List Acc)) (s r' : St) (a : Act) (w : World), rem.length = fuel → listed.size = ops.size → RunS F L rem s r' → EQ r' r → (rem.map (·.1)).Pairwise (· < ·) → rem.Pairwise (fun x y => x.1 ∈ (L y.1).pre ∨ FreeP L x y) →
      (∀ j, j < ops.size → (listed.getD j true = false ↔ ∃ l, (j, l) ∈ rem)) → (∀ x, x ∈ rem → x.1 < ops.size) → (∀ j, j < ops.size → listed.getD j true = true → ∀ i, i ∈ (L j).pre → listed.getD i false = true) →
      Inv fo w0 Own0 Im0 args av nt s a w → wpAny P .any ops Q fuel listed a w := by
  intro fuel
  induction fuel with
  | zero =>
    intro listed rem s r' a w hlen hsz hrun heq hsort hfree hlist hlt hcl hi
    have : rem = [] := List.eq_nil_of_length_eq_zero hlen
    subst this
    cases hrun with
    | nil =>
      refine ⟨?_, hQ a w (hi.eq heq hhr)⟩
      rw [List.eq_nil_iff_forall_not_mem]
      intro j hj
      obtain ⟨h1, o, h2, _⟩ := mem_ready.1 hj
      obtain ⟨l, h3⟩ := (hlist j (Array.getElem?_eq_some_iff.1 h2).1).1 h1
      cases h3
  | succ fuel ih =>
    intro listed rem s r' a w hlen hsz hrun heq hsort hfree hlist hlt hcl hi
    -- a listed place, told both ways
    have hboth : ∀ i, i < ops.size → listed.getD i true = listed.getD i false := by
      intro i hi'
      simp [Array.getD, hsz, hi']
    refine ⟨fun hnone => ?_, fun j hj => ?_⟩
    · exfalso
      cases rem with
      | nil => simp at hlen
      | cons x rem =>
        obtain ⟨i, l⟩ := x
        have hin : i < ops.size := hlt (i, l) List.mem_cons_self
        have : i ∈ Region.ready .any ops listed := by
          refine mem_ready.2 ⟨(hlist i hin).2 ⟨l, List.mem_cons_self⟩, ops[i], Array.getElem?_eq_getElem hin, fun e he hb => ?_⟩
          have hon := hedge i hin e he hb
          cases hc : listed.getD e.on true with
          | true => rw [← hboth e.on (by omega)]; exact hc
          | false =>
            obtain ⟨l', hm⟩ := (hlist e.on (by omega)).1 hc
            rcases List.mem_cons.1 hm with h1 | h1
            · injection h1 with h1 _; omega
            · have hs2 := hsort
              rw [List.map_cons] at hs2
              have : i < e.on := List.rel_of_pairwise_cons hs2 (List.mem_map.2 ⟨_, h1, rfl⟩)
              omega
        rw [hnone] at this
        cases this
    · obtain ⟨hj0, o, ho, hall⟩ := mem_ready.1 hj
      obtain ⟨hjn, rfl⟩ := Array.getElem?_eq_some_iff.1 ho
      obtain ⟨lj, hm⟩ := (hlist j hjn).1 hj0
      obtain ⟨A, B, rfl⟩ := List.append_of_mem hm
      have hprej : ∀ i, i ∈ (L j).pre → listed.getD i false = true := by
        intro i hi'
        obtain ⟨e, e1, e2, e3⟩ := hpre j hjn i hi'
        have hon := hall e e1 e2
        rcases e3 with rfl | e3
        · exact hon
        · have hlt2 := hedge j hjn e e1 e2
          exact hcl e.on (by omega) (by rw [hboth e.on (by omega)]; exact hon) i e3
      have hf : ∀ x, x ∈ A → FreeP L x (j, lj) := by
        intro x hx
        rcases (List.pairwise_append.1 hfree).2.2 x hx (j, lj) List.mem_cons_self with h1 | h1
        · have hxn := hlt x (List.mem_append_left _ hx)
          have := (hlist x.1 hxn).2 ⟨x.2, List.mem_append_left _ hx⟩
          rw [hboth x.1 hxn, hprej x.1 h1] at this
          cases this
        · exact h1
      obtain ⟨s1, r1, q1, q2, q3⟩ := hrun.front hf
      have hsub : (A ++ B).Sublist (A ++ (j, lj) :: B) := List.Sublist.append (List.Sublist.refl A) (List.sublist_cons_self _ _)
      have hnd : ∀ l, (j, l) ∈ A ++ B → False := by
        intro l hml
        have hs2 : ((A ++ (j, lj) :: B).map (·.1)).Pairwise (· < ·) := hsort
        rw [List.map_append, List.map_cons, List.pairwise_append] at hs2
        rcases List.mem_append.1 hml with h1 | h1
        · have := hs2.2.2 j (List.mem_map.2 ⟨_, h1, rfl⟩) j List.mem_cons_self
          omega
        · have : j < j := List.rel_of_pairwise_cons hs2.2.1 (List.mem_map.2 ⟨_, h1, rfl⟩)
          omega
      have hnext : ∀ a' w', Inv fo w0 Own0 Im0 args av nt s1 a' w' → wpAny P .any ops Q fuel (listed.setIfInBounds j true) a' w' := by
        intro a' w' hi'
        refine ih _ (A ++ B) s1 r1 a' w' (by simp at hlen ⊢; omega) (by simpa using hsz) q2 (q3.symm.trans heq) (hsort.sublist (hsub.map _)) (hfree.sublist hsub) (fun i hi' => ?_) (fun x hx => hlt x (hsub.subset hx)) (fun i hi' hl q hq => ?_) hi'
        · by_cases he : j = i
          · subst he
            have : (listed.setIfInBounds j true).getD j true = true := by simp [Array.getD, hsz, hjn]
            rw [this]
            exact ⟨(fun h => by cases h), fun ⟨l, hml⟩ => (hnd l hml).elim⟩
          · rw [getD_set_ne true he, hlist i hi']
            refine ⟨fun ⟨l, hml⟩ => ⟨l, ?_⟩, fun ⟨l, hml⟩ => ⟨l, hsub.subset hml⟩⟩
            rcases List.mem_append.1 hml with h1 | h1
            · exact List.mem_append_left _ h1
            · rcases List.mem_cons.1 h1 with h1 | h1
              · injection h1 with h1 _; exact absurd h1.symm he
              · exact List.mem_append_right _ h1
        · by_cases he : j = i
          · subst he
            exact getD_set_true (hprej q hq)
          · rw [getD_set_ne true he] at hl
            exact getD_set_true (hcl i hi' hl q hq)
      have hex := exO_sound hF hfo (hL j hjn) h5 hi (runA_run _ _ _ _ _ _ q1)
      unfold wpOp
      rw [ho]
      simp only
      split
      · rename_i hw
        rw [if_pos hw] at hex
        refine .inl (Lands.wp (hex.mono fun v w' ⟨s2, g1, g2⟩ => ?_))
        injection g1 with g1
        injection g1 with _ g1
        subst g1
        exact hnext _ _ g2
      · rename_i hw
        rw [if_neg hw] at hex
        obtain ⟨s2, g1, g2⟩ := hex
        injection g1 with g1
        injection g1 with _ g1
        subst g1
        exact hnext _ _ g2

theorem draws (hF : CallsOK P fo F) (hfo : ∀ f, fo (vm f) = some f) (hm : P.follows .mixedOrders = true) : DrawsOK P vm vmode fo F := by
  intro w0 Own0 Im0 args av nt id ops aos s s' h5 hd hev a w hi Q hQ
  obtain ⟨hlen, heach, hslots, hedges, hint, n, hops⟩ := hd
  let L : Nat → AO := fun i => aos.getD i ⟨none, .mv (.c (.b true)), 0, none, []⟩
  have hLget : ∀ i (hi : i < aos.length), L i = aos[i] := fun i hi => by simp [L, List.getD, List.getElem?_eq_getElem hi]
  have hsize : aos.length = ops.size := by rw [hlen]; simp
  have hao : ∀ i (hi : i < ops.size), AOof P vm vmode fo nt ops ops[i] (L i) := fun i hi => by
    have := heach i (by simpa using hi) (by rw [hsize]; exact hi)
    rw [hLget i (by rw [hsize]; exact hi)]
    simpa using this
  obtain ⟨rem, r1, r2, _, r4⟩ := evDrw_run (L := L) aos 0 [] s s' (fun k hk => by rw [Nat.zero_add]; exact hLget k hk) hev
  have hrl : rem.length = ops.size := by
    have := congrArg List.length r1
    simpa [hsize] using this
  have hdst : ∀ i d, (L i).dst = some d → d < 100000 := by
    intro i d hd
    by_cases hi : i < ops.size
    · have h1 := hao i hi
      rw [h1.dst] at hd
      exact Nat.lt_of_lt_of_le (h1.lt d hd) h5
    · have : L i = ⟨none, .mv (.c (.b true)), 0, none, []⟩ := by simp only [L, List.getD]; rw [List.getElem?_eq_none (by omega)]; rfl
      rw [this] at hd; cases hd
  have hh : Hid args s'.env := by
    obtain ⟨_, _, _, _, _, _, g, hg⟩ := hi
    exact ⟨g, by rw [r2.hid hdst]; exact hg⟩
  have hsort : (rem.map (·.1)).Pairwise (· < ·) := by rw [r1]; exact List.pairwise_lt_range'
  have hmem : ∀ j, j < ops.size → ∃ l, (j, l) ∈ rem := by
    intro j hj
    have : j ∈ rem.map (·.1) := by rw [r1, hsize]; simp [List.mem_range'_1, hj]
    obtain ⟨x, h1, h2⟩ := List.mem_map.1 this
    exact ⟨x.2, by rw [← h2]; exact h1⟩
  have hlt : ∀ x, x ∈ rem → x.1 < ops.size := by
    intro x hx
    have : x.1 ∈ rem.map (·.1) := List.mem_map.2 ⟨x, hx, rfl⟩
    rw [r1, hsize] at this
    have := List.mem_range'_1.1 this
    omega
  have hedge : ∀ i (hi : i < ops.size), ∀ e, e ∈ ops[i].after → Region.binds .any e = true → e.on < i := by
    intro i hi e he hb
    have := edges_spec ops.toList 0 hedges i (by simpa using hi) e (by simpa using he) hb
    omega
  have hpre : ∀ i (hi : i < ops.size), ∀ q, q ∈ (L i).pre → ∃ e, e ∈ ops[i].after ∧ Region.binds .any e = true ∧ (q = e.on ∨ q ∈ (L e.on).pre) := by
    intro i hi q hq
    have hia : i < aos.length := by rw [hsize]; exact hi
    rw [hLget i hia, pre_spec ops.toList n [] aos hops i (by simpa using hi) hia] at hq
    simp only [List.mem_eraseDups, List.append_nil, preOf, List.mem_flatMap, List.mem_filter, List.reverse_reverse] at hq
    obtain ⟨e, ⟨e1, e2⟩, e3⟩ := hq
    have e1' : e ∈ ops[i].after := by simpa using e1
    refine ⟨e, e1', e2, ?_⟩
    rcases List.mem_cons.1 e3 with e3 | e3
    · exact .inl e3
    · right
      have hon := hedge i hi e e1' e2
      have hona : e.on < aos.length := by omega
      rw [hLget e.on hona]
      have : ((aos.take i).map (·.pre))[e.on]? = some (aos[e.on]).pre := by
        rw [List.getElem?_map, List.getElem?_take_of_lt hon, List.getElem?_eq_getElem hona]; rfl
      rw [this] at e3
      exact e3
  refine wp_region_any hm ?_
  refine any_sound hF hfo h5 hao hQ hh hpre hedge ops.size (Array.replicate ops.size false) rem s s' a _ hrl (by simp) r2 (.refl _) hsort ?_ (fun j hj => ⟨fun _ => hmem j hj, fun _ => by simp [Array.getD, hj]⟩) hlt (fun j hj hl => by simp [Array.getD, hj] at hl) hi.drew
  -- free of each other, or in a fixed order
  have hp : rem.Pairwise fun x y => x.1 < y.1 := by
    rw [List.pairwise_map] at hsort; exact hsort
  refine (hp.and r4).imp_of_mem ?_
  intro x y hx hy ⟨h1, h2⟩
  have hxn := hlt x hx
  have hyn := hlt y hy
  rcases slotsOk_spec aos 0 [] hslots x.1 y.1 (by simp; omega) h1 (by simp) with h3 | h3
  · left
    simp only [List.reverse_nil, List.nil_append] at h3
    rw [hLget y.1 (by omega)]; exact h3
  · simp only [List.reverse_nil, List.nil_append] at h3
    rcases h2 with h2 | h2
    · exact .inl h2
    · exact .inr ⟨h2, by rw [hLget x.1 (by omega), hLget y.1 (by omega)]; exact h3⟩

theorem runF_ok (hfo : ∀ f, fo (vm f) = some f) {T : Tab} (hT : TabOK P vm vmode fo T) (hm : P.follows .mixedOrders = true) : CallsOK P fo (runF T) := runF_sound hfo hT fun F hF => draws hF hfo hm
end
end Am
end Go.Proofs.YtfdmmnfjdifccaaGreatDoor
