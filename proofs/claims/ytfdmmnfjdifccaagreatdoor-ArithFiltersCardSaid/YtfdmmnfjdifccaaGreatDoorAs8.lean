/- Functions of the library with a contract of their own: numbers in, a number or a string out. -/
import Derived.Test.YtfdmmnfjdifccaaGreatDoorAs6
import Derived.Lib.AppendIntMem
import Derived.Lib.LaidTab
import Derived.Shelf.Strconv.Itoa3
import Derived.Shelf.Strings.Repeat
set_option linter.unusedVariables false
set_option linter.unusedSimpArgs false
set_option linter.constructorNameAsVariable false
namespace Go.Proofs.YtfdmmnfjdifccaaGreatDoor
namespace Am
open Go.RowKit (Below)
section
variable {P : Program} {fo : Fo} {φ : Lay} {Im : Nat → Prop} {w : World} {h : Heap}

/-- Out of a call that lays new memory alone: plain data. -/
theorem below_post {us : List V} {args : List Value} {x : Value} {u : V} {w' : World} (hs : HS fo φ Im w []) (hrep : RepDs fo φ Im w (us.map .p) args) (hb : Below w.heap.size w w') (hu : RepV fo Im w' u x) : CallPost fo φ Im w [] (us.map .p) args [] [.p u] [] x w' := by
  have hren : ∀ g, D.renL g (us.map .p) = us.map .p := by
    intro g; clear hrep
    induction us with
    | nil => rfl
    | cons a r ih => simp only [List.map_cons, D.renL, D.ren, ih]
  have hrf : D.refsL (us.map D.p) = [] := by
    clear hrep hren
    induction us with
    | nil => rfl
    | cons a r ih => simp only [List.map_cons, D.refsL, D.refs, List.nil_append, ih]
  have hget : ∀ g, g < w.heap.size → w'.heap[g]? = w.heap[g]? := fun g hg => hb.block g hg
  refine ⟨φ, Im, id, ⟨⟨?_, ?_, ?_, ?_, ?_, fun g o ho => tb_keep (hs.tb g o ho) id (fun hi => hget g (hs.imb g hi))⟩, fun g hg => hg, fun g hg _ => hget g hg, ?_, fun g hg => .inl hg, hb.size, hb.os, hb.tape, hb.output⟩, ?_, ?_, ?_, ?_⟩
  · intro k o hk; cases hk
  · intro k k' o o' l l' h1; cases h1
  · rintro g ⟨k, o, l, h1, _⟩; cases h1
  · intro g hg; have := hs.imb g hg; have := hb.size; omega
  · intro k hk; exact hs.dom k hk
  · rintro g ⟨k, o, l, h1, _⟩; cases h1
  · exact .p _ _ hu
  · rw [hrf]; rfl
  · rw [hren]
    exact ⟨hrep.1, fun i hi hi' => (hrep.2 i hi hi').mono (fun _ _ h => h) (fun _ h => h) (fun g hg => hget g (hs.imb g hg))⟩
  · intro x hx; cases hx

theorem lands_of {f : FuncId} {fn : Func} {args : Array Value} {Q : Value → World → Prop} (hname : (fn.name == "runtime.NumGoroutine") = false) (hfn : P.funcs[f]? = some fn) (hbody : fn.body.isSome = true) (hc : Calls P f args w fun e w' => ∃ v, e = .returned v ∧ Q v w') :
    Lands P (callFunc f args) w Q := by
  obtain ⟨body, hb⟩ := Option.isSome_iff_exists.1 hbody
  have h1 : fn.name ≠ "runtime.NumGoroutine" := by simpa using hname
  have henter : (callFunc f args).run P w = .ok (.enter f args) w := by simp [callFunc, hfn, h1, hb]
  unfold Lands
  rw [henter]
  exact hc
theorem rep_one {u : V} {args : List Value} (hrep : RepDs fo φ Im w [.p u] args) : ∃ x, args = [x] ∧ RepV fo Im w u x := by
  obtain ⟨hl, hr⟩ := hrep
  match args, hl with
  | [x], _ => exact ⟨x, rfl, (hr 0 (by simp) (by simp)).p_inv⟩
theorem rep_two {u u' : V} {args : List Value} (hrep : RepDs fo φ Im w [.p u, .p u'] args) : ∃ x x', args = [x, x'] ∧ RepV fo Im w u x ∧ RepV fo Im w u' x' := by
  obtain ⟨hl, hr⟩ := hrep
  match args, hl with
  | [x, x'], _ => exact ⟨x, x', rfl, (hr 0 (by simp) (by simp)).p_inv, (hr 1 (by simp) (by simp)).p_inv⟩

/-! ### strconv.Itoa -/
def itoaB (n : Int) : ByteArray := ⟨(Lib.itoa n).toArray⟩
def itoaX : List D → Heap → Option (List Nat × List D × Heap)
  | [.p (.i .i64 n)], [] => if -9223372036854775808 ≤ n ∧ n ≤ 9223372036854775807 then some ([], [.p (.s (itoaB n))], []) else none
  | _, _ => none
theorem itoaX_deep {ds : List D} {h : Heap} {r : List Nat × List D × Heap} (he : itoaX ds h = some r) : deep ds h = [] := by
  unfold itoaX at he
  split at he
  · rfl
  · cases he
def itoaE {R : Type} : En R := fun ds h k => match ds, h with
  | [.p (.i .i64 n)], [] => bif decide (-9223372036854775808 ≤ n ∧ n ≤ 9223372036854775807) then k [] [.p (.s (itoaB n))] [] else none
  | _, _ => none
theorem Snd_itoa {R : Type} {T : Tab} {v : Nat} (hv : T.ver v = none) (hx : T.ext v = itoaX) : Snd T v (itoaE : En R) := by
  intro ds h k r hk
  unfold itoaE at hk
  split at hk
  · rename_i n
    cases hb : decide (-9223372036854775808 ≤ n ∧ n ≤ 9223372036854775807) with
    | false => rw [hb] at hk; cases hk
    | true =>
      rw [hb] at hk
      refine ⟨_, _, _, ?_, hk⟩
      rw [runF_ext hv, hx]
      show (if _ then _ else _) = _
      rw [if_pos (of_decide_eq_true hb)]; rfl
  · cases hk
def pow10Cells : Array Value := (Lib.pow10Tab.map fun z => Value.int .u64 z).toArray
theorem itoa_ok {f G : Nat} {fn : Func} (hname : (fn.name == "runtime.NumGoroutine") = false) (hfn : P.funcs[f]? = some fn) (hbody : fn.body.isSome = true)
    (hC : ∀ n w, -9223372036854775808 ≤ n → n ≤ 9223372036854775807 → Lib.TabIs P w "internal/strconv.uint64pow10" .u64 Lib.pow10Tab → Calls P f #[.int .i64 n] w fun e w' => e = .returned (.string ⟨(Lib.itoa n).toArray⟩) ∧ ∃ k os, w' = Sort.grow (w.drewN k) os)
    (hg : P.globalNamed "internal/strconv.uint64pow10" = some G) (ht : fo.tab G = some pow10Cells) {ds : List D} {r1 : List Nat} {r2 : List D} {r3 : Heap} {args : List Value} (he : itoaX ds h = some (r1, r2, r3)) (hs : HS fo φ Im w h) (hrep : RepDs fo φ Im w ds args) :
    Lands P (callFunc f args.toArray) w (CallPost fo φ Im w h ds args r1 r2 r3) := by
  unfold itoaX at he
  split at he
  · rename_i n
    split at he
    · rename_i hn
      injection he with he
      injection he with e1 he
      injection he with e2 e3
      subst e1 e2 e3
      obtain ⟨x, rfl, hx⟩ := rep_one hrep
      cases hx
      obtain ⟨_, t, f', htw⟩ := hs.tb G _ ht
      have htab : Lib.TabIs P w "internal/strconv.uint64pow10" .u64 Lib.pow10Tab := by
        unfold Lib.TabIs World.var?
        rw [hg]
        simp only [Option.bind_some, htw]
        rfl
      refine lands_of hname hfn hbody ((hC n w hn.1 hn.2 htab).mono fun e w' ⟨he, k, os, hw⟩ => ⟨_, he, ?_⟩)
      subst hw
      exact below_post (us := [.i .i64 n]) hs hrep (Lib.below_grow _ _ (Nat.le_refl _) k os) (.s _)
    · cases he
  · cases he

theorem tab_of_laid {W : World} {G t e n : Nat} {rest : List (String × DataW Unit)} (hg : P.globalNamed "internal/strconv.uint64pow10" = some G) (hty : (P.globals[G]?).map (·.type) = some t) (ht : P.underlying t = some (.array n e)) (he : P.underlying e = some (.int .u64)) (hce : P.cellsOf e = 1) (hct : P.cellsOf t = n)
    (h : laidMet P (("internal/strconv.uint64pow10", Lib.tabData .u64 Lib.pow10Tab) :: rest) W) : ∃ t f, W.heap[G]? = some (.cells pow10Cells t f) := by
  have := Lib.tabIs_of_head hg hty ht he hce hct h
  unfold Lib.TabIs World.var? at this
  rw [hg] at this
  simp only [Option.bind_some] at this
  split at this
  · rename_i cs t' f' hh
    injection this with this
    exact ⟨t', f', by rw [hh, this]; rfl⟩
  · cases this

/-! ### strings.Repeat -/
def repB (s : ByteArray) (c : Nat) : ByteArray := ⟨(Lib.repeatL s.data.toList c).toArray⟩
def repOk (s : ByteArray) (c : Int) : Bool := decide (0 ≤ c ∧ c ≤ 9223372036854775807 ∧ s.size * c.toNat ≤ 140737488355328)
def repX : List D → Heap → Option (List Nat × List D × Heap)
  | [.p (.s s), .p (.i .i64 c)], [] => if repOk s c = true then some ([], [.p (.s (repB s c.toNat))], []) else none
  | _, _ => none
theorem repX_deep {ds : List D} {h : Heap} {r : List Nat × List D × Heap} (he : repX ds h = some r) : deep ds h = [] := by
  unfold repX at he
  split at he
  · rfl
  · cases he
def repE {R : Type} : En R := fun ds h k => match ds, h with
  | [.p (.s s), .p (.i .i64 c)], [] => bif repOk s c then k [] [.p (.s (repB s c.toNat))] [] else none
  | _, _ => none
theorem Snd_rep {R : Type} {T : Tab} {v : Nat} (hv : T.ver v = none) (hx : T.ext v = repX) : Snd T v (repE : En R) := by
  intro ds h k r hk
  unfold repE at hk
  split at hk
  · rename_i s c
    cases hb : repOk s c with
    | false => rw [hb] at hk; cases hk
    | true =>
      rw [hb] at hk
      refine ⟨_, _, _, ?_, hk⟩
      rw [runF_ext hv, hx]
      show (if _ then _ else _) = _
      rw [if_pos hb]; rfl
  · cases hk
theorem rep_ok {f : Nat} {fn : Func} (hname : (fn.name == "runtime.NumGoroutine") = false) (hfn : P.funcs[f]? = some fn) (hbody : fn.body.isSome = true)
    (hC : ∀ (s : ByteArray) (c : Nat) w, c ≤ 9223372036854775807 → s.size * c ≤ 140737488355328 → Calls P f #[.string s, .int .i64 c] w fun e w' => e = .returned (.string ⟨(Lib.repeatL s.data.toList c).toArray⟩) ∧ Below w.heap.size w w')
    {ds : List D} {r1 : List Nat} {r2 : List D} {r3 : Heap} {args : List Value} (he : repX ds h = some (r1, r2, r3)) (hs : HS fo φ Im w h) (hrep : RepDs fo φ Im w ds args) :
    Lands P (callFunc f args.toArray) w (CallPost fo φ Im w h ds args r1 r2 r3) := by
  unfold repX at he
  split at he
  · rename_i s c
    split at he
    · rename_i hn
      have hn := of_decide_eq_true hn
      injection he with he
      injection he with e1 he
      injection he with e2 e3
      subst e1 e2 e3
      obtain ⟨x, x', rfl, hx, hx'⟩ := rep_two hrep
      cases hx
      cases hx'
      obtain ⟨m, rfl⟩ : ∃ m : Nat, c = m := ⟨c.toNat, by omega⟩
      rw [Int.toNat_natCast] at hn
      refine lands_of hname hfn hbody ((hC s m w (by omega) hn.2.2).mono fun e w' ⟨he, hb⟩ => ⟨_, he, ?_⟩)
      exact below_post (us := [.s s, .i .i64 m]) hs hrep hb (.s _)
    · cases he
  · cases he
end
end Am
end Go.Proofs.YtfdmmnfjdifccaaGreatDoor
