/- Functions that the model stands in for: sums with a carry, the place of a byte. -/
import Derived.Test.YtfdmmnfjdifccaaGreatDoorAs8
import Derived.Laws.Externs
import Derived.Lib.Bytealg
set_option linter.unusedVariables false
set_option linter.unusedSimpArgs false
set_option linter.constructorNameAsVariable false
namespace Go.Proofs.YtfdmmnfjdifccaaGreatDoor
namespace Am
open Go.RowKit (Below)
section
variable {P : Program} {fo : Fo} {φ : Lay} {Im : Nat → Prop} {w : World} {h : Heap}

theorem same_post {us rs : List V} {args : List Value} {x : Value} (hs : HS fo φ Im w []) (hrep : RepDs fo φ Im w (us.map .p) args) (hu : RepD fo φ Im w (oneRes (rs.map .p)) x) : CallPost fo φ Im w [] (us.map .p) args [] (rs.map .p) [] x w := by
  have hren : ∀ g, D.renL g (us.map .p) = us.map .p := by
    intro g; clear hrep
    induction us with
    | nil => rfl
    | cons a r ih => simp only [List.map_cons, D.renL, D.ren, ih]
  have hrf : D.refsL (us.map D.p) = [] := by
    clear hrep hren
    induction us with
    | nil => rfl
    | cons a r ih => simp only [List.map_cons, D.refsL, D.refs, List.nil_append, ih]
  refine ⟨φ, Im, id, ⟨hs, fun g hg => hg, fun g _ _ => rfl, fun g hg => .inl ?_, fun g hg => .inl hg, Nat.le_refl _, rfl, rfl, rfl⟩, hu, ?_, ?_, ?_⟩
  · rcases hg with ⟨k, o, l, h1, _⟩; cases h1
  · rw [hrf]; rfl
  · rw [hren]; exact hrep
  · intro x hx; cases hx
theorem lands_here {f : FuncId} {args : Array Value} {Q : Value → World → Prop} {v : Value} (hc : (callFunc f args).run P w = .ok (.value v) w) (hq : Q v w) : Lands P (callFunc f args) w Q := by
  unfold Lands; rw [hc]; exact hq
theorem rep_three {u u' u2 : V} {args : List Value} (hrep : RepDs fo φ Im w [.p u, .p u', .p u2] args) : ∃ x x' x2, args = [x, x', x2] ∧ RepV fo Im w u x ∧ RepV fo Im w u' x' ∧ RepV fo Im w u2 x2 := by
  obtain ⟨hl, hr⟩ := hrep
  match args, hl with
  | [x, x', x2], _ => exact ⟨x, x', x2, rfl, (hr 0 (by simp) (by simp)).p_inv, (hr 1 (by simp) (by simp)).p_inv, (hr 2 (by simp) (by simp)).p_inv⟩

/-! ### math/bits.Add64 -/
def addLo (x y c : Int) : Int := (x + y + c) % 18446744073709551616
def addHi (x y c : Int) : Int := (x + y + c) / 18446744073709551616
def addB (x y c : Int) : Bool := decide (0 ≤ x ∧ 0 ≤ y ∧ 0 ≤ c ∧ c ≤ 1)
def addX : List D → Heap → Option (List Nat × List D × Heap)
  | [.p (.i .u64 x), .p (.i .u64 y), .p (.i .u64 c)], [] => if addB x y c = true then some ([], [.p (.i .u64 (addLo x y c)), .p (.i .u64 (addHi x y c))], []) else none
  | _, _ => none
theorem addX_deep {ds : List D} {h : Heap} {r : List Nat × List D × Heap} (he : addX ds h = some r) : deep ds h = [] := by
  unfold addX at he
  split at he
  · rfl
  · cases he
def addE {R : Type} : En R := fun ds h k => match ds, h with
  | [.p (.i .u64 x), .p (.i .u64 y), .p (.i .u64 c)], [] => bif addB x y c then k [] [.p (.i .u64 (addLo x y c)), .p (.i .u64 (addHi x y c))] [] else none
  | _, _ => none
theorem Snd_add {R : Type} {T : Tab} {v : Nat} (hv : T.ver v = none) (hx : T.ext v = addX) : Snd T v (addE : En R) := by
  intro ds h k r hk
  unfold addE at hk
  split at hk
  · rename_i x y c
    cases hb : addB x y c with
    | false => rw [hb] at hk; cases hk
    | true =>
      rw [hb] at hk
      refine ⟨_, _, _, ?_, hk⟩
      rw [runF_ext hv, hx]
      show (if _ then _ else _) = _
      rw [if_pos hb]; rfl
  · cases hk
theorem add_ok {f : Nat} {fn : Func} (hname : (fn.name == "runtime.NumGoroutine") = false) (hfn : P.funcs[f]? = some fn) (hbody : fn.body.isNone = true) (hn : Extern.findNext fn = none) (he0 : Extern.find fn = some add64Entry)
    {ds : List D} {r1 : List Nat} {r2 : List D} {r3 : Heap} {args : List Value} (he : addX ds h = some (r1, r2, r3)) (hs : HS fo φ Im w h) (hrep : RepDs fo φ Im w ds args) :
    Lands P (callFunc f args.toArray) w (CallPost fo φ Im w h ds args r1 r2 r3) := by
  unfold addX at he
  split at he
  · rename_i x y c
    split at he
    · rename_i hb
      have hb := of_decide_eq_true hb
      injection he with he
      injection he with e1 he
      injection he with e2 e3
      subst e1 e2 e3
      obtain ⟨v1, v2, v3, rfl, h1, h2, h3⟩ := rep_three hrep
      cases h1; cases h2; cases h3
      have hc := run_callFunc_extern hfn hname hbody hn he0 (List.toArray [Value.int .u64 x, .int .u64 y, .int .u64 c]) w
      rw [show (List.toArray [Value.int .u64 x, .int .u64 y, .int .u64 c]) = #[.int .u64 x, .int .u64 y, .int .u64 c] from rfl, run_add64 x y c hb.1 hb.2.1 hb.2.2.1 hb.2.2.2 w] at hc
      refine lands_here hc (same_post (us := [.i .u64 x, .i .u64 y, .i .u64 c]) (rs := [.i .u64 (addLo x y c), .i .u64 (addHi x y c)]) hs hrep (.tup [_, _] [_, _] rfl fun i hi hi' => ?_))
      match i, hi with
      | 0, _ => exact .p _ _ (.i _ _)
      | 1, _ => exact .p _ _ (.i _ _)
    · cases he
  · cases he

/-! ### internal/bytealg.IndexByteString -/
def ixbI (s : ByteArray) (c : Int) : Int := Lib.indexByte s.data.toList c.toNat.toUInt8
def ixbX : List D → Heap → Option (List Nat × List D × Heap)
  | [.p (.s s), .p (.i .u8 c)], [] => some ([], [.p (.i .i64 (ixbI s c))], [])
  | _, _ => none
theorem ixbX_deep {ds : List D} {h : Heap} {r : List Nat × List D × Heap} (he : ixbX ds h = some r) : deep ds h = [] := by
  unfold ixbX at he
  split at he
  · rfl
  · cases he
def ixbE {R : Type} : En R := fun ds h k => match ds, h with
  | [.p (.s s), .p (.i .u8 c)], [] => k [] [.p (.i .i64 (ixbI s c))] []
  | _, _ => none
theorem Snd_ixb {R : Type} {T : Tab} {v : Nat} (hv : T.ver v = none) (hx : T.ext v = ixbX) : Snd T v (ixbE : En R) := by
  intro ds h k r hk
  unfold ixbE at hk
  split at hk
  · rename_i s c
    refine ⟨_, _, _, ?_, hk⟩
    rw [runF_ext hv, hx]; rfl
  · cases hk
theorem ixb_ok {f : Nat} {fn : Func} (hname : (fn.name == "runtime.NumGoroutine") = false) (hfn : P.funcs[f]? = some fn) (hbody : fn.body.isNone = true) (hn : Extern.findNext fn = none) (he0 : Extern.find fn = some Extern.BytealgIndexByte.indexByte)
    {ds : List D} {r1 : List Nat} {r2 : List D} {r3 : Heap} {args : List Value} (he : ixbX ds h = some (r1, r2, r3)) (hs : HS fo φ Im w h) (hrep : RepDs fo φ Im w ds args) :
    Lands P (callFunc f args.toArray) w (CallPost fo φ Im w h ds args r1 r2 r3) := by
  unfold ixbX at he
  split at he
  · rename_i s c
    injection he with he
    injection he with e1 he
    injection he with e2 e3
    subst e1 e2 e3
    obtain ⟨v1, v2, rfl, h1, h2⟩ := rep_two hrep
    cases h1; cases h2
    have hc := run_callFunc_extern hfn hname hbody hn he0 (List.toArray [Value.string s, .int .u8 c]) w
    rw [show (List.toArray [Value.string s, .int .u8 c]) = #[.string s, .int .u8 c] from rfl, Lib.run_indexByteString s c w] at hc
    exact lands_here hc (same_post (us := [.s s, .i .u8 c]) (rs := [.i .i64 (ixbI s c)]) hs hrep (.p _ _ (.i _ _)))
  · cases he
end
end Am
end Go.Proofs.YtfdmmnfjdifccaaGreatDoor
