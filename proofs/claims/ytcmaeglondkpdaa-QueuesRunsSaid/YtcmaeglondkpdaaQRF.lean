/- Each function that is reached as a function on plain data, and that the version comes to it. -/
import Derived.Test.YtcmaeglondkpdaaQRC
set_option linter.unusedVariables false
set_option linter.constructorNameAsVariable false
set_option maxRecDepth 100000
namespace Go.Proofs.Ytcmaeglondkpdaa
namespace Am
noncomputable def F0 (N : Nat) {R : Type} : CfS R := (updC nilC 64 (cloneE 1 8))
theorem F0_ok (N : Nat) {R : Type} : FOK (F0 N : CfS R) (runF T) := (FOK_upd FOK_nil (Snd_clone (sz := 1) (bytes := 8) rfl rfl))
def X_queues_within : Nat → List SP := fun _ => []
def H_queues_within : Nat → Option (List Sh) := fun n => none
noncomputable def Lqueues_within_0 (N : Nat) {R : Type} : Nat → StS → KS R → Option R := noL
def queues_within (N : Nat) {R : Type} (a0 : Int) (a1 : Int) (a2 : Int) (k0 : Bool → Option R) : Option R := (bif decide (a1 ≤ a0) then (k0 (decide (a0 ≤ a2))) else (k0 false))
def P_queues_within : AP := ⟨[.p (.s (.i .i64)), .p (.s (.i .i64)), .p (.s (.i .i64))], []⟩
def e_queues_within (N : Nat) {R : Type} (x : P_queues_within.den) (k : List Nat → List DS → HeapS → Option R) : Option R := queues_within N x.1.1 x.1.2.1 x.1.2.2.1 (fun r0 => k [] [.p (.b r0)] [])
noncomputable def F1 (N : Nat) {R : Type} : CfS R := updC (F0 N) 49 (ent P_queues_within (e_queues_within N) (F0 N 49))
theorem F1_ok (N : Nat) {R : Type} : FOK (F1 N : CfS R) (runF T) :=
  FOK_upd (F0_ok N) (Snd_ent (F0_ok N) (H := H_queues_within) (Lp := Lqueues_within_0 N) (X := X_queues_within) (rp := []) (ver := c49) rfl (LOK_of (l := []) (by kernel_rfl) trivial) (fun x k => by kernel_rfl) (Snd_of (F0_ok N) 49 fun _ _ _ _ h => h))
def X_queues_unless : Nat → List SP := fun _ => []
def H_queues_unless : Nat → Option (List Sh) := fun n => none
noncomputable def Lqueues_unless_0 (N : Nat) {R : Type} : Nat → StS → KS R → Option R := noL
def queues_unless (N : Nat) {R : Type} (a0 : Bool) (a1 : Int) (k0 : Int → Option R) : Option R := (bif a0 then (k0 0) else (k0 a1))
def P_queues_unless : AP := ⟨[.p (.s .b), .p (.s (.i .i64))], []⟩
def e_queues_unless (N : Nat) {R : Type} (x : P_queues_unless.den) (k : List Nat → List DS → HeapS → Option R) : Option R := queues_unless N x.1.1 x.1.2.1 (fun r0 => k [] [.p (.i .i64 r0)] [])
noncomputable def F2 (N : Nat) {R : Type} : CfS R := updC (F1 N) 48 (ent P_queues_unless (e_queues_unless N) (F1 N 48))
theorem F2_ok (N : Nat) {R : Type} : FOK (F2 N : CfS R) (runF T) :=
  FOK_upd (F1_ok N) (Snd_ent (F1_ok N) (H := H_queues_unless) (Lp := Lqueues_unless_0 N) (X := X_queues_unless) (rp := []) (ver := c48) rfl (LOK_of (l := []) (by kernel_rfl) trivial) (fun x k => by kernel_rfl) (Snd_of (F1_ok N) 48 fun _ _ _ _ h => h))
def X_queues_kindErr : Nat → List SP := fun _ => []
def H_queues_kindErr : Nat → Option (List Sh) := fun n => none
noncomputable def Lqueues_kindErr_0 (N : Nat) {R : Type} : Nat → StS → KS R → Option R := noL
def queues_kindErr (N : Nat) {R : Type} (a0 : Int) (k0 : Int → Option R) : Option R := (queues_within N a0 0 3 (fun y1 => (queues_unless N y1 15 (fun y2 => (k0 y2)))))
def P_queues_kindErr : AP := ⟨[.p (.s (.i .i64))], []⟩
def e_queues_kindErr (N : Nat) {R : Type} (x : P_queues_kindErr.den) (k : List Nat → List DS → HeapS → Option R) : Option R := queues_kindErr N x.1.1 (fun r0 => k [] [.p (.i .i64 r0)] [])
noncomputable def F3 (N : Nat) {R : Type} : CfS R := updC (F2 N) 54 (ent P_queues_kindErr (e_queues_kindErr N) (F2 N 54))
theorem F3_ok (N : Nat) {R : Type} : FOK (F3 N : CfS R) (runF T) :=
  FOK_upd (F2_ok N) (Snd_ent (F2_ok N) (H := H_queues_kindErr) (Lp := Lqueues_kindErr_0 N) (X := X_queues_kindErr) (rp := []) (ver := c54) rfl (LOK_of (l := []) (by kernel_rfl) trivial) (fun x k => by kernel_rfl) (Snd_of (F2_ok N) 54 fun _ _ _ _ h => h))
def X_queues_widthErr : Nat → List SP := fun _ => []
def H_queues_widthErr : Nat → Option (List Sh) := fun n => none
noncomputable def Lqueues_widthErr_0 (N : Nat) {R : Type} : Nat → StS → KS R → Option R := noL
def queues_widthErr (N : Nat) {R : Type} (a0 : Int) (k0 : Int → Option R) : Option R := (queues_within N a0 1 16 (fun y1 => (queues_unless N y1 2 (fun y2 => (k0 y2)))))
def P_queues_widthErr : AP := ⟨[.p (.s (.i .i64))], []⟩
def e_queues_widthErr (N : Nat) {R : Type} (x : P_queues_widthErr.den) (k : List Nat → List DS → HeapS → Option R) : Option R := queues_widthErr N x.1.1 (fun r0 => k [] [.p (.i .i64 r0)] [])
noncomputable def F4 (N : Nat) {R : Type} : CfS R := updC (F3 N) 82 (ent P_queues_widthErr (e_queues_widthErr N) (F3 N 82))
theorem F4_ok (N : Nat) {R : Type} : FOK (F4 N : CfS R) (runF T) :=
  FOK_upd (F3_ok N) (Snd_ent (F3_ok N) (H := H_queues_widthErr) (Lp := Lqueues_widthErr_0 N) (X := X_queues_widthErr) (rp := []) (ver := c82) rfl (LOK_of (l := []) (by kernel_rfl) trivial) (fun x k => by kernel_rfl) (Snd_of (F3_ok N) 82 fun _ _ _ _ h => h))
def X_queues_first : Nat → List SP := fun _ => []
def H_queues_first : Nat → Option (List Sh) := fun n => none
noncomputable def Lqueues_first_0 (N : Nat) {R : Type} : Nat → StS → KS R → Option R := noL
def queues_first_l0 (N : Nat) {R : Type} (k0 : Int → Option R) (k1 : Option R) : Nat → List Int → Int → Int → Option R
  | 0, _, _, _ => none
  | n + 1, b0, b1, b2 => (bif decide (b2 < b1) then ((at? b0 b2).bind fun x1 => (bif decide (x1 ≠ 0) then (k0 x1) else (queues_first_l0 N k0 k1 n b0 b1 (w64 (b2 + 1))))) else k1)
def Pqueues_first_l0 : SP := ⟨[(5, .p (.s (.sl [.i .i64]))), (6, .p (.s (.i .i64))), (7, .p (.s (.i .i64)))], []⟩
def equeues_first_l0 (N : Nat) {R : Type} (n : Nat) (x : Pqueues_first_l0.den) (k : KS R) : Option R := queues_first_l0 N (fun r0 => k .ret ⟨[(2, .p (.i .i64 r0))], []⟩) (k (.ex 0) ⟨[], []⟩) n x.1.1 x.1.2.1 x.1.2.2.1
theorem loop_queues_first_l0 (N : Nat) {R : Type} : ∀ (n : Nat) (s : StS) (k : KS R) (r : R), lent' Pqueues_first_l0 (equeues_first_l0 N n) s k = some r → ∃ e s', runL (runF T) [5, 6, 7] c47_l0 s.enc = some (e, s'.enc) ∧ k e s' = some r :=
  loop_ok (F4_ok N) (H := H_queues_first) (Lp := Lqueues_first_0 N) (X := X_queues_first) (p := 26) (LOK_of (l := []) (by kernel_rfl) trivial) (fun _ _ => rfl) (fun n x k => by kernel_rfl)
noncomputable def Lqueues_first_1 (N : Nat) {R : Type} : Nat → StS → KS R → Option R := updL (Lqueues_first_0 N) 26 (lent' Pqueues_first_l0 (equeues_first_l0 N N))
def queues_first (N : Nat) {R : Type} (a0 : List Int) (k0 : Int → Option R) : Option R := (queues_first_l0 N (fun z2 => (k0 z2)) (k0 0) N a0 ((a0.length : Nat) : Int) 0)
def P_queues_first : AP := ⟨[.p (.s (.sl [.i .i64]))], []⟩
def e_queues_first (N : Nat) {R : Type} (x : P_queues_first.den) (k : List Nat → List DS → HeapS → Option R) : Option R := queues_first N x.1.1 (fun r0 => k [] [.p (.i .i64 r0)] [])
noncomputable def F5 (N : Nat) {R : Type} : CfS R := updC (F4 N) 47 (ent P_queues_first (e_queues_first N) (F4 N 47))
theorem F5_ok (N : Nat) {R : Type} : FOK (F5 N : CfS R) (runF T) :=
  FOK_upd (F4_ok N) (Snd_ent (F4_ok N) (H := H_queues_first) (Lp := Lqueues_first_1 N) (X := X_queues_first) (rp := []) (ver := c47) rfl (LOK_of (l := [(26, [5, 6, 7], c47_l0)]) (by kernel_rfl) ⟨(updL_ok (loop_queues_first_l0 N N)), trivial⟩) (fun x k => by kernel_rfl) (Snd_of (F4_ok N) 47 fun _ _ _ _ h => h))
def X_queues_openErr : Nat → List SP := fun _ => []
def H_queues_openErr : Nat → Option (List Sh) := fun n => if n = 6000 then some [.i .i64] else none
noncomputable def Lqueues_openErr_0 (N : Nat) {R : Type} : Nat → StS → KS R → Option R := noL
def queues_openErr (N : Nat) {R : Type} (a0 : Int) (a1 : Int) (k0 : Int → Option R) : Option R := (queues_kindErr N a0 (fun y1 => (queues_widthErr N a1 (fun y2 => (queues_first N [y1, y2] (fun y3 => (k0 y3)))))))
def P_queues_openErr : AP := ⟨[.p (.s (.i .i64)), .p (.s (.i .i64))], []⟩
def e_queues_openErr (N : Nat) {R : Type} (x : P_queues_openErr.den) (k : List Nat → List DS → HeapS → Option R) : Option R := queues_openErr N x.1.1 x.1.2.1 (fun r0 => k [] [.p (.i .i64 r0)] [])
noncomputable def F6 (N : Nat) {R : Type} : CfS R := updC (F5 N) 56 (ent P_queues_openErr (e_queues_openErr N) (F5 N 56))
theorem F6_ok (N : Nat) {R : Type} : FOK (F6 N : CfS R) (runF T) :=
  FOK_upd (F5_ok N) (Snd_ent (F5_ok N) (H := H_queues_openErr) (Lp := Lqueues_openErr_0 N) (X := X_queues_openErr) (rp := []) (ver := c56) rfl (LOK_of (l := []) (by kernel_rfl) trivial) (fun x k => by kernel_rfl) (Snd_of (F5_ok N) 56 fun _ _ _ _ h => h))
def X_queues_isValue : Nat → List SP := fun _ => []
def H_queues_isValue : Nat → Option (List Sh) := fun n => none
noncomputable def Lqueues_isValue_0 (N : Nat) {R : Type} : Nat → StS → KS R → Option R := noL
def queues_isValue (N : Nat) {R : Type} (a0 : Int) (a1 : Int) (k0 : Bool → Option R) : Option R := (bif decide (0 ≤ a1) then (bif decide (a1 < 0) then none else (queues_within N a0 0 (w64 ((shl' .i64 1 a1) - 1)) (fun y1 => (k0 y1)))) else (k0 false))
def P_queues_isValue : AP := ⟨[.p (.s (.i .i64)), .p (.s (.i .i64))], []⟩
def e_queues_isValue (N : Nat) {R : Type} (x : P_queues_isValue.den) (k : List Nat → List DS → HeapS → Option R) : Option R := queues_isValue N x.1.1 x.1.2.1 (fun r0 => k [] [.p (.b r0)] [])
noncomputable def F7 (N : Nat) {R : Type} : CfS R := updC (F6 N) 78 (ent P_queues_isValue (e_queues_isValue N) (F6 N 78))
theorem F7_ok (N : Nat) {R : Type} : FOK (F7 N : CfS R) (runF T) :=
  FOK_upd (F6_ok N) (Snd_ent (F6_ok N) (H := H_queues_isValue) (Lp := Lqueues_isValue_0 N) (X := X_queues_isValue) (rp := []) (ver := c78) rfl (LOK_of (l := []) (by kernel_rfl) trivial) (fun x k => by kernel_rfl) (Snd_of (F6_ok N) 78 fun _ _ _ _ h => h))
def X_queues_itemsErr_c1 : Nat → List SP := fun _ => []
def H_queues_itemsErr_c1 : Nat → Option (List Sh) := fun n => none
noncomputable def Lqueues_itemsErr_c1_0 (N : Nat) {R : Type} : Nat → StS → KS R → Option R := noL
def queues_itemsErr_c1 (N : Nat) {R : Type} (a0 : Int) (a1 : Int) (k0 : Bool → Int → Option R) : Option R := (queues_isValue N a0 a1 (fun y1 => (k0 (!y1) a1)))
def P_queues_itemsErr_c1 : AP := ⟨[.p (.s (.i .i64)), .ptr 0 0], [(0, .box [.p (.s (.i .i64))])]⟩
def e_queues_itemsErr_c1 (N : Nat) {R : Type} (x : P_queues_itemsErr_c1.den) (k : List Nat → List DS → HeapS → Option R) : Option R := queues_itemsErr_c1 N x.1.1 x.2.1.1 (fun r0 r1 => k [0] [.p (.b r0)] [(0, .box [.p (.i .i64 r1)])])
noncomputable def F8 (N : Nat) {R : Type} : CfS R := updC (F7 N) 83 (ent P_queues_itemsErr_c1 (e_queues_itemsErr_c1 N) (F7 N 83))
theorem F8_ok (N : Nat) {R : Type} : FOK (F8 N : CfS R) (runF T) :=
  FOK_upd (F7_ok N) (Snd_ent (F7_ok N) (H := H_queues_itemsErr_c1) (Lp := Lqueues_itemsErr_c1_0 N) (X := X_queues_itemsErr_c1) (rp := []) (ver := c83) rfl (LOK_of (l := []) (by kernel_rfl) trivial) (fun x k => by kernel_rfl) (Snd_of (F7_ok N) 83 fun _ _ _ _ h => h))
def X_slices_IndexFunc_Lint_int : Nat → List SP := fun _ => []
def H_slices_IndexFunc_Lint_int : Nat → Option (List Sh) := fun n => none
noncomputable def Lslices_IndexFunc_Lint_int_0 (N : Nat) {R : Type} : Nat → StS → KS R → Option R := noL
def slices_IndexFunc_Lint_int_l0 (N : Nat) {R : Type} (k0 : Int → Int → Option R) (k1 : Int → Option R) : Nat → List Int → Int → Int → Int → Option R
  | 0, _, _, _, _ => none
  | n + 1, b0, b1, b2, b3 => (bif decide (b2 < b1) then ((at? b0 b2).bind fun x1 => (queues_itemsErr_c1 N x1 b3 (fun y2 y3 => (bif y2 then (k0 b2 y3) else (slices_IndexFunc_Lint_int_l0 N k0 k1 n b0 b1 (w64 (b2 + 1)) y3))))) else (k1 b3))
def Pslices_IndexFunc_Lint_int_l0 : SP := ⟨[(0, .p (.s (.sl [.i .i64]))), (1, .fn 83 [.ptr 0 0]), (7, .p (.s (.i .i64))), (8, .p (.s (.i .i64))), (100001, .fn 83 [.ptr 0 0])], [(0, .box [.p (.s (.i .i64))])]⟩
def eslices_IndexFunc_Lint_int_l0 (N : Nat) {R : Type} (n : Nat) (x : Pslices_IndexFunc_Lint_int_l0.den) (k : KS R) : Option R := slices_IndexFunc_Lint_int_l0 N (fun r0 r1 => k .ret ⟨[(4, .p (.i .i64 r0)), (100001, .fn 83 [.ptr 0 0])], [(0, .box [.p (.i .i64 r1)])]⟩) (fun r0 => k (.ex 0) ⟨[(100001, .fn 83 [.ptr 0 0])], [(0, .box [.p (.i .i64 r0)])]⟩) n x.1.1 x.1.2.2.1 x.1.2.2.2.1 x.2.1.1
theorem loop_slices_IndexFunc_Lint_int_l0 (N : Nat) {R : Type} : ∀ (n : Nat) (s : StS) (k : KS R) (r : R), lent' Pslices_IndexFunc_Lint_int_l0 (eslices_IndexFunc_Lint_int_l0 N n) s k = some r → ∃ e s', runL (runF T) [0, 1, 7, 8] c87_l0 s.enc = some (e, s'.enc) ∧ k e s' = some r :=
  loop_ok (F8_ok N) (H := H_slices_IndexFunc_Lint_int) (Lp := Lslices_IndexFunc_Lint_int_0 N) (X := X_slices_IndexFunc_Lint_int) (p := 26) (LOK_of (l := []) (by kernel_rfl) trivial) (fun _ _ => rfl) (fun n x k => by kernel_rfl)
noncomputable def Lslices_IndexFunc_Lint_int_1 (N : Nat) {R : Type} : Nat → StS → KS R → Option R := updL (Lslices_IndexFunc_Lint_int_0 N) 26 (lent' Pslices_IndexFunc_Lint_int_l0 (eslices_IndexFunc_Lint_int_l0 N N))
def slices_IndexFunc_Lint_int (N : Nat) {R : Type} (a0 : List Int) (a1 : Int) (k0 : Int → Int → Option R) : Option R := (slices_IndexFunc_Lint_int_l0 N (fun z4 z5 => (k0 z4 z5)) (fun z6 => (k0 (-1) z6)) N a0 ((a0.length : Nat) : Int) 0 a1)
def P_slices_IndexFunc_Lint_int : AP := ⟨[.p (.s (.sl [.i .i64])), .fn 83 [.ptr 0 0]], [(0, .box [.p (.s (.i .i64))])]⟩
def e_slices_IndexFunc_Lint_int (N : Nat) {R : Type} (x : P_slices_IndexFunc_Lint_int.den) (k : List Nat → List DS → HeapS → Option R) : Option R := slices_IndexFunc_Lint_int N x.1.1 x.2.1.1 (fun r0 r1 => k [0] [.p (.i .i64 r0)] [(0, .box [.p (.i .i64 r1)])])
noncomputable def F9 (N : Nat) {R : Type} : CfS R := updC (F8 N) 87 (ent P_slices_IndexFunc_Lint_int (e_slices_IndexFunc_Lint_int N) (F8 N 87))
theorem F9_ok (N : Nat) {R : Type} : FOK (F9 N : CfS R) (runF T) :=
  FOK_upd (F8_ok N) (Snd_ent (F8_ok N) (H := H_slices_IndexFunc_Lint_int) (Lp := Lslices_IndexFunc_Lint_int_1 N) (X := X_slices_IndexFunc_Lint_int) (rp := []) (ver := c87) rfl (LOK_of (l := [(26, [0, 1, 7, 8], c87_l0)]) (by kernel_rfl) ⟨(updL_ok (loop_slices_IndexFunc_Lint_int_l0 N N)), trivial⟩) (fun x k => by kernel_rfl) (Snd_of (F8_ok N) 87 fun _ _ _ _ h => h))
def X_slices_ContainsFunc_Lint_int : Nat → List SP := fun _ => []
def H_slices_ContainsFunc_Lint_int : Nat → Option (List Sh) := fun n => none
noncomputable def Lslices_ContainsFunc_Lint_int_0 (N : Nat) {R : Type} : Nat → StS → KS R → Option R := noL
def slices_ContainsFunc_Lint_int (N : Nat) {R : Type} (a0 : List Int) (a1 : Int) (k0 : Bool → Int → Option R) : Option R := (slices_IndexFunc_Lint_int N a0 a1 (fun y1 y2 => (k0 (decide (0 ≤ y1)) y2)))
def P_slices_ContainsFunc_Lint_int : AP := ⟨[.p (.s (.sl [.i .i64])), .fn 83 [.ptr 0 0]], [(0, .box [.p (.s (.i .i64))])]⟩
def e_slices_ContainsFunc_Lint_int (N : Nat) {R : Type} (x : P_slices_ContainsFunc_Lint_int.den) (k : List Nat → List DS → HeapS → Option R) : Option R := slices_ContainsFunc_Lint_int N x.1.1 x.2.1.1 (fun r0 r1 => k [0] [.p (.b r0)] [(0, .box [.p (.i .i64 r1)])])
noncomputable def F10 (N : Nat) {R : Type} : CfS R := updC (F9 N) 69 (ent P_slices_ContainsFunc_Lint_int (e_slices_ContainsFunc_Lint_int N) (F9 N 69))
theorem F10_ok (N : Nat) {R : Type} : FOK (F10 N : CfS R) (runF T) :=
  FOK_upd (F9_ok N) (Snd_ent (F9_ok N) (H := H_slices_ContainsFunc_Lint_int) (Lp := Lslices_ContainsFunc_Lint_int_0 N) (X := X_slices_ContainsFunc_Lint_int) (rp := []) (ver := c69) rfl (LOK_of (l := []) (by kernel_rfl) trivial) (fun x k => by kernel_rfl) (Snd_of (F9_ok N) 69 fun _ _ _ _ h => h))
def X_queues_placesOf : Nat → List SP := fun _ => []
def H_queues_placesOf : Nat → Option (List Sh) := fun n => none
noncomputable def Lqueues_placesOf_0 (N : Nat) {R : Type} : Nat → StS → KS R → Option R := noL
def queues_placesOf (N : Nat) {R : Type} (a0 : Int) (k0 : Int → Option R) : Option R := (bif decide (a0 = 1) then (k0 2) else (k0 1))
def P_queues_placesOf : AP := ⟨[.p (.s (.i .i64))], []⟩
def e_queues_placesOf (N : Nat) {R : Type} (x : P_queues_placesOf.den) (k : List Nat → List DS → HeapS → Option R) : Option R := queues_placesOf N x.1.1 (fun r0 => k [] [.p (.i .i64 r0)] [])
noncomputable def F11 (N : Nat) {R : Type} : CfS R := updC (F10 N) 55 (ent P_queues_placesOf (e_queues_placesOf N) (F10 N 55))
theorem F11_ok (N : Nat) {R : Type} : FOK (F11 N : CfS R) (runF T) :=
  FOK_upd (F10_ok N) (Snd_ent (F10_ok N) (H := H_queues_placesOf) (Lp := Lqueues_placesOf_0 N) (X := X_queues_placesOf) (rp := []) (ver := c55) rfl (LOK_of (l := []) (by kernel_rfl) trivial) (fun x k => by kernel_rfl) (Snd_of (F10_ok N) 55 fun _ _ _ _ h => h))
def X_queues_itemsErr : Nat → List SP := fun _ => []
def H_queues_itemsErr : Nat → Option (List Sh) := fun n => if n = 16000 then some [.i .i64] else none
noncomputable def Lqueues_itemsErr_0 (N : Nat) {R : Type} : Nat → StS → KS R → Option R := noL
def queues_itemsErr (N : Nat) {R : Type} (a0 : Int) (a1 : Int) (a2 : List Int) (k0 : Int → Option R) : Option R := (slices_ContainsFunc_Lint_int N a2 a1 (fun y1 y2 => (queues_placesOf N a0 (fun y3 => (queues_unless N (decide (((a2.length : Nat) : Int) ≤ y3)) 8 (fun y4 => (queues_unless N (!y1) 2 (fun y5 => (queues_first N [y4, y5] (fun y6 => (k0 y6)))))))))))
def P_queues_itemsErr : AP := ⟨[.p (.s (.i .i64)), .p (.s (.i .i64)), .p (.s (.sl [.i .i64]))], []⟩
def e_queues_itemsErr (N : Nat) {R : Type} (x : P_queues_itemsErr.den) (k : List Nat → List DS → HeapS → Option R) : Option R := queues_itemsErr N x.1.1 x.1.2.1 x.1.2.2.1 (fun r0 => k [] [.p (.i .i64 r0)] [])
noncomputable def F12 (N : Nat) {R : Type} : CfS R := updC (F11 N) 57 (ent P_queues_itemsErr (e_queues_itemsErr N) (F11 N 57))
theorem F12_ok (N : Nat) {R : Type} : FOK (F12 N : CfS R) (runF T) :=
  FOK_upd (F11_ok N) (Snd_ent (F11_ok N) (H := H_queues_itemsErr) (Lp := Lqueues_itemsErr_0 N) (X := X_queues_itemsErr) (rp := []) (ver := c57) rfl (LOK_of (l := []) (by kernel_rfl) trivial) (fun x k => by kernel_rfl) (Snd_of (F11_ok N) 57 fun _ _ _ _ h => h))
def X_queues_turnErr_c1 : Nat → List SP := fun _ => []
def H_queues_turnErr_c1 : Nat → Option (List Sh) := fun n => none
noncomputable def Lqueues_turnErr_c1_0 (N : Nat) {R : Type} : Nat → StS → KS R → Option R := noL
def queues_turnErr_c1 (N : Nat) {R : Type} (a0 : Int) (a1 : Int) (k0 : Bool → Int → Option R) : Option R := (queues_isValue N a0 a1 (fun y1 => (k0 (!y1) a1)))
def P_queues_turnErr_c1 : AP := ⟨[.p (.s (.i .i64)), .ptr 0 0], [(0, .box [.p (.s (.i .i64))])]⟩
def e_queues_turnErr_c1 (N : Nat) {R : Type} (x : P_queues_turnErr_c1.den) (k : List Nat → List DS → HeapS → Option R) : Option R := queues_turnErr_c1 N x.1.1 x.2.1.1 (fun r0 r1 => k [0] [.p (.b r0)] [(0, .box [.p (.i .i64 r1)])])
noncomputable def F13 (N : Nat) {R : Type} : CfS R := updC (F12 N) 84 (ent P_queues_turnErr_c1 (e_queues_turnErr_c1 N) (F12 N 84))
theorem F13_ok (N : Nat) {R : Type} : FOK (F13 N : CfS R) (runF T) :=
  FOK_upd (F12_ok N) (Snd_ent (F12_ok N) (H := H_queues_turnErr_c1) (Lp := Lqueues_turnErr_c1_0 N) (X := X_queues_turnErr_c1) (rp := []) (ver := c84) rfl (LOK_of (l := []) (by kernel_rfl) trivial) (fun x k => by kernel_rfl) (Snd_of (F12_ok N) 84 fun _ _ _ _ h => h))
def X_slices_IndexFunc_Lint_int_v1 : Nat → List SP := fun _ => []
def H_slices_IndexFunc_Lint_int_v1 : Nat → Option (List Sh) := fun n => none
noncomputable def Lslices_IndexFunc_Lint_int_v1_0 (N : Nat) {R : Type} : Nat → StS → KS R → Option R := noL
def slices_IndexFunc_Lint_int_v1_l0 (N : Nat) {R : Type} (k0 : Int → Int → Option R) (k1 : Int → Option R) : Nat → List Int → Int → Int → Int → Option R
  | 0, _, _, _, _ => none
  | n + 1, b0, b1, b2, b3 => (bif decide (b2 < b1) then ((at? b0 b2).bind fun x1 => (queues_turnErr_c1 N x1 b3 (fun y2 y3 => (bif y2 then (k0 b2 y3) else (slices_IndexFunc_Lint_int_v1_l0 N k0 k1 n b0 b1 (w64 (b2 + 1)) y3))))) else (k1 b3))
def Pslices_IndexFunc_Lint_int_v1_l0 : SP := ⟨[(0, .p (.s (.sl [.i .i64]))), (1, .fn 84 [.ptr 0 0]), (7, .p (.s (.i .i64))), (8, .p (.s (.i .i64))), (100001, .fn 84 [.ptr 0 0])], [(0, .box [.p (.s (.i .i64))])]⟩
def eslices_IndexFunc_Lint_int_v1_l0 (N : Nat) {R : Type} (n : Nat) (x : Pslices_IndexFunc_Lint_int_v1_l0.den) (k : KS R) : Option R := slices_IndexFunc_Lint_int_v1_l0 N (fun r0 r1 => k .ret ⟨[(4, .p (.i .i64 r0)), (100001, .fn 84 [.ptr 0 0])], [(0, .box [.p (.i .i64 r1)])]⟩) (fun r0 => k (.ex 0) ⟨[(100001, .fn 84 [.ptr 0 0])], [(0, .box [.p (.i .i64 r0)])]⟩) n x.1.1 x.1.2.2.1 x.1.2.2.2.1 x.2.1.1
theorem loop_slices_IndexFunc_Lint_int_v1_l0 (N : Nat) {R : Type} : ∀ (n : Nat) (s : StS) (k : KS R) (r : R), lent' Pslices_IndexFunc_Lint_int_v1_l0 (eslices_IndexFunc_Lint_int_v1_l0 N n) s k = some r → ∃ e s', runL (runF T) [0, 1, 7, 8] c87_l0 s.enc = some (e, s'.enc) ∧ k e s' = some r :=
  loop_ok (F13_ok N) (H := H_slices_IndexFunc_Lint_int_v1) (Lp := Lslices_IndexFunc_Lint_int_v1_0 N) (X := X_slices_IndexFunc_Lint_int_v1) (p := 26) (LOK_of (l := []) (by kernel_rfl) trivial) (fun _ _ => rfl) (fun n x k => by kernel_rfl)
noncomputable def Lslices_IndexFunc_Lint_int_v1_1 (N : Nat) {R : Type} : Nat → StS → KS R → Option R := updL (Lslices_IndexFunc_Lint_int_v1_0 N) 26 (lent' Pslices_IndexFunc_Lint_int_v1_l0 (eslices_IndexFunc_Lint_int_v1_l0 N N))
def slices_IndexFunc_Lint_int_v1 (N : Nat) {R : Type} (a0 : List Int) (a1 : Int) (k0 : Int → Int → Option R) : Option R := (slices_IndexFunc_Lint_int_v1_l0 N (fun z4 z5 => (k0 z4 z5)) (fun z6 => (k0 (-1) z6)) N a0 ((a0.length : Nat) : Int) 0 a1)
def P_slices_IndexFunc_Lint_int_v1 : AP := ⟨[.p (.s (.sl [.i .i64])), .fn 84 [.ptr 0 0]], [(0, .box [.p (.s (.i .i64))])]⟩
def e_slices_IndexFunc_Lint_int_v1 (N : Nat) {R : Type} (x : P_slices_IndexFunc_Lint_int_v1.den) (k : List Nat → List DS → HeapS → Option R) : Option R := slices_IndexFunc_Lint_int_v1 N x.1.1 x.2.1.1 (fun r0 r1 => k [0] [.p (.i .i64 r0)] [(0, .box [.p (.i .i64 r1)])])
noncomputable def F14 (N : Nat) {R : Type} : CfS R := updC (F13 N) 87 (ent P_slices_IndexFunc_Lint_int_v1 (e_slices_IndexFunc_Lint_int_v1 N) (F13 N 87))
theorem F14_ok (N : Nat) {R : Type} : FOK (F14 N : CfS R) (runF T) :=
  FOK_upd (F13_ok N) (Snd_ent (F13_ok N) (H := H_slices_IndexFunc_Lint_int_v1) (Lp := Lslices_IndexFunc_Lint_int_v1_1 N) (X := X_slices_IndexFunc_Lint_int_v1) (rp := []) (ver := c87) rfl (LOK_of (l := [(26, [0, 1, 7, 8], c87_l0)]) (by kernel_rfl) ⟨(updL_ok (loop_slices_IndexFunc_Lint_int_v1_l0 N N)), trivial⟩) (fun x k => by kernel_rfl) (Snd_of (F13_ok N) 87 fun _ _ _ _ h => h))
def X_slices_ContainsFunc_Lint_int_v1 : Nat → List SP := fun _ => []
def H_slices_ContainsFunc_Lint_int_v1 : Nat → Option (List Sh) := fun n => none
noncomputable def Lslices_ContainsFunc_Lint_int_v1_0 (N : Nat) {R : Type} : Nat → StS → KS R → Option R := noL
def slices_ContainsFunc_Lint_int_v1 (N : Nat) {R : Type} (a0 : List Int) (a1 : Int) (k0 : Bool → Int → Option R) : Option R := (slices_IndexFunc_Lint_int_v1 N a0 a1 (fun y1 y2 => (k0 (decide (0 ≤ y1)) y2)))
def P_slices_ContainsFunc_Lint_int_v1 : AP := ⟨[.p (.s (.sl [.i .i64])), .fn 84 [.ptr 0 0]], [(0, .box [.p (.s (.i .i64))])]⟩
def e_slices_ContainsFunc_Lint_int_v1 (N : Nat) {R : Type} (x : P_slices_ContainsFunc_Lint_int_v1.den) (k : List Nat → List DS → HeapS → Option R) : Option R := slices_ContainsFunc_Lint_int_v1 N x.1.1 x.2.1.1 (fun r0 r1 => k [0] [.p (.b r0)] [(0, .box [.p (.i .i64 r1)])])
noncomputable def F15 (N : Nat) {R : Type} : CfS R := updC (F14 N) 69 (ent P_slices_ContainsFunc_Lint_int_v1 (e_slices_ContainsFunc_Lint_int_v1 N) (F14 N 69))
theorem F15_ok (N : Nat) {R : Type} : FOK (F15 N : CfS R) (runF T) :=
  FOK_upd (F14_ok N) (Snd_ent (F14_ok N) (H := H_slices_ContainsFunc_Lint_int_v1) (Lp := Lslices_ContainsFunc_Lint_int_v1_0 N) (X := X_slices_ContainsFunc_Lint_int_v1) (rp := []) (ver := c69) rfl (LOK_of (l := []) (by kernel_rfl) trivial) (fun x k => by kernel_rfl) (Snd_of (F14_ok N) 69 fun _ _ _ _ h => h))
def X_queues_turnErr : Nat → List SP := fun _ => []
def H_queues_turnErr : Nat → Option (List Sh) := fun n => if n = 17000 then some [.i .i64] else none
noncomputable def Lqueues_turnErr_0 (N : Nat) {R : Type} : Nat → StS → KS R → Option R := noL
def queues_turnErr (N : Nat) {R : Type} (a0 : Int) (a1 : List Int) (a2 : Bool) (k0 : Int → Option R) : Option R := (slices_ContainsFunc_Lint_int_v1 N a1 a0 (fun y1 y2 => (queues_unless N (decide (((a1.length : Nat) : Int) ≤ 1)) 10 (fun y3 => (queues_unless N (!y1) 2 (fun y4 => (queues_first N [y3, y4] (fun y5 => (k0 y5)))))))))
def P_queues_turnErr : AP := ⟨[.p (.s (.i .i64)), .agg [.p (.s (.sl [.i .i64])), .p (.s .b)]], []⟩
def e_queues_turnErr (N : Nat) {R : Type} (x : P_queues_turnErr.den) (k : List Nat → List DS → HeapS → Option R) : Option R := queues_turnErr N x.1.1 x.1.2.1.1 x.1.2.1.2.1 (fun r0 => k [] [.p (.i .i64 r0)] [])
noncomputable def F16 (N : Nat) {R : Type} : CfS R := updC (F15 N) 58 (ent P_queues_turnErr (e_queues_turnErr N) (F15 N 58))
theorem F16_ok (N : Nat) {R : Type} : FOK (F16 N : CfS R) (runF T) :=
  FOK_upd (F15_ok N) (Snd_ent (F15_ok N) (H := H_queues_turnErr) (Lp := Lqueues_turnErr_0 N) (X := X_queues_turnErr) (rp := []) (ver := c58) rfl (LOK_of (l := []) (by kernel_rfl) trivial) (fun x k => by kernel_rfl) (Snd_of (F15_ok N) 58 fun _ _ _ _ h => h))
def X_queues_turn : Nat → List SP := fun _ => []
def H_queues_turn : Nat → Option (List Sh) := fun n => if n = 35000 then some [.i .i64] else if n = 77000 then some [.i .i64] else none
noncomputable def Lqueues_turn_0 (N : Nat) {R : Type} : Nat → StS → KS R → Option R := noL
def queues_turn_j2 (N : Nat) {R : Type} (k0 : Nat → Nat → Bool → List Int → List Int → Option R) (k1 : Nat → Nat → Bool → Nat → Nat → List Int → Option R) (k2 : Bool → List Int → Option R) (b0 : Int) (b1 : Bool) (b2 : Bool) (b3 : Bool) (b4 : List Int) (b5 : Bool) (b6 : Bool) (b7 : Bool) (b8 : List Int) : Option R := (bif b3 then (bif slB 0 1 1 b8.length 0 b8.length then (bif slB 1 ((b8.length : Nat) : Int) ((b8.length : Nat) : Int) b8.length 0 b8.length then (bif decide (b0 = 2) then (bif b1 then (bif b2 then (bif decide (b0 ≠ 3) then (bif decide ((1 + (b8.length - 1)) ≤ b8.length) then (bif roomB ((List.take (b8.length - 1) (List.drop 1 b8)).length) 8 then ((at? b4 0).bind fun x1 => (bif roomB ((List.take (b8.length - 1) (List.drop 1 b8)).length + 1) 8 then (k0 0 1 true b8 ((List.take (b8.length - 1) (List.drop 1 b8)) ++ [x1])) else none)) else none) else none) else (k1 0 1 true 1 (b8.length - 1) b8)) else (bif decide (b0 ≠ 3) then (bif b3 then (bif decide ((1 + (b8.length - 1)) ≤ b8.length) then (bif roomB ((List.take (b8.length - 1) (List.drop 1 b8)).length) 8 then ((at? b4 0).bind fun x2 => (bif roomB ((List.take (b8.length - 1) (List.drop 1 b8)).length + 1) 8 then (k0 0 1 b3 b8 ((List.take (b8.length - 1) (List.drop 1 b8)) ++ [x2])) else none)) else none) else none) else (k1 0 1 b3 1 (b8.length - 1) b8)) else (k1 0 1 b3 1 (b8.length - 1) b8))) else (bif decide (b0 ≠ 3) then (k1 0 1 false 1 (b8.length - 1) b8) else (k1 0 1 false 1 (b8.length - 1) b8))) else (bif decide (b0 ≠ 3) then (bif b7 then (bif decide ((1 + (b8.length - 1)) ≤ b8.length) then (bif roomB ((List.take (b8.length - 1) (List.drop 1 b8)).length) 8 then ((at? b4 0).bind fun x3 => (bif roomB ((List.take (b8.length - 1) (List.drop 1 b8)).length + 1) 8 then (k0 0 1 b7 b8 ((List.take (b8.length - 1) (List.drop 1 b8)) ++ [x3])) else none)) else none) else none) else (k1 0 1 b7 1 (b8.length - 1) b8)) else (k1 0 1 b7 1 (b8.length - 1) b8))) else none) else none) else (bif decide (b0 = 2) then (bif b1 then (bif b2 then (bif decide (b0 ≠ 3) then (bif roomB b8.length 8 then ((at? b4 0).bind fun x4 => (bif roomB (b8.length + 1) 8 then (k2 true (b8 ++ [x4])) else none)) else none) else (k2 true b8)) else (bif decide (b0 ≠ 3) then (bif b3 then (bif roomB b8.length 8 then ((at? b4 0).bind fun x5 => (bif roomB (b8.length + 1) 8 then (k2 b3 (b8 ++ [x5])) else none)) else none) else (k2 b3 b8)) else (k2 b3 b8))) else (bif decide (b0 ≠ 3) then (k2 false b8) else (k2 false b8))) else (bif decide (b0 ≠ 3) then (bif b7 then (bif roomB b8.length 8 then ((at? b4 0).bind fun x6 => (bif roomB (b8.length + 1) 8 then (k2 b7 (b8 ++ [x6])) else none)) else none) else (k2 b7 b8)) else (k2 b7 b8))))
def Pqueues_turn_j2 : SP := ⟨[(0, .p (.s (.i .i64))), (5, .ptr 0 0), (6, .ptr 1 0), (7, .p (.s .b)), (8, .p (.s .b)), (9, .ptr 4 0), (10, .own 7), (11, .p (.s .b))], [(0, .box [.p (.s (.sl [.i .i64])), .p (.s .b)]), (1, .box [.own 2, .p (.s .b), .own 3]), (2, .em 1), (3, .em 1), (4, .box [.own 5, .p (.s .b), .own 6]), (5, .em 1), (6, .em 1), (7, .arr [.i .i64])]⟩
def equeues_turn_j2 (N : Nat) {R : Type} (n : Nat) (x : Pqueues_turn_j2.den) (k : KS R) : Option R := match n with
  | 0 => none
  | _ + 1 => queues_turn_j2 N (fun r0 r1 r2 r3 r4 => k .ret ⟨[(6, .ptr 0 0)], [(0, .box [.arr 1 r0 r1 false, .p (.b r2), .own 2]), (1, .frz (.t [.i .i64] r3)), (2, .arr (.t [.i .i64] r4))]⟩) (fun r0 r1 r2 r3 r4 r5 => k .ret ⟨[(6, .ptr 0 0)], [(0, .box [.arr 1 r0 r1 false, .p (.b r2), .arr 1 r3 r4 true]), (1, .arr (.t [.i .i64] r5))]⟩) (fun r0 r1 => k .ret ⟨[(6, .ptr 0 0)], [(0, .box [.own 1, .p (.b r0), .own 2]), (1, .arr (.e 1)), (2, .arr (.t [.i .i64] r1))]⟩) x.1.1 x.1.2.2.2.1 x.1.2.2.2.2.1 x.1.2.2.2.2.2.2.2.1 x.2.1.1 x.2.1.2.1 x.2.2.1.2.1 x.2.2.2.2.2.1.2.1 x.2.2.2.2.2.2.2.2.1
theorem loop_queues_turn_j2 (N : Nat) {R : Type} : ∀ (n : Nat) (s : StS) (k : KS R) (r : R), lent' Pqueues_turn_j2 (equeues_turn_j2 N n) s k = some r → ∃ e s', runL (runF T) [0, 5, 6, 7, 8, 9, 10, 11] c59_j2 s.enc = some (e, s'.enc) ∧ k e s' = some r :=
  loop_ok (F16_ok N) (H := H_queues_turn) (Lp := Lqueues_turn_0 N) (X := X_queues_turn) (p := 31842) (LOK_of (l := []) (by kernel_rfl) trivial) (fun _ _ => rfl) (fun n x k => by kernel_rfl)
noncomputable def Lqueues_turn_1 (N : Nat) {R : Type} : Nat → StS → KS R → Option R := updL (Lqueues_turn_0 N) 31842 (lent' Pqueues_turn_j2 (equeues_turn_j2 N 1))
def queues_turn_j1 (N : Nat) {R : Type} (k0 : Nat → Nat → Bool → List Int → List Int → Option R) (k1 : Nat → Nat → Bool → Nat → Nat → List Int → Option R) (k2 : Bool → List Int → Option R) (b0 : Int) (b1 : Bool) (b2 : Bool) (b3 : List Int) (b4 : Bool) (b5 : Bool) (b6 : Bool) (b7 : List Int) : Option R := (bif b4 then (queues_turn_j2 N (fun z7 z8 z9 z10 z11 => (k0 z7 z8 z9 z10 z11)) (fun z12 z13 z14 z15 z16 z17 => (k1 z12 z13 z14 z15 z16 z17)) (fun z18 z19 => (k2 z18 z19)) b0 b1 b2 (decide (0 < ((b7.length : Nat) : Int))) b3 b4 b5 b6 b7) else (queues_turn_j2 N (fun z20 z21 z22 z23 z24 => (k0 z20 z21 z22 z23 z24)) (fun z25 z26 z27 z28 z29 z30 => (k1 z25 z26 z27 z28 z29 z30)) (fun z31 z32 => (k2 z31 z32)) b0 b1 b2 false b3 b4 b5 b6 b7))
def Pqueues_turn_j1 : SP := ⟨[(0, .p (.s (.i .i64))), (5, .ptr 0 0), (6, .ptr 1 0), (7, .p (.s .b)), (8, .p (.s .b)), (9, .ptr 4 0), (10, .own 7)], [(0, .box [.p (.s (.sl [.i .i64])), .p (.s .b)]), (1, .box [.own 2, .p (.s .b), .own 3]), (2, .em 1), (3, .em 1), (4, .box [.own 5, .p (.s .b), .own 6]), (5, .em 1), (6, .em 1), (7, .arr [.i .i64])]⟩
def equeues_turn_j1 (N : Nat) {R : Type} (n : Nat) (x : Pqueues_turn_j1.den) (k : KS R) : Option R := match n with
  | 0 => none
  | _ + 1 => queues_turn_j1 N (fun r0 r1 r2 r3 r4 => k .ret ⟨[(6, .ptr 0 0)], [(0, .box [.arr 1 r0 r1 false, .p (.b r2), .own 2]), (1, .frz (.t [.i .i64] r3)), (2, .arr (.t [.i .i64] r4))]⟩) (fun r0 r1 r2 r3 r4 r5 => k .ret ⟨[(6, .ptr 0 0)], [(0, .box [.arr 1 r0 r1 false, .p (.b r2), .arr 1 r3 r4 true]), (1, .arr (.t [.i .i64] r5))]⟩) (fun r0 r1 => k .ret ⟨[(6, .ptr 0 0)], [(0, .box [.own 1, .p (.b r0), .own 2]), (1, .arr (.e 1)), (2, .arr (.t [.i .i64] r1))]⟩) x.1.1 x.1.2.2.2.1 x.1.2.2.2.2.1 x.2.1.1 x.2.1.2.1 x.2.2.1.2.1 x.2.2.2.2.2.1.2.1 x.2.2.2.2.2.2.2.2.1
theorem loop_queues_turn_j1 (N : Nat) {R : Type} : ∀ (n : Nat) (s : StS) (k : KS R) (r : R), lent' Pqueues_turn_j1 (equeues_turn_j1 N n) s k = some r → ∃ e s', runL (runF T) [0, 5, 6, 7, 8, 9, 10] c59_j1 s.enc = some (e, s'.enc) ∧ k e s' = some r :=
  loop_ok (F16_ok N) (H := H_queues_turn) (Lp := Lqueues_turn_1 N) (X := X_queues_turn) (p := 1990) (LOK_of (l := [(31842, [0, 5, 6, 7, 8, 9, 10, 11], c59_j2)]) (by kernel_rfl) ⟨(updL_ok (loop_queues_turn_j2 N 1)), trivial⟩) (fun _ _ => rfl) (fun n x k => by kernel_rfl)
noncomputable def Lqueues_turn_2 (N : Nat) {R : Type} : Nat → StS → KS R → Option R := updL (Lqueues_turn_1 N) 1990 (lent' Pqueues_turn_j1 (equeues_turn_j1 N 1))
def queues_turn_j0 (N : Nat) {R : Type} (k0 : Nat → Nat → Bool → List Int → List Int → Option R) (k1 : Nat → Nat → Bool → Nat → Nat → List Int → Option R) (k2 : Bool → List Int → Option R) (b0 : Int) (b1 : List Int) (b2 : Bool) (b3 : Bool) (b4 : List Int) (b5 : Bool) (b6 : Bool) (b7 : Bool) : Option R := (bif roomB b1.length 8 then (bif decide (b0 = 3) then (bif b7 then ((at? b4 0).bind fun x1 => (bif roomB (b1.length + 1) 8 then (queues_turn_j1 N (fun z33 z34 z35 z36 z37 => (k0 z33 z34 z35 z36 z37)) (fun z38 z39 z40 z41 z42 z43 => (k1 z38 z39 z40 z41 z42 z43)) (fun z44 z45 => (k2 z44 z45)) b0 b2 b3 b4 b5 b6 b7 (b1 ++ [x1])) else none)) else (queues_turn_j1 N (fun z46 z47 z48 z49 z50 => (k0 z46 z47 z48 z49 z50)) (fun z51 z52 z53 z54 z55 z56 => (k1 z51 z52 z53 z54 z55 z56)) (fun z57 z58 => (k2 z57 z58)) b0 b2 b3 b4 b5 b6 b7 b1)) else (queues_turn_j1 N (fun z59 z60 z61 z62 z63 => (k0 z59 z60 z61 z62 z63)) (fun z64 z65 z66 z67 z68 z69 => (k1 z64 z65 z66 z67 z68 z69)) (fun z70 z71 => (k2 z70 z71)) b0 b2 b3 b4 b5 b6 b7 b1)) else none)
def Pqueues_turn_j0 : SP := ⟨[(0, .p (.s (.i .i64))), (1, .p (.s (.sl [.i .i64]))), (5, .ptr 0 0), (6, .ptr 1 0), (7, .p (.s .b)), (8, .p (.s .b)), (9, .ptr 4 0)], [(0, .box [.p (.s (.sl [.i .i64])), .p (.s .b)]), (1, .box [.own 2, .p (.s .b), .own 3]), (2, .em 1), (3, .em 1), (4, .box [.own 5, .p (.s .b), .own 6]), (5, .em 1), (6, .em 1)]⟩
def equeues_turn_j0 (N : Nat) {R : Type} (n : Nat) (x : Pqueues_turn_j0.den) (k : KS R) : Option R := match n with
  | 0 => none
  | _ + 1 => queues_turn_j0 N (fun r0 r1 r2 r3 r4 => k .ret ⟨[(6, .ptr 0 0)], [(0, .box [.arr 1 r0 r1 false, .p (.b r2), .own 2]), (1, .frz (.t [.i .i64] r3)), (2, .arr (.t [.i .i64] r4))]⟩) (fun r0 r1 r2 r3 r4 r5 => k .ret ⟨[(6, .ptr 0 0)], [(0, .box [.arr 1 r0 r1 false, .p (.b r2), .arr 1 r3 r4 true]), (1, .arr (.t [.i .i64] r5))]⟩) (fun r0 r1 => k .ret ⟨[(6, .ptr 0 0)], [(0, .box [.own 1, .p (.b r0), .own 2]), (1, .arr (.e 1)), (2, .arr (.t [.i .i64] r1))]⟩) x.1.1 x.1.2.1 x.1.2.2.2.2.1 x.1.2.2.2.2.2.1 x.2.1.1 x.2.1.2.1 x.2.2.1.2.1 x.2.2.2.2.2.1.2.1
theorem loop_queues_turn_j0 (N : Nat) {R : Type} : ∀ (n : Nat) (s : StS) (k : KS R) (r : R), lent' Pqueues_turn_j0 (equeues_turn_j0 N n) s k = some r → ∃ e s', runL (runF T) [0, 1, 5, 6, 7, 8, 9] c59_j0 s.enc = some (e, s'.enc) ∧ k e s' = some r :=
  loop_ok (F16_ok N) (H := H_queues_turn) (Lp := Lqueues_turn_2 N) (X := X_queues_turn) (p := 62) (LOK_of (l := [(1990, [0, 5, 6, 7, 8, 9, 10], c59_j1)]) (by kernel_rfl) ⟨(updL_ok (loop_queues_turn_j1 N 1)), trivial⟩) (fun _ _ => rfl) (fun n x k => by kernel_rfl)
noncomputable def Lqueues_turn_3 (N : Nat) {R : Type} : Nat → StS → KS R → Option R := updL (Lqueues_turn_2 N) 62 (lent' Pqueues_turn_j0 (equeues_turn_j0 N 1))
def queues_turn (N : Nat) {R : Type} (a0 : Int) (a1 : List Int) (a2 : List Int) (a3 : Bool) (k0 : List Int → Bool → List Int → Option R) : Option R := (queues_placesOf N a0 (fun y1 => (bif decide (0 < ((a2.length : Nat) : Int)) then (queues_turn_j0 N (fun z72 z73 z74 z75 z76 => (bif decide ((z72 + z73) ≤ z75.length) then (k0 (List.take z73 (List.drop z72 z75)) z74 z76) else none)) (fun z77 z78 z79 z80 z81 z82 => (bif decide ((z77 + z78) ≤ z82.length) then (bif decide ((z80 + z81) ≤ z82.length) then (k0 (List.take z78 (List.drop z77 z82)) z79 (List.take z81 (List.drop z80 z82))) else none) else none)) (fun z83 z84 => (k0 [] z83 z84)) a0 a1 (decide (0 < ((a2.length : Nat) : Int))) (decide (((a1.length : Nat) : Int) < y1)) a2 a3 false (decide (((a1.length : Nat) : Int) < y1))) else (queues_turn_j0 N (fun z85 z86 z87 z88 z89 => (bif decide ((z85 + z86) ≤ z88.length) then (k0 (List.take z86 (List.drop z85 z88)) z87 z89) else none)) (fun z90 z91 z92 z93 z94 z95 => (bif decide ((z90 + z91) ≤ z95.length) then (bif decide ((z93 + z94) ≤ z95.length) then (k0 (List.take z91 (List.drop z90 z95)) z92 (List.take z94 (List.drop z93 z95))) else none) else none)) (fun z96 z97 => (k0 [] z96 z97)) a0 a1 (decide (0 < ((a2.length : Nat) : Int))) (decide (((a1.length : Nat) : Int) < y1)) a2 a3 false false))))
def P_queues_turn : AP := ⟨[.p (.s (.i .i64)), .p (.s (.sl [.i .i64])), .agg [.p (.s (.sl [.i .i64])), .p (.s .b)]], []⟩
def e_queues_turn (N : Nat) {R : Type} (x : P_queues_turn.den) (k : List Nat → List DS → HeapS → Option R) : Option R := queues_turn N x.1.1 x.1.2.1 x.1.2.2.1.1 x.1.2.2.1.2.1 (fun r0 r1 r2 => k [] [.agg [.p (.l (.t [.i .i64] r0)), .p (.b r1), .p (.l (.t [.i .i64] r2))]] [])
noncomputable def F17 (N : Nat) {R : Type} : CfS R := updC (F16 N) 59 (ent P_queues_turn (e_queues_turn N) (F16 N 59))
theorem F17_ok (N : Nat) {R : Type} : FOK (F17 N : CfS R) (runF T) :=
  FOK_upd (F16_ok N) (Snd_ent (F16_ok N) (H := H_queues_turn) (Lp := Lqueues_turn_3 N) (X := X_queues_turn) (rp := [⟨[.agg [.p (.s (.sl [.i .i64])), .p (.s .b), .p (.s (.sl [.i .i64]))]], []⟩]) (ver := c59) rfl (LOK_of (l := [(62, [0, 1, 5, 6, 7, 8, 9], c59_j0)]) (by kernel_rfl) ⟨(updL_ok (loop_queues_turn_j0 N 1)), trivial⟩) (fun x k => by kernel_rfl) (Snd_of (F16_ok N) 59 fun _ _ _ _ h => h))
def X_queues_TurnOf : Nat → List SP := fun _ => []
def H_queues_TurnOf : Nat → Option (List Sh) := fun n => if n = 21000 then some [.i .i64] else none
noncomputable def Lqueues_TurnOf_0 (N : Nat) {R : Type} : Nat → StS → KS R → Option R := noL
def queues_TurnOf (N : Nat) {R : Type} (a0 : Int) (a1 : Int) (a2 : List Int) (a3 : List Int) (a4 : Bool) (k0 : List Int → Bool → List Int → Int → Option R) : Option R := (queues_openErr N a0 a1 (fun y1 => (bif decide (y1 ≠ 0) then (k0 [] false [] y1) else (queues_itemsErr N a0 a1 a2 (fun y2 => (queues_turnErr N a1 a3 a4 (fun y3 => (queues_first N [y2, y3] (fun y4 => (bif decide (y4 ≠ 0) then (k0 [] false [] y4) else (queues_turn N a0 a2 a3 a4 (fun y5 y6 y7 => (k0 y5 y6 y7 0)))))))))))))
def P_queues_TurnOf : AP := ⟨[.p (.s (.i .i64)), .p (.s (.i .i64)), .p (.s (.sl [.i .i64])), .agg [.p (.s (.sl [.i .i64])), .p (.s .b)]], []⟩
def e_queues_TurnOf (N : Nat) {R : Type} (x : P_queues_TurnOf.den) (k : List Nat → List DS → HeapS → Option R) : Option R := queues_TurnOf N x.1.1 x.1.2.1 x.1.2.2.1 x.1.2.2.2.1.1 x.1.2.2.2.1.2.1 (fun r0 r1 r2 r3 => k [] [.agg [.p (.l (.t [.i .i64] r0)), .p (.b r1), .p (.l (.t [.i .i64] r2))], .p (.i .i64 r3)] [])
noncomputable def F18 (N : Nat) {R : Type} : CfS R := updC (F17 N) 16 (ent P_queues_TurnOf (e_queues_TurnOf N) (F17 N 16))
theorem F18_ok (N : Nat) {R : Type} : FOK (F18 N : CfS R) (runF T) :=
  FOK_upd (F17_ok N) (Snd_ent (F17_ok N) (H := H_queues_TurnOf) (Lp := Lqueues_TurnOf_0 N) (X := X_queues_TurnOf) (rp := [⟨[.agg [.p (.s (.sl [.i .i64])), .p (.s .b), .p (.s (.sl [.i .i64]))], .p (.s (.i .i64))], []⟩]) (ver := c16) rfl (LOK_of (l := []) (by kernel_rfl) trivial) (fun x k => by kernel_rfl) (Snd_of (F17_ok N) 16 fun _ _ _ _ h => h))
def X_ratchetlaw19_Acts : Nat → List SP := fun _ => []
def H_ratchetlaw19_Acts : Nat → Option (List Sh) := fun n => if n = 12000 then some [.i .i64, .i .i64, .i .i64] else none
noncomputable def Lratchetlaw19_Acts_0 (N : Nat) {R : Type} : Nat → StS → KS R → Option R := noL
def ratchetlaw19_Acts (N : Nat) {R : Type} (k0 : (List (Int × Int × Int)) → Option R) : Option R := (k0 [(0, 0, 0), (0, 0, 0), (0, 0, 0), (1, 1, 8), (2, 0, 0), (1, 0, 6), (2, 0, 0), (2, 0, 0), (2, 0, 0), (0, 0, 0)])
def P_ratchetlaw19_Acts : AP := ⟨[], []⟩
def e_ratchetlaw19_Acts (N : Nat) {R : Type} (x : P_ratchetlaw19_Acts.den) (k : List Nat → List DS → HeapS → Option R) : Option R := ratchetlaw19_Acts N (fun r0 => k [] [.p (.l (.t [.i .i64, .i .i64, .i .i64] r0))] [])
noncomputable def F19 (N : Nat) {R : Type} : CfS R := updC (F18 N) 46 (ent P_ratchetlaw19_Acts (e_ratchetlaw19_Acts N) (F18 N 46))
theorem F19_ok (N : Nat) {R : Type} : FOK (F19 N : CfS R) (runF T) :=
  FOK_upd (F18_ok N) (Snd_ent (F18_ok N) (H := H_ratchetlaw19_Acts) (Lp := Lratchetlaw19_Acts_0 N) (X := X_ratchetlaw19_Acts) (rp := []) (ver := c46) rfl (LOK_of (l := []) (by kernel_rfl) trivial) (fun x k => by kernel_rfl) (Snd_of (F18_ok N) 46 fun _ _ _ _ h => h))
def X_queues_isNumber : Nat → List SP := fun _ => []
def H_queues_isNumber : Nat → Option (List Sh) := fun n => none
noncomputable def Lqueues_isNumber_0 (N : Nat) {R : Type} : Nat → StS → KS R → Option R := noL
def queues_isNumber (N : Nat) {R : Type} (a0 : Int) (k0 : Bool → Option R) : Option R := (queues_within N a0 0 1000000 (fun y1 => (k0 y1)))
def P_queues_isNumber : AP := ⟨[.p (.s (.i .i64))], []⟩
def e_queues_isNumber (N : Nat) {R : Type} (x : P_queues_isNumber.den) (k : List Nat → List DS → HeapS → Option R) : Option R := queues_isNumber N x.1.1 (fun r0 => k [] [.p (.b r0)] [])
noncomputable def F20 (N : Nat) {R : Type} : CfS R := updC (F19 N) 52 (ent P_queues_isNumber (e_queues_isNumber N) (F19 N 52))
theorem F20_ok (N : Nat) {R : Type} : FOK (F20 N : CfS R) (runF T) :=
  FOK_upd (F19_ok N) (Snd_ent (F19_ok N) (H := H_queues_isNumber) (Lp := Lqueues_isNumber_0 N) (X := X_queues_isNumber) (rp := []) (ver := c52) rfl (LOK_of (l := []) (by kernel_rfl) trivial) (fun x k => by kernel_rfl) (Snd_of (F19_ok N) 52 fun _ _ _ _ h => h))
def X_queues_BufferRun_c1 : Nat → List SP := fun _ => []
def H_queues_BufferRun_c1 : Nat → Option (List Sh) := fun n => if n = 25000 then some [.i .i64] else none
noncomputable def Lqueues_BufferRun_c1_0 (N : Nat) {R : Type} : Nat → StS → KS R → Option R := noL
def queues_BufferRun_c1_j0 (N : Nat) {R : Type} (k0 : Int → Int → Option R) (b0 : Bool) (b1 : Int) (b2 : Int) (b3 : Int) (b4 : Int) : Option R := (queues_within N b1 0 2 (fun y1 => (queues_unless N y1 15 (fun y2 => (queues_unless N b0 2 (fun y3 => (queues_first N [y2, y3] (fun y4 => (k0 y4 b4)))))))))
def Pqueues_BufferRun_c1_j0 : SP := ⟨[(4, .ptr 0 0), (6, .p (.s .b)), (100002, .ptr 1 0)], [(0, .box [.p (.s (.i .i64)), .p (.s (.i .i64)), .p (.s (.i .i64))]), (1, .box [.p (.s (.i .i64))])]⟩
def equeues_BufferRun_c1_j0 (N : Nat) {R : Type} (n : Nat) (x : Pqueues_BufferRun_c1_j0.den) (k : KS R) : Option R := match n with
  | 0 => none
  | _ + 1 => queues_BufferRun_c1_j0 N (fun r0 r1 => k .ret ⟨[(5, .p (.i .i64 r0)), (100002, .ptr 0 0)], [(0, .box [.p (.i .i64 r1)])]⟩) x.1.2.1 x.2.1.1 x.2.1.2.1 x.2.1.2.2.1 x.2.2.1.1
theorem loop_queues_BufferRun_c1_j0 (N : Nat) {R : Type} : ∀ (n : Nat) (s : StS) (k : KS R) (r : R), lent' Pqueues_BufferRun_c1_j0 (equeues_BufferRun_c1_j0 N n) s k = some r → ∃ e s', runL (runF T) [4, 6] c51_j0 s.enc = some (e, s'.enc) ∧ k e s' = some r :=
  loop_ok (F20_ok N) (H := H_queues_BufferRun_c1) (Lp := Lqueues_BufferRun_c1_0 N) (X := X_queues_BufferRun_c1) (p := 14) (LOK_of (l := []) (by kernel_rfl) trivial) (fun _ _ => rfl) (fun n x k => by kernel_rfl)
noncomputable def Lqueues_BufferRun_c1_1 (N : Nat) {R : Type} : Nat → StS → KS R → Option R := updL (Lqueues_BufferRun_c1_0 N) 14 (lent' Pqueues_BufferRun_c1_j0 (equeues_BufferRun_c1_j0 N 1))
def queues_BufferRun_c1 (N : Nat) {R : Type} (a0 : Int) (a1 : Int) (a2 : Int) (a3 : Int) (a4 : Int) (k0 : Int → Int → Option R) : Option R := (bif decide (a1 ≠ 1) then (queues_BufferRun_c1_j0 N (fun z5 z6 => (k0 z5 z6)) true a1 a2 a3 a4) else (queues_within N a2 0 (w64 (a4 - 1)) (fun y7 => (bif y7 then (queues_isNumber N a3 (fun y8 => (queues_BufferRun_c1_j0 N (fun z9 z10 => (k0 z9 z10)) y8 a1 a2 a3 a4))) else (queues_BufferRun_c1_j0 N (fun z11 z12 => (k0 z11 z12)) false a1 a2 a3 a4)))))
def P_queues_BufferRun_c1 : AP := ⟨[.p (.s (.i .i64)), .agg [.p (.s (.i .i64)), .p (.s (.i .i64)), .p (.s (.i .i64))], .ptr 0 0], [(0, .box [.p (.s (.i .i64))])]⟩
def e_queues_BufferRun_c1 (N : Nat) {R : Type} (x : P_queues_BufferRun_c1.den) (k : List Nat → List DS → HeapS → Option R) : Option R := queues_BufferRun_c1 N x.1.1 x.1.2.1.1 x.1.2.1.2.1 x.1.2.1.2.2.1 x.2.1.1 (fun r0 r1 => k [0] [.p (.i .i64 r0)] [(0, .box [.p (.i .i64 r1)])])
noncomputable def F21 (N : Nat) {R : Type} : CfS R := updC (F20 N) 51 (ent P_queues_BufferRun_c1 (e_queues_BufferRun_c1 N) (F20 N 51))
theorem F21_ok (N : Nat) {R : Type} : FOK (F21 N : CfS R) (runF T) :=
  FOK_upd (F20_ok N) (Snd_ent (F20_ok N) (H := H_queues_BufferRun_c1) (Lp := Lqueues_BufferRun_c1_1 N) (X := X_queues_BufferRun_c1) (rp := []) (ver := c51) rfl (LOK_of (l := [(14, [4, 6], c51_j0)]) (by kernel_rfl) ⟨(updL_ok (loop_queues_BufferRun_c1_j0 N 1)), trivial⟩) (fun x k => by kernel_rfl) (Snd_of (F20_ok N) 51 fun _ _ _ _ h => h))
def X_queues_each_QueueAct : Nat → List SP := fun _ => []
def H_queues_each_QueueAct : Nat → Option (List Sh) := fun n => none
noncomputable def Lqueues_each_QueueAct_0 (N : Nat) {R : Type} : Nat → StS → KS R → Option R := noL
def queues_each_QueueAct_l0 (N : Nat) {R : Type} (k0 : Int → Int → Int → Option R) (k1 : Int → Option R) : Nat → (List (Int × Int × Int)) → Int → Int → Int → Option R
  | 0, _, _, _, _ => none
  | n + 1, b0, b1, b2, b3 => (bif decide (b2 < b1) then ((at? b0 b2).bind fun x1 => (queues_BufferRun_c1 N b2 x1.1 x1.2.1 x1.2.2 b3 (fun y2 y3 => (bif decide (y2 ≠ 0) then (k0 b2 y2 y3) else (queues_each_QueueAct_l0 N k0 k1 n b0 b1 (w64 (b2 + 1)) y3))))) else (k1 b3))
def Pqueues_each_QueueAct_l0 : SP := ⟨[(1, .fn 51 [.ptr 0 0]), (9, .p (.s (.sl [.i .i64, .i .i64, .i .i64]))), (10, .p (.s (.i .i64))), (11, .p (.s (.i .i64))), (100001, .fn 51 [.ptr 0 0])], [(0, .box [.p (.s (.i .i64))])]⟩
def equeues_each_QueueAct_l0 (N : Nat) {R : Type} (n : Nat) (x : Pqueues_each_QueueAct_l0.den) (k : KS R) : Option R := queues_each_QueueAct_l0 N (fun r0 r1 r2 => k .ret ⟨[(4, .p (.i .i64 r0)), (5, .p (.i .i64 r1)), (100001, .fn 51 [.ptr 0 0])], [(0, .box [.p (.i .i64 r2)])]⟩) (fun r0 => k (.ex 0) ⟨[(100001, .fn 51 [.ptr 0 0])], [(0, .box [.p (.i .i64 r0)])]⟩) n x.1.2.1 x.1.2.2.1 x.1.2.2.2.1 x.2.1.1
theorem loop_queues_each_QueueAct_l0 (N : Nat) {R : Type} : ∀ (n : Nat) (s : StS) (k : KS R) (r : R), lent' Pqueues_each_QueueAct_l0 (equeues_each_QueueAct_l0 N n) s k = some r → ∃ e s', runL (runF T) [1, 9, 10, 11] c50_l0 s.enc = some (e, s'.enc) ∧ k e s' = some r :=
  loop_ok (F21_ok N) (H := H_queues_each_QueueAct) (Lp := Lqueues_each_QueueAct_0 N) (X := X_queues_each_QueueAct) (p := 26) (LOK_of (l := []) (by kernel_rfl) trivial) (fun _ _ => rfl) (fun n x k => by kernel_rfl)
noncomputable def Lqueues_each_QueueAct_1 (N : Nat) {R : Type} : Nat → StS → KS R → Option R := updL (Lqueues_each_QueueAct_0 N) 26 (lent' Pqueues_each_QueueAct_l0 (equeues_each_QueueAct_l0 N N))
def queues_each_QueueAct (N : Nat) {R : Type} (a0 : List (Int × Int × Int)) (a1 : Int) (k0 : Int → Int → Int → Option R) : Option R := (queues_each_QueueAct_l0 N (fun z4 z5 z6 => (k0 z4 z5 z6)) (fun z7 => (k0 0 0 z7)) N a0 ((a0.length : Nat) : Int) 0 a1)
def P_queues_each_QueueAct : AP := ⟨[.p (.s (.sl [.i .i64, .i .i64, .i .i64])), .fn 51 [.ptr 0 0]], [(0, .box [.p (.s (.i .i64))])]⟩
def e_queues_each_QueueAct (N : Nat) {R : Type} (x : P_queues_each_QueueAct.den) (k : List Nat → List DS → HeapS → Option R) : Option R := queues_each_QueueAct N x.1.1 x.2.1.1 (fun r0 r1 r2 => k [0] [.p (.i .i64 r0), .p (.i .i64 r1)] [(0, .box [.p (.i .i64 r2)])])
noncomputable def F22 (N : Nat) {R : Type} : CfS R := updC (F21 N) 50 (ent P_queues_each_QueueAct (e_queues_each_QueueAct N) (F21 N 50))
theorem F22_ok (N : Nat) {R : Type} : FOK (F22 N : CfS R) (runF T) :=
  FOK_upd (F21_ok N) (Snd_ent (F21_ok N) (H := H_queues_each_QueueAct) (Lp := Lqueues_each_QueueAct_1 N) (X := X_queues_each_QueueAct) (rp := []) (ver := c50) rfl (LOK_of (l := [(26, [1, 9, 10, 11], c50_l0)]) (by kernel_rfl) ⟨(updL_ok (loop_queues_each_QueueAct_l0 N N)), trivial⟩) (fun x k => by kernel_rfl) (Snd_of (F21_ok N) 50 fun _ _ _ _ h => h))
def X_queues_buffer_isReserved : Nat → List SP := fun _ => []
def H_queues_buffer_isReserved : Nat → Option (List Sh) := fun n => none
noncomputable def Lqueues_buffer_isReserved_0 (N : Nat) {R : Type} : Nat → StS → KS R → Option R := noL
def queues_buffer_isReserved (N : Nat) {R : Type} (a0 : Int) (a1 : Int) (a2 : Int) (a3 : List (Int × Bool)) (k0 : Bool → Int → Int → (List (Int × Bool)) → Option R) : Option R := (bif decide (((a3.length : Nat) : Int) = 0) then none else (k0 (decide ((Int.tmod (w64 ((w64 (a0 - a1)) + ((a3.length : Nat) : Int))) ((a3.length : Nat) : Int)) < a2)) a1 a2 a3))
def P_queues_buffer_isReserved : AP := ⟨[.ptr 0 0, .p (.s (.i .i64))], [(0, .box [.own 1, .p (.s (.i .i64)), .p (.s (.i .i64))]), (1, .arr [.i .i64, .b])]⟩
def e_queues_buffer_isReserved (N : Nat) {R : Type} (x : P_queues_buffer_isReserved.den) (k : List Nat → List DS → HeapS → Option R) : Option R := queues_buffer_isReserved N x.1.2.1 x.2.1.2.1 x.2.1.2.2.1 x.2.2.1 (fun r0 r1 r2 r3 => k [0] [.p (.b r0)] [(0, .box [.own 1, .p (.i .i64 r1), .p (.i .i64 r2)]), (1, .arr (.t [.i .i64, .b] r3))])
noncomputable def F23 (N : Nat) {R : Type} : CfS R := updC (F22 N) 81 (ent P_queues_buffer_isReserved (e_queues_buffer_isReserved N) (F22 N 81))
theorem F23_ok (N : Nat) {R : Type} : FOK (F23 N : CfS R) (runF T) :=
  FOK_upd (F22_ok N) (Snd_ent (F22_ok N) (H := H_queues_buffer_isReserved) (Lp := Lqueues_buffer_isReserved_0 N) (X := X_queues_buffer_isReserved) (rp := []) (ver := c81) rfl (LOK_of (l := []) (by kernel_rfl) trivial) (fun x k => by kernel_rfl) (Snd_of (F22_ok N) 81 fun _ _ _ _ h => h))
def X_queues_buffer_act : Nat → List SP := fun _ => []
def H_queues_buffer_act : Nat → Option (List Sh) := fun n => none
noncomputable def Lqueues_buffer_act_0 (N : Nat) {R : Type} : Nat → StS → KS R → Option R := noL
def queues_buffer_act (N : Nat) {R : Type} (a0 : Int) (a1 : Int) (a2 : Int) (a3 : Int) (a4 : Int) (a5 : List (Int × Bool)) (k0 : Int → Int → Int → (List (Int × Bool)) → Option R) : Option R := (bif inR a3 a5.length then (bif decide (a0 = 0) then (bif decide (a4 < ((a5.length : Nat) : Int)) then (bif decide (((a5.length : Nat) : Int) = 0) then none else (bif inR (Int.tmod (w64 (a3 + a4)) ((a5.length : Nat) : Int)) a5.length then ((a5[(Int.tmod (w64 (a3 + a4)) ((a5.length : Nat) : Int)).toNat]?).bind fun x1 => (k0 (Int.tmod (w64 (a3 + a4)) ((a5.length : Nat) : Int)) a3 (w64 (a4 + 1)) (List.set a5 ((Int.tmod (w64 (a3 + a4)) ((a5.length : Nat) : Int)).toNat) (0, false)))) else none)) else (bif decide (a0 = 1) then (queues_buffer_isReserved N a1 a3 a4 a5 (fun y2 y3 y4 y5 => (bif y2 then (bif inR a1 y5.length then ((y5[a1.toNat]?).bind fun x6 => (bif (!x6.2) then (bif inR a1 y5.length then ((y5[a1.toNat]?).bind fun x7 => (k0 0 y3 y4 (List.set y5 a1.toNat (a2, true)))) else none) else (bif decide (a0 = 2) then (bif decide (0 < y4) then none else (k0 (-1) y3 y4 y5)) else (k0 (-1) y3 y4 y5)))) else none) else (bif decide (a0 = 2) then (bif decide (0 < y4) then none else (k0 (-1) y3 y4 y5)) else (k0 (-1) y3 y4 y5))))) else (bif decide (a0 = 2) then (bif decide (0 < a4) then ((a5[a3.toNat]?).bind fun x8 => (bif x8.2 then (bif decide (((a5.length : Nat) : Int) = 0) then none else ((a5[a3.toNat]?).bind fun x9 => (k0 x9.1 (Int.tmod (w64 (a3 + 1)) ((a5.length : Nat) : Int)) (w64 (a4 - 1)) a5))) else (k0 (-1) a3 a4 a5))) else (k0 (-1) a3 a4 a5)) else (k0 (-1) a3 a4 a5)))) else (bif decide (a0 = 1) then (queues_buffer_isReserved N a1 a3 a4 a5 (fun y10 y11 y12 y13 => (bif y10 then (bif inR a1 y13.length then ((y13[a1.toNat]?).bind fun x14 => (bif (!x14.2) then (bif inR a1 y13.length then ((y13[a1.toNat]?).bind fun x15 => (k0 0 y11 y12 (List.set y13 a1.toNat (a2, true)))) else none) else (bif decide (a0 = 2) then (bif decide (0 < y12) then none else (k0 (-1) y11 y12 y13)) else (k0 (-1) y11 y12 y13)))) else none) else (bif decide (a0 = 2) then (bif decide (0 < y12) then none else (k0 (-1) y11 y12 y13)) else (k0 (-1) y11 y12 y13))))) else (bif decide (a0 = 2) then (bif decide (0 < a4) then ((a5[a3.toNat]?).bind fun x16 => (bif x16.2 then (bif decide (((a5.length : Nat) : Int) = 0) then none else ((a5[a3.toNat]?).bind fun x17 => (k0 x17.1 (Int.tmod (w64 (a3 + 1)) ((a5.length : Nat) : Int)) (w64 (a4 - 1)) a5))) else (k0 (-1) a3 a4 a5))) else (k0 (-1) a3 a4 a5)) else (k0 (-1) a3 a4 a5)))) else none)
def P_queues_buffer_act : AP := ⟨[.ptr 0 0, .agg [.p (.s (.i .i64)), .p (.s (.i .i64)), .p (.s (.i .i64))]], [(0, .box [.own 1, .p (.s (.i .i64)), .p (.s (.i .i64))]), (1, .arr [.i .i64, .b])]⟩
def e_queues_buffer_act (N : Nat) {R : Type} (x : P_queues_buffer_act.den) (k : List Nat → List DS → HeapS → Option R) : Option R := queues_buffer_act N x.1.2.1.1 x.1.2.1.2.1 x.1.2.1.2.2.1 x.2.1.2.1 x.2.1.2.2.1 x.2.2.1 (fun r0 r1 r2 r3 => k [0] [.p (.i .i64 r0)] [(0, .box [.own 1, .p (.i .i64 r1), .p (.i .i64 r2)]), (1, .arr (.t [.i .i64, .b] r3))])
noncomputable def F24 (N : Nat) {R : Type} : CfS R := updC (F23 N) 53 (ent P_queues_buffer_act (e_queues_buffer_act N) (F23 N 53))
theorem F24_ok (N : Nat) {R : Type} : FOK (F24 N : CfS R) (runF T) :=
  FOK_upd (F23_ok N) (Snd_ent (F23_ok N) (H := H_queues_buffer_act) (Lp := Lqueues_buffer_act_0 N) (X := X_queues_buffer_act) (rp := []) (ver := c53) rfl (LOK_of (l := []) (by kernel_rfl) trivial) (fun x k => by kernel_rfl) (Snd_of (F23_ok N) 53 fun _ _ _ _ h => h))
def X_queues_BufferRun : Nat → List SP := fun p => if p = 109 then [⟨[(4, .own 0), (5, .p (.s (.i .i64)))], [(0, .arr [.i .i64])]⟩] else if p = 237 then [⟨[(4, .own 0), (5, .p (.s (.i .i64)))], [(0, .arr [.i .i64])]⟩] else if p = 255 then [⟨[(4, .own 0), (5, .p (.s (.i .i64)))], [(0, .arr [.i .i64])]⟩] else []
def H_queues_BufferRun : Nat → Option (List Sh) := fun n => if n = 11000 then some [.i .i64] else if n = 33000 then some [.i .i64, .b] else if n = 50000 then some [.i .i64] else none
noncomputable def Lqueues_BufferRun_0 (N : Nat) {R : Type} : Nat → StS → KS R → Option R := noL
def queues_BufferRun_l0 (N : Nat) {R : Type} (k0 : Option R) (k1 : List Int → Option R) : Nat → (List (Int × Int × Int)) → Int → Int → Int → Int → (List (Int × Bool)) → List Int → Option R
  | 0, _, _, _, _, _, _, _ => none
  | n + 1, b0, b1, b2, b3, b4, b5, b6 => (bif decide (b2 < b1) then ((at? b0 b2).bind fun x1 => (queues_buffer_act N x1.1 x1.2.1 x1.2.2 b3 b4 b5 (fun y2 y3 y4 y5 => (bif roomB (b6.length + 1) 8 then (queues_BufferRun_l0 N k0 k1 n b0 b1 (w64 (b2 + 1)) y3 y4 y5 (b6 ++ [y2])) else none)))) else (k1 b6))
def Pqueues_BufferRun_l0 : SP := ⟨[(9, .ptr 0 0), (10, .own 2), (38, .p (.s (.sl [.i .i64, .i .i64, .i .i64]))), (39, .p (.s (.i .i64))), (40, .p (.s (.i .i64)))], [(0, .box [.own 1, .p (.s (.i .i64)), .p (.s (.i .i64))]), (1, .arr [.i .i64, .b]), (2, .arr [.i .i64])]⟩
def equeues_BufferRun_l0 (N : Nat) {R : Type} (n : Nat) (x : Pqueues_BufferRun_l0.den) (k : KS R) : Option R := queues_BufferRun_l0 N (k (.ex 0) ⟨[(10, .own 0)], [(0, .arr (.e 1))]⟩) (fun r0 => k (.ex 0) ⟨[(10, .own 0)], [(0, .arr (.t [.i .i64] r0))]⟩) n x.1.2.2.1 x.1.2.2.2.1 x.1.2.2.2.2.1 x.2.1.2.1 x.2.1.2.2.1 x.2.2.1 x.2.2.2.1
theorem loop_queues_BufferRun_l0 (N : Nat) {R : Type} : ∀ (n : Nat) (s : StS) (k : KS R) (r : R), lent' Pqueues_BufferRun_l0 (equeues_BufferRun_l0 N n) s k = some r → ∃ e s', runL (runF T) [9, 10, 38, 39, 40] c10_l0 s.enc = some (e, s'.enc) ∧ k e s' = some r :=
  loop_ok (F24_ok N) (H := H_queues_BufferRun) (Lp := Lqueues_BufferRun_0 N) (X := X_queues_BufferRun) (p := 506) (LOK_of (l := []) (by kernel_rfl) trivial) (fun _ _ => rfl) (fun n x k => by kernel_rfl)
noncomputable def Lqueues_BufferRun_1 (N : Nat) {R : Type} : Nat → StS → KS R → Option R := updL (Lqueues_BufferRun_0 N) 506 (lent' Pqueues_BufferRun_l0 (equeues_BufferRun_l0 N N))
def queues_BufferRun (N : Nat) {R : Type} (a0 : Int) (a1 : List (Int × Int × Int)) (k0 : List Int → Int → Option R) : Option R := (queues_within N a0 1 8 (fun y1 => (queues_unless N y1 2 (fun y2 => (queues_unless N (decide (((a1.length : Nat) : Int) ≤ 100)) 8 (fun y3 => (queues_first N [y2, y3] (fun y4 => (bif decide (y4 ≠ 0) then (k0 [] y4) else (queues_each_QueueAct N a1 a0 (fun y5 y6 y7 => (bif decide (y6 ≠ 0) then (k0 [] y6) else (bif decide (0 ≤ y7 ∧ y7 ≤ y7) then (bif roomB y7.toNat 16 then (queues_BufferRun_l0 N (k0 [] 0) (fun z8 => (k0 z8 0)) N a1 ((a1.length : Nat) : Int) 0 0 0 (List.replicate y7.toNat (0, false)) []) else none) else none)))))))))))))
def P_queues_BufferRun : AP := ⟨[.p (.s (.i .i64)), .p (.s (.sl [.i .i64, .i .i64, .i .i64]))], []⟩
def e_queues_BufferRun (N : Nat) {R : Type} (x : P_queues_BufferRun.den) (k : List Nat → List DS → HeapS → Option R) : Option R := queues_BufferRun N x.1.1 x.1.2.1 (fun r0 r1 => k [] [.p (.l (.t [.i .i64] r0)), .p (.i .i64 r1)] [])
noncomputable def F25 (N : Nat) {R : Type} : CfS R := updC (F24 N) 10 (ent P_queues_BufferRun (e_queues_BufferRun N) (F24 N 10))
theorem F25_ok (N : Nat) {R : Type} : FOK (F25 N : CfS R) (runF T) :=
  FOK_upd (F24_ok N) (Snd_ent (F24_ok N) (H := H_queues_BufferRun) (Lp := Lqueues_BufferRun_1 N) (X := X_queues_BufferRun) (rp := []) (ver := c10) rfl (LOK_of (l := [(506, [9, 10, 38, 39, 40], c10_l0)]) (by kernel_rfl) ⟨(updL_ok (loop_queues_BufferRun_l0 N N)), trivial⟩) (fun x k => by kernel_rfl) (Snd_of (F24_ok N) 10 fun _ _ _ _ h => h))
def X_queues_isFlag : Nat → List SP := fun _ => []
def H_queues_isFlag : Nat → Option (List Sh) := fun n => none
noncomputable def Lqueues_isFlag_0 (N : Nat) {R : Type} : Nat → StS → KS R → Option R := noL
def queues_isFlag (N : Nat) {R : Type} (a0 : Int) (k0 : Bool → Option R) : Option R := (queues_within N a0 0 1 (fun y1 => (k0 y1)))
def P_queues_isFlag : AP := ⟨[.p (.s (.i .i64))], []⟩
def e_queues_isFlag (N : Nat) {R : Type} (x : P_queues_isFlag.den) (k : List Nat → List DS → HeapS → Option R) : Option R := queues_isFlag N x.1.1 (fun r0 => k [] [.p (.b r0)] [])
noncomputable def F26 (N : Nat) {R : Type} : CfS R := updC (F25 N) 73 (ent P_queues_isFlag (e_queues_isFlag N) (F25 N 73))
theorem F26_ok (N : Nat) {R : Type} : FOK (F26 N : CfS R) (runF T) :=
  FOK_upd (F25_ok N) (Snd_ent (F25_ok N) (H := H_queues_isFlag) (Lp := Lqueues_isFlag_0 N) (X := X_queues_isFlag) (rp := []) (ver := c73) rfl (LOK_of (l := []) (by kernel_rfl) trivial) (fun x k => by kernel_rfl) (Snd_of (F25_ok N) 73 fun _ _ _ _ h => h))
def X_queues_asksErr_c1 : Nat → List SP := fun _ => []
def H_queues_asksErr_c1 : Nat → Option (List Sh) := fun n => none
noncomputable def Lqueues_asksErr_c1_0 (N : Nat) {R : Type} : Nat → StS → KS R → Option R := noL
def queues_asksErr_c1 (N : Nat) {R : Type} (a0 : Int) (k0 : Bool → Option R) : Option R := (queues_isFlag N a0 (fun y1 => (k0 (!y1))))
def P_queues_asksErr_c1 : AP := ⟨[.p (.s (.i .i64))], []⟩
def e_queues_asksErr_c1 (N : Nat) {R : Type} (x : P_queues_asksErr_c1.den) (k : List Nat → List DS → HeapS → Option R) : Option R := queues_asksErr_c1 N x.1.1 (fun r0 => k [] [.p (.b r0)] [])
noncomputable def F27 (N : Nat) {R : Type} : CfS R := updC (F26 N) 86 (ent P_queues_asksErr_c1 (e_queues_asksErr_c1 N) (F26 N 86))
theorem F27_ok (N : Nat) {R : Type} : FOK (F27 N : CfS R) (runF T) :=
  FOK_upd (F26_ok N) (Snd_ent (F26_ok N) (H := H_queues_asksErr_c1) (Lp := Lqueues_asksErr_c1_0 N) (X := X_queues_asksErr_c1) (rp := []) (ver := c86) rfl (LOK_of (l := []) (by kernel_rfl) trivial) (fun x k => by kernel_rfl) (Snd_of (F26_ok N) 86 fun _ _ _ _ h => h))
def X_slices_IndexFunc_Lint_int_v2 : Nat → List SP := fun _ => []
def H_slices_IndexFunc_Lint_int_v2 : Nat → Option (List Sh) := fun n => none
noncomputable def Lslices_IndexFunc_Lint_int_v2_0 (N : Nat) {R : Type} : Nat → StS → KS R → Option R := noL
def slices_IndexFunc_Lint_int_v2_l0 (N : Nat) {R : Type} (k0 : Int → Option R) (k1 : Option R) : Nat → List Int → Int → Int → Option R
  | 0, _, _, _ => none
  | n + 1, b0, b1, b2 => (bif decide (b2 < b1) then ((at? b0 b2).bind fun x1 => (queues_asksErr_c1 N x1 (fun y2 => (bif y2 then (k0 b2) else (slices_IndexFunc_Lint_int_v2_l0 N k0 k1 n b0 b1 (w64 (b2 + 1))))))) else k1)
def Pslices_IndexFunc_Lint_int_v2_l0 : SP := ⟨[(0, .p (.s (.sl [.i .i64]))), (1, .p (.fn 86 [])), (7, .p (.s (.i .i64))), (8, .p (.s (.i .i64)))], []⟩
def eslices_IndexFunc_Lint_int_v2_l0 (N : Nat) {R : Type} (n : Nat) (x : Pslices_IndexFunc_Lint_int_v2_l0.den) (k : KS R) : Option R := slices_IndexFunc_Lint_int_v2_l0 N (fun r0 => k .ret ⟨[(4, .p (.i .i64 r0))], []⟩) (k (.ex 0) ⟨[], []⟩) n x.1.1 x.1.2.2.1 x.1.2.2.2.1
theorem loop_slices_IndexFunc_Lint_int_v2_l0 (N : Nat) {R : Type} : ∀ (n : Nat) (s : StS) (k : KS R) (r : R), lent' Pslices_IndexFunc_Lint_int_v2_l0 (eslices_IndexFunc_Lint_int_v2_l0 N n) s k = some r → ∃ e s', runL (runF T) [0, 1, 7, 8] c87_l0 s.enc = some (e, s'.enc) ∧ k e s' = some r :=
  loop_ok (F27_ok N) (H := H_slices_IndexFunc_Lint_int_v2) (Lp := Lslices_IndexFunc_Lint_int_v2_0 N) (X := X_slices_IndexFunc_Lint_int_v2) (p := 26) (LOK_of (l := []) (by kernel_rfl) trivial) (fun _ _ => rfl) (fun n x k => by kernel_rfl)
noncomputable def Lslices_IndexFunc_Lint_int_v2_1 (N : Nat) {R : Type} : Nat → StS → KS R → Option R := updL (Lslices_IndexFunc_Lint_int_v2_0 N) 26 (lent' Pslices_IndexFunc_Lint_int_v2_l0 (eslices_IndexFunc_Lint_int_v2_l0 N N))
def slices_IndexFunc_Lint_int_v2 (N : Nat) {R : Type} (a0 : List Int) (k0 : Int → Option R) : Option R := (slices_IndexFunc_Lint_int_v2_l0 N (fun z3 => (k0 z3)) (k0 (-1)) N a0 ((a0.length : Nat) : Int) 0)
def P_slices_IndexFunc_Lint_int_v2 : AP := ⟨[.p (.s (.sl [.i .i64])), .p (.fn 86 [])], []⟩
def e_slices_IndexFunc_Lint_int_v2 (N : Nat) {R : Type} (x : P_slices_IndexFunc_Lint_int_v2.den) (k : List Nat → List DS → HeapS → Option R) : Option R := slices_IndexFunc_Lint_int_v2 N x.1.1 (fun r0 => k [] [.p (.i .i64 r0)] [])
noncomputable def F28 (N : Nat) {R : Type} : CfS R := updC (F27 N) 87 (ent P_slices_IndexFunc_Lint_int_v2 (e_slices_IndexFunc_Lint_int_v2 N) (F27 N 87))
theorem F28_ok (N : Nat) {R : Type} : FOK (F28 N : CfS R) (runF T) :=
  FOK_upd (F27_ok N) (Snd_ent (F27_ok N) (H := H_slices_IndexFunc_Lint_int_v2) (Lp := Lslices_IndexFunc_Lint_int_v2_1 N) (X := X_slices_IndexFunc_Lint_int_v2) (rp := []) (ver := c87) rfl (LOK_of (l := [(26, [0, 1, 7, 8], c87_l0)]) (by kernel_rfl) ⟨(updL_ok (loop_slices_IndexFunc_Lint_int_v2_l0 N N)), trivial⟩) (fun x k => by kernel_rfl) (Snd_of (F27_ok N) 87 fun _ _ _ _ h => h))
def X_slices_ContainsFunc_Lint_int_v2 : Nat → List SP := fun _ => []
def H_slices_ContainsFunc_Lint_int_v2 : Nat → Option (List Sh) := fun n => none
noncomputable def Lslices_ContainsFunc_Lint_int_v2_0 (N : Nat) {R : Type} : Nat → StS → KS R → Option R := noL
def slices_ContainsFunc_Lint_int_v2 (N : Nat) {R : Type} (a0 : List Int) (k0 : Bool → Option R) : Option R := (slices_IndexFunc_Lint_int_v2 N a0 (fun y1 => (k0 (decide (0 ≤ y1)))))
def P_slices_ContainsFunc_Lint_int_v2 : AP := ⟨[.p (.s (.sl [.i .i64])), .p (.fn 86 [])], []⟩
def e_slices_ContainsFunc_Lint_int_v2 (N : Nat) {R : Type} (x : P_slices_ContainsFunc_Lint_int_v2.den) (k : List Nat → List DS → HeapS → Option R) : Option R := slices_ContainsFunc_Lint_int_v2 N x.1.1 (fun r0 => k [] [.p (.b r0)] [])
noncomputable def F29 (N : Nat) {R : Type} : CfS R := updC (F28 N) 69 (ent P_slices_ContainsFunc_Lint_int_v2 (e_slices_ContainsFunc_Lint_int_v2 N) (F28 N 69))
theorem F29_ok (N : Nat) {R : Type} : FOK (F29 N : CfS R) (runF T) :=
  FOK_upd (F28_ok N) (Snd_ent (F28_ok N) (H := H_slices_ContainsFunc_Lint_int_v2) (Lp := Lslices_ContainsFunc_Lint_int_v2_0 N) (X := X_slices_ContainsFunc_Lint_int_v2) (rp := []) (ver := c69) rfl (LOK_of (l := []) (by kernel_rfl) trivial) (fun x k => by kernel_rfl) (Snd_of (F28_ok N) 69 fun _ _ _ _ h => h))
def X_queues_asksErr : Nat → List SP := fun _ => []
def H_queues_asksErr : Nat → Option (List Sh) := fun n => if n = 12000 then some [.i .i64] else none
noncomputable def Lqueues_asksErr_0 (N : Nat) {R : Type} : Nat → StS → KS R → Option R := noL
def queues_asksErr (N : Nat) {R : Type} (a0 : List Int) (k0 : Int → Option R) : Option R := (slices_ContainsFunc_Lint_int_v2 N a0 (fun y1 => (queues_within N ((a0.length : Nat) : Int) 1 8 (fun y2 => (queues_unless N y2 10 (fun y3 => (queues_unless N (!y1) 2 (fun y4 => (queues_first N [y3, y4] (fun y5 => (k0 y5)))))))))))
def P_queues_asksErr : AP := ⟨[.p (.s (.sl [.i .i64]))], []⟩
def e_queues_asksErr (N : Nat) {R : Type} (x : P_queues_asksErr.den) (k : List Nat → List DS → HeapS → Option R) : Option R := queues_asksErr N x.1.1 (fun r0 => k [] [.p (.i .i64 r0)] [])
noncomputable def F30 (N : Nat) {R : Type} : CfS R := updC (F29 N) 65 (ent P_queues_asksErr (e_queues_asksErr N) (F29 N 65))
theorem F30_ok (N : Nat) {R : Type} : FOK (F30 N : CfS R) (runF T) :=
  FOK_upd (F29_ok N) (Snd_ent (F29_ok N) (H := H_queues_asksErr) (Lp := Lqueues_asksErr_0 N) (X := X_queues_asksErr) (rp := []) (ver := c65) rfl (LOK_of (l := []) (by kernel_rfl) trivial) (fun x k => by kernel_rfl) (Snd_of (F29_ok N) 65 fun _ _ _ _ h => h))
def X_queues_grant : Nat → List SP := fun _ => []
def H_queues_grant : Nat → Option (List Sh) := fun n => none
noncomputable def Lqueues_grant_0 (N : Nat) {R : Type} : Nat → StS → KS R → Option R := noL
def queues_grant_l0 (N : Nat) {R : Type} (k0 : Int → Option R) (k1 : Option R) : Nat → Int → List Int → Int → Int → Option R
  | 0, _, _, _, _ => none
  | n + 1, b0, b1, b2, b3 => (bif decide (b3 < b2) then (bif decide (((b1.length : Nat) : Int) = 0) then none else ((at? b1 (Int.tmod (w64 ((w64 (b0 + 1)) + b3)) ((b1.length : Nat) : Int))).bind fun x1 => (bif decide (x1 = 1) then (k0 (Int.tmod (w64 ((w64 (b0 + 1)) + b3)) ((b1.length : Nat) : Int))) else (queues_grant_l0 N k0 k1 n b0 b1 b2 (w64 (b3 + 1)))))) else k1)
def Pqueues_grant_l0 : SP := ⟨[(0, .p (.s (.i .i64))), (1, .p (.s (.sl [.i .i64]))), (8, .p (.s (.i .i64))), (9, .p (.s (.i .i64)))], []⟩
def equeues_grant_l0 (N : Nat) {R : Type} (n : Nat) (x : Pqueues_grant_l0.den) (k : KS R) : Option R := queues_grant_l0 N (fun r0 => k .ret ⟨[(4, .p (.i .i64 r0))], []⟩) (k (.ex 0) ⟨[], []⟩) n x.1.1 x.1.2.1 x.1.2.2.1 x.1.2.2.2.1
theorem loop_queues_grant_l0 (N : Nat) {R : Type} : ∀ (n : Nat) (s : StS) (k : KS R) (r : R), lent' Pqueues_grant_l0 (equeues_grant_l0 N n) s k = some r → ∃ e s', runL (runF T) [0, 1, 8, 9] c66_l0 s.enc = some (e, s'.enc) ∧ k e s' = some r :=
  loop_ok (F30_ok N) (H := H_queues_grant) (Lp := Lqueues_grant_0 N) (X := X_queues_grant) (p := 26) (LOK_of (l := []) (by kernel_rfl) trivial) (fun _ _ => rfl) (fun n x k => by kernel_rfl)
noncomputable def Lqueues_grant_1 (N : Nat) {R : Type} : Nat → StS → KS R → Option R := updL (Lqueues_grant_0 N) 26 (lent' Pqueues_grant_l0 (equeues_grant_l0 N N))
def queues_grant (N : Nat) {R : Type} (a0 : Int) (a1 : List Int) (k0 : Int → Option R) : Option R := (queues_grant_l0 N (fun z2 => (k0 z2)) (k0 (-1)) N a0 a1 ((a1.length : Nat) : Int) 0)
def P_queues_grant : AP := ⟨[.p (.s (.i .i64)), .p (.s (.sl [.i .i64]))], []⟩
def e_queues_grant (N : Nat) {R : Type} (x : P_queues_grant.den) (k : List Nat → List DS → HeapS → Option R) : Option R := queues_grant N x.1.1 x.1.2.1 (fun r0 => k [] [.p (.i .i64 r0)] [])
noncomputable def F31 (N : Nat) {R : Type} : CfS R := updC (F30 N) 66 (ent P_queues_grant (e_queues_grant N) (F30 N 66))
theorem F31_ok (N : Nat) {R : Type} : FOK (F31 N : CfS R) (runF T) :=
  FOK_upd (F30_ok N) (Snd_ent (F30_ok N) (H := H_queues_grant) (Lp := Lqueues_grant_1 N) (X := X_queues_grant) (rp := []) (ver := c66) rfl (LOK_of (l := [(26, [0, 1, 8, 9], c66_l0)]) (by kernel_rfl) ⟨(updL_ok (loop_queues_grant_l0 N N)), trivial⟩) (fun x k => by kernel_rfl) (Snd_of (F30_ok N) 66 fun _ _ _ _ h => h))
def X_queues_GrantOf : Nat → List SP := fun _ => []
def H_queues_GrantOf : Nat → Option (List Sh) := fun n => if n = 11000 then some [.i .i64] else none
noncomputable def Lqueues_GrantOf_0 (N : Nat) {R : Type} : Nat → StS → KS R → Option R := noL
def queues_GrantOf (N : Nat) {R : Type} (a0 : Int) (a1 : List Int) (k0 : Int → Int → Option R) : Option R := (queues_asksErr N a1 (fun y1 => (queues_within N a0 (-1) (w64 (((a1.length : Nat) : Int) - 1)) (fun y2 => (queues_unless N y2 2 (fun y3 => (queues_first N [y1, y3] (fun y4 => (bif decide (y4 ≠ 0) then (k0 0 y4) else (queues_grant N a0 a1 (fun y5 => (bif decide (y5 = (-1)) then (k0 0 12) else (k0 y5 0)))))))))))))
def P_queues_GrantOf : AP := ⟨[.p (.s (.i .i64)), .p (.s (.sl [.i .i64]))], []⟩
def e_queues_GrantOf (N : Nat) {R : Type} (x : P_queues_GrantOf.den) (k : List Nat → List DS → HeapS → Option R) : Option R := queues_GrantOf N x.1.1 x.1.2.1 (fun r0 r1 => k [] [.p (.i .i64 r0), .p (.i .i64 r1)] [])
noncomputable def F32 (N : Nat) {R : Type} : CfS R := updC (F31 N) 29 (ent P_queues_GrantOf (e_queues_GrantOf N) (F31 N 29))
theorem F32_ok (N : Nat) {R : Type} : FOK (F32 N : CfS R) (runF T) :=
  FOK_upd (F31_ok N) (Snd_ent (F31_ok N) (H := H_queues_GrantOf) (Lp := Lqueues_GrantOf_0 N) (X := X_queues_GrantOf) (rp := []) (ver := c29) rfl (LOK_of (l := []) (by kernel_rfl) trivial) (fun x k => by kernel_rfl) (Snd_of (F31_ok N) 29 fun _ _ _ _ h => h))
def X_ratchetbase_Ints : Nat → List SP := fun _ => []
def H_ratchetbase_Ints : Nat → Option (List Sh) := fun n => none
noncomputable def Lratchetbase_Ints_0 (N : Nat) {R : Type} : Nat → StS → KS R → Option R := noL
def ratchetbase_Ints_l0 (N : Nat) {R : Type} (k0 : Bool → Option R) (k1 : Option R) : Nat → List Int → List Int → Int → Option R
  | 0, _, _, _ => none
  | n + 1, b0, b1, b2 => (bif decide (b2 < ((b0.length : Nat) : Int)) then ((at? b0 b2).bind fun x1 => ((at? b1 b2).bind fun x2 => (bif decide (x1 ≠ x2) then (k0 false) else (ratchetbase_Ints_l0 N k0 k1 n b0 b1 (w64 (b2 + 1)))))) else k1)
def Pratchetbase_Ints_l0 : SP := ⟨[(0, .p (.s (.sl [.i .i64]))), (1, .p (.s (.sl [.i .i64]))), (5, .p (.s (.i .i64)))], []⟩
def eratchetbase_Ints_l0 (N : Nat) {R : Type} (n : Nat) (x : Pratchetbase_Ints_l0.den) (k : KS R) : Option R := ratchetbase_Ints_l0 N (fun r0 => k .ret ⟨[(4, .p (.b r0))], []⟩) (k (.ex 0) ⟨[], []⟩) n x.1.1 x.1.2.1 x.1.2.2.1
theorem loop_ratchetbase_Ints_l0 (N : Nat) {R : Type} : ∀ (n : Nat) (s : StS) (k : KS R) (r : R), lent' Pratchetbase_Ints_l0 (eratchetbase_Ints_l0 N n) s k = some r → ∃ e s', runL (runF T) [0, 1, 5] c12_l0 s.enc = some (e, s'.enc) ∧ k e s' = some r :=
  loop_ok (F32_ok N) (H := H_ratchetbase_Ints) (Lp := Lratchetbase_Ints_0 N) (X := X_ratchetbase_Ints) (p := 58) (LOK_of (l := []) (by kernel_rfl) trivial) (fun _ _ => rfl) (fun n x k => by kernel_rfl)
noncomputable def Lratchetbase_Ints_1 (N : Nat) {R : Type} : Nat → StS → KS R → Option R := updL (Lratchetbase_Ints_0 N) 58 (lent' Pratchetbase_Ints_l0 (eratchetbase_Ints_l0 N N))
def ratchetbase_Ints (N : Nat) {R : Type} (a0 : List Int) (a1 : List Int) (k0 : Bool → Option R) : Option R := (bif decide (((a0.length : Nat) : Int) ≠ ((a1.length : Nat) : Int)) then (k0 false) else (ratchetbase_Ints_l0 N (fun z3 => (k0 z3)) (k0 true) N a0 a1 0))
def P_ratchetbase_Ints : AP := ⟨[.p (.s (.sl [.i .i64])), .p (.s (.sl [.i .i64]))], []⟩
def e_ratchetbase_Ints (N : Nat) {R : Type} (x : P_ratchetbase_Ints.den) (k : List Nat → List DS → HeapS → Option R) : Option R := ratchetbase_Ints N x.1.1 x.1.2.1 (fun r0 => k [] [.p (.b r0)] [])
noncomputable def F33 (N : Nat) {R : Type} : CfS R := updC (F32 N) 12 (ent P_ratchetbase_Ints (e_ratchetbase_Ints N) (F32 N 12))
theorem F33_ok (N : Nat) {R : Type} : FOK (F33 N : CfS R) (runF T) :=
  FOK_upd (F32_ok N) (Snd_ent (F32_ok N) (H := H_ratchetbase_Ints) (Lp := Lratchetbase_Ints_1 N) (X := X_ratchetbase_Ints) (rp := []) (ver := c12) rfl (LOK_of (l := [(58, [0, 1, 5], c12_l0)]) (by kernel_rfl) ⟨(updL_ok (loop_ratchetbase_Ints_l0 N N)), trivial⟩) (fun x k => by kernel_rfl) (Snd_of (F32_ok N) 12 fun _ _ _ _ h => h))
def X_ratchetref19_SameDone : Nat → List SP := fun _ => []
def H_ratchetref19_SameDone : Nat → Option (List Sh) := fun n => none
noncomputable def Lratchetref19_SameDone_0 (N : Nat) {R : Type} : Nat → StS → KS R → Option R := noL
def ratchetref19_SameDone (N : Nat) {R : Type} (a0 : List Int) (a1 : Bool) (a2 : List Int) (a3 : List Int) (a4 : Bool) (a5 : List Int) (k0 : Bool → Option R) : Option R := (ratchetbase_Ints N a0 a3 (fun y1 => (bif y1 then (bif (a1 == a4) then (ratchetbase_Ints N a2 a5 (fun y2 => (k0 y2))) else (k0 false)) else (k0 false))))
def P_ratchetref19_SameDone : AP := ⟨[.agg [.p (.s (.sl [.i .i64])), .p (.s .b), .p (.s (.sl [.i .i64]))], .agg [.p (.s (.sl [.i .i64])), .p (.s .b), .p (.s (.sl [.i .i64]))]], []⟩
def e_ratchetref19_SameDone (N : Nat) {R : Type} (x : P_ratchetref19_SameDone.den) (k : List Nat → List DS → HeapS → Option R) : Option R := ratchetref19_SameDone N x.1.1.1 x.1.1.2.1 x.1.1.2.2.1 x.1.2.1.1 x.1.2.1.2.1 x.1.2.1.2.2.1 (fun r0 => k [] [.p (.b r0)] [])
noncomputable def F34 (N : Nat) {R : Type} : CfS R := updC (F33 N) 24 (ent P_ratchetref19_SameDone (e_ratchetref19_SameDone N) (F33 N 24))
theorem F34_ok (N : Nat) {R : Type} : FOK (F34 N : CfS R) (runF T) :=
  FOK_upd (F33_ok N) (Snd_ent (F33_ok N) (H := H_ratchetref19_SameDone) (Lp := Lratchetref19_SameDone_0 N) (X := X_ratchetref19_SameDone) (rp := []) (ver := c24) rfl (LOK_of (l := []) (by kernel_rfl) trivial) (fun x k => by kernel_rfl) (Snd_of (F33_ok N) 24 fun _ _ _ _ h => h))
def X_ratchetlaw19_awake : Nat → List SP := fun _ => []
def H_ratchetlaw19_awake : Nat → Option (List Sh) := fun n => if n = 2000 then some [.i .i64] else if n = 3000 then some [.i .i64] else if n = 12000 then some [.i .i64] else if n = 28000 then some [.i .i64] else if n = 39000 then some [.i .i64] else if n = 40000 then some [.i .i64] else if n = 50000 then some [.i .i64] else if n = 60000 then some [.i .i64] else none
noncomputable def Lratchetlaw19_awake_0 (N : Nat) {R : Type} : Nat → StS → KS R → Option R := noL
def ratchetlaw19_awake (N : Nat) {R : Type} (k0 : Bool → Option R) : Option R := (queues_TurnOf N 2 4 [5] [7] true (fun y1 y2 y3 y4 => (queues_TurnOf N 3 4 [] [7] true (fun y5 y6 y7 y8 => (ratchetlaw19_Acts N (fun y9 => (queues_BufferRun N 2 y9 (fun y10 y11 => (queues_GrantOf N 0 [1, 0, 1] (fun y12 y13 => (bif decide (y4 = 0) then (ratchetref19_SameDone N y1 y2 y3 [5] true [7] (fun y14 => (bif y14 then (bif decide (y8 = 0) then (ratchetref19_SameDone N y5 y6 y7 [7] true [] (fun y15 => (bif y15 then (bif decide (y11 = 0) then (ratchetbase_Ints N y10 [0, 1, (-1), 0, (-1), 0, 6, 8, (-1), 0] (fun y16 => (bif y16 then (bif decide (y13 = 0) then (k0 (decide (y12 = 2))) else (k0 false)) else (k0 false)))) else (k0 false)) else (k0 false)))) else (k0 false)) else (k0 false)))) else (k0 false))))))))))))
def P_ratchetlaw19_awake : AP := ⟨[], []⟩
def e_ratchetlaw19_awake (N : Nat) {R : Type} (x : P_ratchetlaw19_awake.den) (k : List Nat → List DS → HeapS → Option R) : Option R := ratchetlaw19_awake N (fun r0 => k [] [.p (.b r0)] [])
noncomputable def F35 (N : Nat) {R : Type} : CfS R := updC (F34 N) 9 (ent P_ratchetlaw19_awake (e_ratchetlaw19_awake N) (F34 N 9))
theorem F35_ok (N : Nat) {R : Type} : FOK (F35 N : CfS R) (runF T) :=
  FOK_upd (F34_ok N) (Snd_ent (F34_ok N) (H := H_ratchetlaw19_awake) (Lp := Lratchetlaw19_awake_0 N) (X := X_ratchetlaw19_awake) (rp := []) (ver := c9) rfl (LOK_of (l := []) (by kernel_rfl) trivial) (fun x k => by kernel_rfl) (Snd_of (F34_ok N) 9 fun _ _ _ _ h => h))
def X_ratchetbase_CopyInts : Nat → List SP := fun _ => []
def H_ratchetbase_CopyInts : Nat → Option (List Sh) := fun n => if n = 2000 then some [.i .i64] else none
noncomputable def Lratchetbase_CopyInts_0 (N : Nat) {R : Type} : Nat → StS → KS R → Option R := noL
def ratchetbase_CopyInts (N : Nat) {R : Type} (a0 : List Int) (k0 : List Int → Option R) : Option R := (bif roomB (0 + a0.length) 8 then (k0 a0) else none)
def P_ratchetbase_CopyInts : AP := ⟨[.p (.s (.sl [.i .i64]))], []⟩
def e_ratchetbase_CopyInts (N : Nat) {R : Type} (x : P_ratchetbase_CopyInts.den) (k : List Nat → List DS → HeapS → Option R) : Option R := ratchetbase_CopyInts N x.1.1 (fun r0 => k [] [.own 0] [(0, .arr (.t [.i .i64] r0))])
noncomputable def F36 (N : Nat) {R : Type} : CfS R := updC (F35 N) 17 (ent P_ratchetbase_CopyInts (e_ratchetbase_CopyInts N) (F35 N 17))
theorem F36_ok (N : Nat) {R : Type} : FOK (F36 N : CfS R) (runF T) :=
  FOK_upd (F35_ok N) (Snd_ent (F35_ok N) (H := H_ratchetbase_CopyInts) (Lp := Lratchetbase_CopyInts_0 N) (X := X_ratchetbase_CopyInts) (rp := []) (ver := c17) rfl (LOK_of (l := []) (by kernel_rfl) trivial) (fun x k => by kernel_rfl) (Snd_of (F35_ok N) 17 fun _ _ _ _ h => h))
def X_ratchetref19_CopyTurn : Nat → List SP := fun _ => []
def H_ratchetref19_CopyTurn : Nat → Option (List Sh) := fun n => none
noncomputable def Lratchetref19_CopyTurn_0 (N : Nat) {R : Type} : Nat → StS → KS R → Option R := noL
def ratchetref19_CopyTurn (N : Nat) {R : Type} (a0 : List Int) (a1 : Bool) (k0 : List Int → Bool → Option R) : Option R := (ratchetbase_CopyInts N a0 (fun y1 => (k0 y1 a1)))
def P_ratchetref19_CopyTurn : AP := ⟨[.agg [.p (.s (.sl [.i .i64])), .p (.s .b)]], []⟩
def e_ratchetref19_CopyTurn (N : Nat) {R : Type} (x : P_ratchetref19_CopyTurn.den) (k : List Nat → List DS → HeapS → Option R) : Option R := ratchetref19_CopyTurn N x.1.1.1 x.1.1.2.1 (fun r0 r1 => k [] [.agg [.p (.l (.t [.i .i64] r0)), .p (.b r1)]] [])
noncomputable def F37 (N : Nat) {R : Type} : CfS R := updC (F36 N) 18 (ent P_ratchetref19_CopyTurn (e_ratchetref19_CopyTurn N) (F36 N 18))
theorem F37_ok (N : Nat) {R : Type} : FOK (F37 N : CfS R) (runF T) :=
  FOK_upd (F36_ok N) (Snd_ent (F36_ok N) (H := H_ratchetref19_CopyTurn) (Lp := Lratchetref19_CopyTurn_0 N) (X := X_ratchetref19_CopyTurn) (rp := []) (ver := c18) rfl (LOK_of (l := []) (by kernel_rfl) trivial) (fun x k => by kernel_rfl) (Snd_of (F36_ok N) 18 fun _ _ _ _ h => h))
def X_ratchetref19_CopyTurns : Nat → List SP := fun p => if p = 31 then [⟨[(2, .own 0)], [(0, .arr [.sl [.i .i64], .b])]⟩] else []
def H_ratchetref19_CopyTurns : Nat → Option (List Sh) := fun n => if n = 14000 then some [.sl [.i .i64], .b] else none
noncomputable def Lratchetref19_CopyTurns_0 (N : Nat) {R : Type} : Nat → StS → KS R → Option R := noL
def ratchetref19_CopyTurns_l0 (N : Nat) {R : Type} (k0 : Option R) (k1 : (List ((List Int) × Bool)) → Option R) : Nat → (List ((List Int) × Bool)) → Int → (List ((List Int) × Bool)) → Option R
  | 0, _, _, _ => none
  | n + 1, b0, b1, b2 => (bif decide (b1 < ((b0.length : Nat) : Int)) then ((at? b0 b1).bind fun x1 => (ratchetref19_CopyTurn N x1.1 x1.2 (fun y2 y3 => (bif roomB (b2.length + 1) 32 then (ratchetref19_CopyTurns_l0 N k0 k1 n b0 (w64 (b1 + 1)) (b2 ++ [(y2, y3)])) else none)))) else (k1 b2))
def Pratchetref19_CopyTurns_l0 : SP := ⟨[(0, .p (.s (.sl [.sl [.i .i64], .b]))), (3, .own 0), (4, .p (.s (.i .i64)))], [(0, .arr [.sl [.i .i64], .b])]⟩
def eratchetref19_CopyTurns_l0 (N : Nat) {R : Type} (n : Nat) (x : Pratchetref19_CopyTurns_l0.den) (k : KS R) : Option R := ratchetref19_CopyTurns_l0 N (k (.ex 0) ⟨[(3, .own 0)], [(0, .arr (.e 2))]⟩) (fun r0 => k (.ex 0) ⟨[(3, .own 0)], [(0, .arr (.t [.sl [.i .i64], .b] r0))]⟩) n x.1.1 x.1.2.2.1 x.2.1
theorem loop_ratchetref19_CopyTurns_l0 (N : Nat) {R : Type} : ∀ (n : Nat) (s : StS) (k : KS R) (r : R), lent' Pratchetref19_CopyTurns_l0 (eratchetref19_CopyTurns_l0 N n) s k = some r → ∃ e s', runL (runF T) [0, 3, 4] c27_l0 s.enc = some (e, s'.enc) ∧ k e s' = some r :=
  loop_ok (F37_ok N) (H := H_ratchetref19_CopyTurns) (Lp := Lratchetref19_CopyTurns_0 N) (X := X_ratchetref19_CopyTurns) (p := 58) (LOK_of (l := []) (by kernel_rfl) trivial) (fun _ _ => rfl) (fun n x k => by kernel_rfl)
noncomputable def Lratchetref19_CopyTurns_1 (N : Nat) {R : Type} : Nat → StS → KS R → Option R := updL (Lratchetref19_CopyTurns_0 N) 58 (lent' Pratchetref19_CopyTurns_l0 (eratchetref19_CopyTurns_l0 N N))
def ratchetref19_CopyTurns (N : Nat) {R : Type} (a0 : List ((List Int) × Bool)) (k0 : (List ((List Int) × Bool)) → Option R) : Option R := (ratchetref19_CopyTurns_l0 N (k0 []) (fun z4 => (k0 z4)) N a0 0 [])
def P_ratchetref19_CopyTurns : AP := ⟨[.p (.s (.sl [.sl [.i .i64], .b]))], []⟩
def e_ratchetref19_CopyTurns (N : Nat) {R : Type} (x : P_ratchetref19_CopyTurns.den) (k : List Nat → List DS → HeapS → Option R) : Option R := ratchetref19_CopyTurns N x.1.1 (fun r0 => k [] [.p (.l (.t [.sl [.i .i64], .b] r0))] [])
noncomputable def F38 (N : Nat) {R : Type} : CfS R := updC (F37 N) 27 (ent P_ratchetref19_CopyTurns (e_ratchetref19_CopyTurns N) (F37 N 27))
theorem F38_ok (N : Nat) {R : Type} : FOK (F38 N : CfS R) (runF T) :=
  FOK_upd (F37_ok N) (Snd_ent (F37_ok N) (H := H_ratchetref19_CopyTurns) (Lp := Lratchetref19_CopyTurns_1 N) (X := X_ratchetref19_CopyTurns) (rp := []) (ver := c27) rfl (LOK_of (l := [(58, [0, 3, 4], c27_l0)]) (by kernel_rfl) ⟨(updL_ok (loop_ratchetref19_CopyTurns_l0 N N)), trivial⟩) (fun x k => by kernel_rfl) (Snd_of (F37_ok N) 27 fun _ _ _ _ h => h))
def X_queues_TurnsOf_c1 : Nat → List SP := fun _ => []
def H_queues_TurnsOf_c1 : Nat → Option (List Sh) := fun n => none
noncomputable def Lqueues_TurnsOf_c1_0 (N : Nat) {R : Type} : Nat → StS → KS R → Option R := noL
def queues_TurnsOf_c1 (N : Nat) {R : Type} (a0 : Int) (a1 : List Int) (a2 : Bool) (a3 : Int) (k0 : Int → Int → Option R) : Option R := (queues_turnErr N a3 a1 a2 (fun y1 => (k0 y1 a3)))
def P_queues_TurnsOf_c1 : AP := ⟨[.p (.s (.i .i64)), .agg [.p (.s (.sl [.i .i64])), .p (.s .b)], .ptr 0 0], [(0, .box [.p (.s (.i .i64))])]⟩
def e_queues_TurnsOf_c1 (N : Nat) {R : Type} (x : P_queues_TurnsOf_c1.den) (k : List Nat → List DS → HeapS → Option R) : Option R := queues_TurnsOf_c1 N x.1.1 x.1.2.1.1 x.1.2.1.2.1 x.2.1.1 (fun r0 r1 => k [0] [.p (.i .i64 r0)] [(0, .box [.p (.i .i64 r1)])])
noncomputable def F39 (N : Nat) {R : Type} : CfS R := updC (F38 N) 63 (ent P_queues_TurnsOf_c1 (e_queues_TurnsOf_c1 N) (F38 N 63))
theorem F39_ok (N : Nat) {R : Type} : FOK (F39 N : CfS R) (runF T) :=
  FOK_upd (F38_ok N) (Snd_ent (F38_ok N) (H := H_queues_TurnsOf_c1) (Lp := Lqueues_TurnsOf_c1_0 N) (X := X_queues_TurnsOf_c1) (rp := []) (ver := c63) rfl (LOK_of (l := []) (by kernel_rfl) trivial) (fun x k => by kernel_rfl) (Snd_of (F38_ok N) 63 fun _ _ _ _ h => h))
def X_queues_each_QueueTurn : Nat → List SP := fun _ => []
def H_queues_each_QueueTurn : Nat → Option (List Sh) := fun n => none
noncomputable def Lqueues_each_QueueTurn_0 (N : Nat) {R : Type} : Nat → StS → KS R → Option R := noL
def queues_each_QueueTurn_l0 (N : Nat) {R : Type} (k0 : Int → Int → Int → Option R) (k1 : Int → Option R) : Nat → (List ((List Int) × Bool)) → Int → Int → Int → Option R
  | 0, _, _, _, _ => none
  | n + 1, b0, b1, b2, b3 => (bif decide (b2 < b1) then ((at? b0 b2).bind fun x1 => (queues_TurnsOf_c1 N b2 x1.1 x1.2 b3 (fun y2 y3 => (bif decide (y2 ≠ 0) then (k0 b2 y2 y3) else (queues_each_QueueTurn_l0 N k0 k1 n b0 b1 (w64 (b2 + 1)) y3))))) else (k1 b3))
def Pqueues_each_QueueTurn_l0 : SP := ⟨[(1, .fn 63 [.ptr 0 0]), (9, .p (.s (.sl [.sl [.i .i64], .b]))), (10, .p (.s (.i .i64))), (11, .p (.s (.i .i64))), (100001, .fn 63 [.ptr 0 0])], [(0, .box [.p (.s (.i .i64))])]⟩
def equeues_each_QueueTurn_l0 (N : Nat) {R : Type} (n : Nat) (x : Pqueues_each_QueueTurn_l0.den) (k : KS R) : Option R := queues_each_QueueTurn_l0 N (fun r0 r1 r2 => k .ret ⟨[(4, .p (.i .i64 r0)), (5, .p (.i .i64 r1)), (100001, .fn 63 [.ptr 0 0])], [(0, .box [.p (.i .i64 r2)])]⟩) (fun r0 => k (.ex 0) ⟨[(100001, .fn 63 [.ptr 0 0])], [(0, .box [.p (.i .i64 r0)])]⟩) n x.1.2.1 x.1.2.2.1 x.1.2.2.2.1 x.2.1.1
theorem loop_queues_each_QueueTurn_l0 (N : Nat) {R : Type} : ∀ (n : Nat) (s : StS) (k : KS R) (r : R), lent' Pqueues_each_QueueTurn_l0 (equeues_each_QueueTurn_l0 N n) s k = some r → ∃ e s', runL (runF T) [1, 9, 10, 11] c62_l0 s.enc = some (e, s'.enc) ∧ k e s' = some r :=
  loop_ok (F39_ok N) (H := H_queues_each_QueueTurn) (Lp := Lqueues_each_QueueTurn_0 N) (X := X_queues_each_QueueTurn) (p := 26) (LOK_of (l := []) (by kernel_rfl) trivial) (fun _ _ => rfl) (fun n x k => by kernel_rfl)
noncomputable def Lqueues_each_QueueTurn_1 (N : Nat) {R : Type} : Nat → StS → KS R → Option R := updL (Lqueues_each_QueueTurn_0 N) 26 (lent' Pqueues_each_QueueTurn_l0 (equeues_each_QueueTurn_l0 N N))
def queues_each_QueueTurn (N : Nat) {R : Type} (a0 : List ((List Int) × Bool)) (a1 : Int) (k0 : Int → Int → Int → Option R) : Option R := (queues_each_QueueTurn_l0 N (fun z4 z5 z6 => (k0 z4 z5 z6)) (fun z7 => (k0 0 0 z7)) N a0 ((a0.length : Nat) : Int) 0 a1)
def P_queues_each_QueueTurn : AP := ⟨[.p (.s (.sl [.sl [.i .i64], .b])), .fn 63 [.ptr 0 0]], [(0, .box [.p (.s (.i .i64))])]⟩
def e_queues_each_QueueTurn (N : Nat) {R : Type} (x : P_queues_each_QueueTurn.den) (k : List Nat → List DS → HeapS → Option R) : Option R := queues_each_QueueTurn N x.1.1 x.2.1.1 (fun r0 r1 r2 => k [0] [.p (.i .i64 r0), .p (.i .i64 r1)] [(0, .box [.p (.i .i64 r2)])])
noncomputable def F40 (N : Nat) {R : Type} : CfS R := updC (F39 N) 62 (ent P_queues_each_QueueTurn (e_queues_each_QueueTurn N) (F39 N 62))
theorem F40_ok (N : Nat) {R : Type} : FOK (F40 N : CfS R) (runF T) :=
  FOK_upd (F39_ok N) (Snd_ent (F39_ok N) (H := H_queues_each_QueueTurn) (Lp := Lqueues_each_QueueTurn_1 N) (X := X_queues_each_QueueTurn) (rp := []) (ver := c62) rfl (LOK_of (l := [(26, [1, 9, 10, 11], c62_l0)]) (by kernel_rfl) ⟨(updL_ok (loop_queues_each_QueueTurn_l0 N N)), trivial⟩) (fun x k => by kernel_rfl) (Snd_of (F39_ok N) 62 fun _ _ _ _ h => h))
def X_queues_TurnsOf : Nat → List SP := fun p => if p = 109 then [⟨[(6, .own 0), (7, .p (.s (.i .i64)))], [(0, .arr [.sl [.i .i64], .b, .sl [.i .i64]])]⟩] else if p = 237 then [⟨[(6, .own 0), (7, .p (.s (.i .i64)))], [(0, .arr [.sl [.i .i64], .b, .sl [.i .i64]])]⟩] else if p = 4067 then [⟨[(6, .own 0), (7, .p (.s (.i .i64)))], [(0, .arr [.sl [.i .i64], .b, .sl [.i .i64]])]⟩] else []
def H_queues_TurnsOf : Nat → Option (List Sh) := fun n => if n = 11000 then some [.i .i64] else if n = 50000 then some [.sl [.i .i64], .b, .sl [.i .i64]] else none
noncomputable def Lqueues_TurnsOf_0 (N : Nat) {R : Type} : Nat → StS → KS R → Option R := noL
def queues_TurnsOf_l0 (N : Nat) {R : Type} (k0 : Option R) (k1 : (List ((List Int) × Bool × (List Int))) → Option R) : Nat → Int → List Int → (List ((List Int) × Bool)) → Int → Int → (List ((List Int) × Bool × (List Int))) → Option R
  | 0, _, _, _, _, _, _ => none
  | n + 1, b0, b1, b2, b3, b4, b5 => (bif decide (b4 < b3) then ((at? b2 b4).bind fun x1 => (queues_turn N b0 b1 x1.1 x1.2 (fun y2 y3 y4 => (bif roomB (b5.length + 1) 56 then (queues_TurnsOf_l0 N k0 k1 n b0 y4 b2 b3 (w64 (b4 + 1)) (b5 ++ [(y2, y3, y4)])) else none)))) else (k1 b5))
def Pqueues_TurnsOf_l0 : SP := ⟨[(0, .p (.s (.i .i64))), (11, .p (.s (.sl [.i .i64]))), (12, .own 0), (38, .p (.s (.sl [.sl [.i .i64], .b]))), (39, .p (.s (.i .i64))), (40, .p (.s (.i .i64)))], [(0, .arr [.sl [.i .i64], .b, .sl [.i .i64]])]⟩
def equeues_TurnsOf_l0 (N : Nat) {R : Type} (n : Nat) (x : Pqueues_TurnsOf_l0.den) (k : KS R) : Option R := queues_TurnsOf_l0 N (k (.ex 0) ⟨[(12, .own 0)], [(0, .arr (.e 3))]⟩) (fun r0 => k (.ex 0) ⟨[(12, .own 0)], [(0, .arr (.t [.sl [.i .i64], .b, .sl [.i .i64]] r0))]⟩) n x.1.1 x.1.2.1 x.1.2.2.2.1 x.1.2.2.2.2.1 x.1.2.2.2.2.2.1 x.2.1
theorem loop_queues_TurnsOf_l0 (N : Nat) {R : Type} : ∀ (n : Nat) (s : StS) (k : KS R) (r : R), lent' Pqueues_TurnsOf_l0 (equeues_TurnsOf_l0 N n) s k = some r → ∃ e s', runL (runF T) [0, 11, 12, 38, 39, 40] c26_l0 s.enc = some (e, s'.enc) ∧ k e s' = some r :=
  loop_ok (F40_ok N) (H := H_queues_TurnsOf) (Lp := Lqueues_TurnsOf_0 N) (X := X_queues_TurnsOf) (p := 506) (LOK_of (l := []) (by kernel_rfl) trivial) (fun _ _ => rfl) (fun n x k => by kernel_rfl)
noncomputable def Lqueues_TurnsOf_1 (N : Nat) {R : Type} : Nat → StS → KS R → Option R := updL (Lqueues_TurnsOf_0 N) 506 (lent' Pqueues_TurnsOf_l0 (equeues_TurnsOf_l0 N N))
def queues_TurnsOf_l1 (N : Nat) {R : Type} (k0 : Option R) (k1 : (List ((List Int) × Bool × (List Int))) → Option R) : Nat → Int → Int → (List ((List Int) × Bool × (List Int))) → Option R
  | 0, _, _, _ => none
  | n + 1, b0, b1, b2 => (bif decide (b1 < b0) then (bif inR b1 b2.length then ((b2[b1.toNat]?).bind fun x1 => (bif roomB x1.2.2.length 8 then (bif inR b1 b2.length then ((b2[b1.toNat]?).bind fun x2 => (bif roomB x2.1.length 8 then (bif inR b1 b2.length then ((b2[b1.toNat]?).bind fun x3 => (bif inR b1 ((List.set b2 b1.toNat (x3.1, x3.2.1, x1.2.2)).length) then (((List.set b2 b1.toNat (x3.1, x3.2.1, x1.2.2))[b1.toNat]?).bind fun x4 => (queues_TurnsOf_l1 N k0 k1 n b0 (w64 (b1 + 1)) (List.set (List.set b2 b1.toNat (x3.1, x3.2.1, x1.2.2)) b1.toNat (x2.1, x4.2.1, x4.2.2)))) else none)) else none) else none)) else none) else none)) else none) else (k1 b2))
def Pqueues_TurnsOf_l1 : SP := ⟨[(12, .own 0), (56, .p (.s (.i .i64))), (57, .p (.s (.i .i64)))], [(0, .arr [.sl [.i .i64], .b, .sl [.i .i64]])]⟩
def equeues_TurnsOf_l1 (N : Nat) {R : Type} (n : Nat) (x : Pqueues_TurnsOf_l1.den) (k : KS R) : Option R := queues_TurnsOf_l1 N (k (.ex 2) ⟨[(12, .own 0)], [(0, .arr (.e 3))]⟩) (fun r0 => k (.ex 2) ⟨[(12, .own 0)], [(0, .arr (.t [.sl [.i .i64], .b, .sl [.i .i64]] r0))]⟩) n x.1.2.1 x.1.2.2.1 x.2.1
theorem loop_queues_TurnsOf_l1 (N : Nat) {R : Type} : ∀ (n : Nat) (s : StS) (k : KS R) (r : R), lent' Pqueues_TurnsOf_l1 (equeues_TurnsOf_l1 N n) s k = some r → ∃ e s', runL (runF T) [12, 56, 57] c26_l1 s.enc = some (e, s'.enc) ∧ k e s' = some r :=
  loop_ok (F40_ok N) (H := H_queues_TurnsOf) (Lp := Lqueues_TurnsOf_1 N) (X := X_queues_TurnsOf) (p := 8130) (LOK_of (l := []) (by kernel_rfl) trivial) (fun _ _ => rfl) (fun n x k => by kernel_rfl)
noncomputable def Lqueues_TurnsOf_2 (N : Nat) {R : Type} : Nat → StS → KS R → Option R := updL (Lqueues_TurnsOf_1 N) 8130 (lent' Pqueues_TurnsOf_l1 (equeues_TurnsOf_l1 N N))
def queues_TurnsOf_j0 (N : Nat) {R : Type} (k0 : Int → Option R) (k1 : Int → (List ((List Int) × Bool × (List Int))) → Option R) (b0 : List ((List Int) × Bool × (List Int))) : Option R := (queues_TurnsOf_l1 N (k1 0 []) (fun z5 => (k1 0 z5)) N ((b0.length : Nat) : Int) 0 b0)
def Pqueues_TurnsOf_j0 : SP := ⟨[(12, .own 0)], [(0, .arr [.sl [.i .i64], .b, .sl [.i .i64]])]⟩
def equeues_TurnsOf_j0 (N : Nat) {R : Type} (n : Nat) (x : Pqueues_TurnsOf_j0.den) (k : KS R) : Option R := match n with
  | 0 => none
  | _ + 1 => queues_TurnsOf_j0 N (fun r0 => k .ret ⟨[(6, .own 0), (7, .p (.i .i64 r0))], [(0, .arr (.e 3))]⟩) (fun r0 r1 => k .ret ⟨[(6, .own 0), (7, .p (.i .i64 r0))], [(0, .arr (.t [.sl [.i .i64], .b, .sl [.i .i64]] r1))]⟩) x.2.1
theorem loop_queues_TurnsOf_j0 (N : Nat) {R : Type} : ∀ (n : Nat) (s : StS) (k : KS R) (r : R), lent' Pqueues_TurnsOf_j0 (equeues_TurnsOf_j0 N n) s k = some r → ∃ e s', runL (runF T) [12] c26_j0 s.enc = some (e, s'.enc) ∧ k e s' = some r :=
  loop_ok (F40_ok N) (H := H_queues_TurnsOf) (Lp := Lqueues_TurnsOf_2 N) (X := X_queues_TurnsOf) (p := 254) (LOK_of (l := [(8130, [12, 56, 57], c26_l1)]) (by kernel_rfl) ⟨(updL_ok (loop_queues_TurnsOf_l1 N N)), trivial⟩) (fun _ _ => rfl) (fun n x k => by kernel_rfl)
noncomputable def Lqueues_TurnsOf_3 (N : Nat) {R : Type} : Nat → StS → KS R → Option R := updL (Lqueues_TurnsOf_2 N) 254 (lent' Pqueues_TurnsOf_j0 (equeues_TurnsOf_j0 N 1))
def queues_TurnsOf (N : Nat) {R : Type} (a0 : Int) (a1 : Int) (a2 : List ((List Int) × Bool)) (k0 : (List ((List Int) × Bool × (List Int))) → Int → Option R) : Option R := (queues_openErr N a0 a1 (fun y1 => (queues_unless N (decide (((a2.length : Nat) : Int) ≤ 100)) 8 (fun y2 => (queues_first N [y1, y2] (fun y3 => (bif decide (y3 ≠ 0) then (k0 [] y3) else (queues_each_QueueTurn N a2 a1 (fun y4 y5 y6 => (bif decide (y5 ≠ 0) then (k0 [] y5) else (queues_TurnsOf_l0 N (queues_TurnsOf_j0 N (fun z7 => (k0 [] z7)) (fun z8 z9 => (k0 z9 z8)) []) (fun z10 => (queues_TurnsOf_j0 N (fun z11 => (k0 [] z11)) (fun z12 z13 => (k0 z13 z12)) z10)) N a0 [] a2 ((a2.length : Nat) : Int) 0 [])))))))))))
def P_queues_TurnsOf : AP := ⟨[.p (.s (.i .i64)), .p (.s (.i .i64)), .p (.s (.sl [.sl [.i .i64], .b]))], []⟩
def e_queues_TurnsOf (N : Nat) {R : Type} (x : P_queues_TurnsOf.den) (k : List Nat → List DS → HeapS → Option R) : Option R := queues_TurnsOf N x.1.1 x.1.2.1 x.1.2.2.1 (fun r0 r1 => k [] [.p (.l (.t [.sl [.i .i64], .b, .sl [.i .i64]] r0)), .p (.i .i64 r1)] [])
noncomputable def F41 (N : Nat) {R : Type} : CfS R := updC (F40 N) 26 (ent P_queues_TurnsOf (e_queues_TurnsOf N) (F40 N 26))
theorem F41_ok (N : Nat) {R : Type} : FOK (F41 N : CfS R) (runF T) :=
  FOK_upd (F40_ok N) (Snd_ent (F40_ok N) (H := H_queues_TurnsOf) (Lp := Lqueues_TurnsOf_3 N) (X := X_queues_TurnsOf) (rp := [⟨[.p (.s (.sl [.sl [.i .i64], .b, .sl [.i .i64]])), .p (.s (.i .i64))], []⟩]) (ver := c26) rfl (LOK_of (l := [(506, [0, 11, 12, 38, 39, 40], c26_l0), (254, [12], c26_j0)]) (by kernel_rfl) ⟨(updL_ne (by decide) (updL_ne (by decide) (updL_ok (loop_queues_TurnsOf_l0 N N)))), (updL_ok (loop_queues_TurnsOf_j0 N 1)), trivial⟩) (fun x k => by kernel_rfl) (Snd_of (F40_ok N) 26 fun _ _ _ _ h => h))
def X_ratchetbase_Within : Nat → List SP := fun _ => []
def H_ratchetbase_Within : Nat → Option (List Sh) := fun n => none
noncomputable def Lratchetbase_Within_0 (N : Nat) {R : Type} : Nat → StS → KS R → Option R := noL
def ratchetbase_Within (N : Nat) {R : Type} (a0 : Int) (a1 : Int) (a2 : Int) (k0 : Bool → Option R) : Option R := (bif decide (a1 ≤ a0) then (k0 (decide (a0 ≤ a2))) else (k0 false))
def P_ratchetbase_Within : AP := ⟨[.p (.s (.i .i64)), .p (.s (.i .i64)), .p (.s (.i .i64))], []⟩
def e_ratchetbase_Within (N : Nat) {R : Type} (x : P_ratchetbase_Within.den) (k : List Nat → List DS → HeapS → Option R) : Option R := ratchetbase_Within N x.1.1 x.1.2.1 x.1.2.2.1 (fun r0 => k [] [.p (.b r0)] [])
noncomputable def F42 (N : Nat) {R : Type} : CfS R := updC (F41 N) 14 (ent P_ratchetbase_Within (e_ratchetbase_Within N) (F41 N 14))
theorem F42_ok (N : Nat) {R : Type} : FOK (F42 N : CfS R) (runF T) :=
  FOK_upd (F41_ok N) (Snd_ent (F41_ok N) (H := H_ratchetbase_Within) (Lp := Lratchetbase_Within_0 N) (X := X_ratchetbase_Within) (rp := []) (ver := c14) rfl (LOK_of (l := []) (by kernel_rfl) trivial) (fun x k => by kernel_rfl) (Snd_of (F41_ok N) 14 fun _ _ _ _ h => h))
def X_ratchetref19_KindErr : Nat → List SP := fun _ => []
def H_ratchetref19_KindErr : Nat → Option (List Sh) := fun n => none
noncomputable def Lratchetref19_KindErr_0 (N : Nat) {R : Type} : Nat → StS → KS R → Option R := noL
def ratchetref19_KindErr (N : Nat) {R : Type} (a0 : Int) (k0 : Int → Option R) : Option R := (ratchetbase_Within N a0 0 3 (fun y1 => (bif (!y1) then (k0 15) else (k0 0))))
def P_ratchetref19_KindErr : AP := ⟨[.p (.s (.i .i64))], []⟩
def e_ratchetref19_KindErr (N : Nat) {R : Type} (x : P_ratchetref19_KindErr.den) (k : List Nat → List DS → HeapS → Option R) : Option R := ratchetref19_KindErr N x.1.1 (fun r0 => k [] [.p (.i .i64 r0)] [])
noncomputable def F43 (N : Nat) {R : Type} : CfS R := updC (F42 N) 19 (ent P_ratchetref19_KindErr (e_ratchetref19_KindErr N) (F42 N 19))
theorem F43_ok (N : Nat) {R : Type} : FOK (F43 N : CfS R) (runF T) :=
  FOK_upd (F42_ok N) (Snd_ent (F42_ok N) (H := H_ratchetref19_KindErr) (Lp := Lratchetref19_KindErr_0 N) (X := X_ratchetref19_KindErr) (rp := []) (ver := c19) rfl (LOK_of (l := []) (by kernel_rfl) trivial) (fun x k => by kernel_rfl) (Snd_of (F42_ok N) 19 fun _ _ _ _ h => h))
def X_ratchetbase_IsWidth : Nat → List SP := fun _ => []
def H_ratchetbase_IsWidth : Nat → Option (List Sh) := fun n => none
noncomputable def Lratchetbase_IsWidth_0 (N : Nat) {R : Type} : Nat → StS → KS R → Option R := noL
def ratchetbase_IsWidth (N : Nat) {R : Type} (a0 : Int) (k0 : Bool → Option R) : Option R := (ratchetbase_Within N a0 1 16 (fun y1 => (k0 y1)))
def P_ratchetbase_IsWidth : AP := ⟨[.p (.s (.i .i64))], []⟩
def e_ratchetbase_IsWidth (N : Nat) {R : Type} (x : P_ratchetbase_IsWidth.den) (k : List Nat → List DS → HeapS → Option R) : Option R := ratchetbase_IsWidth N x.1.1 (fun r0 => k [] [.p (.b r0)] [])
noncomputable def F44 (N : Nat) {R : Type} : CfS R := updC (F43 N) 60 (ent P_ratchetbase_IsWidth (e_ratchetbase_IsWidth N) (F43 N 60))
theorem F44_ok (N : Nat) {R : Type} : FOK (F44 N : CfS R) (runF T) :=
  FOK_upd (F43_ok N) (Snd_ent (F43_ok N) (H := H_ratchetbase_IsWidth) (Lp := Lratchetbase_IsWidth_0 N) (X := X_ratchetbase_IsWidth) (rp := []) (ver := c60) rfl (LOK_of (l := []) (by kernel_rfl) trivial) (fun x k => by kernel_rfl) (Snd_of (F43_ok N) 60 fun _ _ _ _ h => h))
def X_ratchetref19_WidthErr : Nat → List SP := fun _ => []
def H_ratchetref19_WidthErr : Nat → Option (List Sh) := fun n => none
noncomputable def Lratchetref19_WidthErr_0 (N : Nat) {R : Type} : Nat → StS → KS R → Option R := noL
def ratchetref19_WidthErr (N : Nat) {R : Type} (a0 : Int) (a1 : Int) (k0 : Int → Option R) : Option R := (ratchetref19_KindErr N a0 (fun y1 => (bif decide (y1 ≠ 0) then (k0 y1) else (ratchetbase_IsWidth N a1 (fun y2 => (bif (!y2) then (k0 2) else (k0 0)))))))
def P_ratchetref19_WidthErr : AP := ⟨[.p (.s (.i .i64)), .p (.s (.i .i64))], []⟩
def e_ratchetref19_WidthErr (N : Nat) {R : Type} (x : P_ratchetref19_WidthErr.den) (k : List Nat → List DS → HeapS → Option R) : Option R := ratchetref19_WidthErr N x.1.1 x.1.2.1 (fun r0 => k [] [.p (.i .i64 r0)] [])
noncomputable def F45 (N : Nat) {R : Type} : CfS R := updC (F44 N) 21 (ent P_ratchetref19_WidthErr (e_ratchetref19_WidthErr N) (F44 N 21))
theorem F45_ok (N : Nat) {R : Type} : FOK (F45 N : CfS R) (runF T) :=
  FOK_upd (F44_ok N) (Snd_ent (F44_ok N) (H := H_ratchetref19_WidthErr) (Lp := Lratchetref19_WidthErr_0 N) (X := X_ratchetref19_WidthErr) (rp := []) (ver := c21) rfl (LOK_of (l := []) (by kernel_rfl) trivial) (fun x k => by kernel_rfl) (Snd_of (F44_ok N) 21 fun _ _ _ _ h => h))
def X_ratchetbase_Power : Nat → List SP := fun _ => []
def H_ratchetbase_Power : Nat → Option (List Sh) := fun n => none
noncomputable def Lratchetbase_Power_0 (N : Nat) {R : Type} : Nat → StS → KS R → Option R := noL
def ratchetbase_Power (N : Nat) {R : Type} (a0 : Int) (k0 : Int → Option R) : Option R := (bif decide (a0 < 0) then none else (k0 (shl' .i64 1 a0)))
def P_ratchetbase_Power : AP := ⟨[.p (.s (.i .i64))], []⟩
def e_ratchetbase_Power (N : Nat) {R : Type} (x : P_ratchetbase_Power.den) (k : List Nat → List DS → HeapS → Option R) : Option R := ratchetbase_Power N x.1.1 (fun r0 => k [] [.p (.i .i64 r0)] [])
noncomputable def F46 (N : Nat) {R : Type} : CfS R := updC (F45 N) 85 (ent P_ratchetbase_Power (e_ratchetbase_Power N) (F45 N 85))
theorem F46_ok (N : Nat) {R : Type} : FOK (F46 N : CfS R) (runF T) :=
  FOK_upd (F45_ok N) (Snd_ent (F45_ok N) (H := H_ratchetbase_Power) (Lp := Lratchetbase_Power_0 N) (X := X_ratchetbase_Power) (rp := []) (ver := c85) rfl (LOK_of (l := []) (by kernel_rfl) trivial) (fun x k => by kernel_rfl) (Snd_of (F45_ok N) 85 fun _ _ _ _ h => h))
def X_ratchetbase_Fits : Nat → List SP := fun _ => []
def H_ratchetbase_Fits : Nat → Option (List Sh) := fun n => none
noncomputable def Lratchetbase_Fits_0 (N : Nat) {R : Type} : Nat → StS → KS R → Option R := noL
def ratchetbase_Fits (N : Nat) {R : Type} (a0 : Int) (a1 : Int) (k0 : Bool → Option R) : Option R := (ratchetbase_Power N a1 (fun y1 => (ratchetbase_Within N a0 0 (w64 (y1 - 1)) (fun y2 => (k0 y2)))))
def P_ratchetbase_Fits : AP := ⟨[.p (.s (.i .i64)), .p (.s (.i .i64))], []⟩
def e_ratchetbase_Fits (N : Nat) {R : Type} (x : P_ratchetbase_Fits.den) (k : List Nat → List DS → HeapS → Option R) : Option R := ratchetbase_Fits N x.1.1 x.1.2.1 (fun r0 => k [] [.p (.b r0)] [])
noncomputable def F47 (N : Nat) {R : Type} : CfS R := updC (F46 N) 61 (ent P_ratchetbase_Fits (e_ratchetbase_Fits N) (F46 N 61))
theorem F47_ok (N : Nat) {R : Type} : FOK (F47 N : CfS R) (runF T) :=
  FOK_upd (F46_ok N) (Snd_ent (F46_ok N) (H := H_ratchetbase_Fits) (Lp := Lratchetbase_Fits_0 N) (X := X_ratchetbase_Fits) (rp := []) (ver := c61) rfl (LOK_of (l := []) (by kernel_rfl) trivial) (fun x k => by kernel_rfl) (Snd_of (F46_ok N) 61 fun _ _ _ _ h => h))
def X_ratchetref19_TurnErr : Nat → List SP := fun _ => []
def H_ratchetref19_TurnErr : Nat → Option (List Sh) := fun n => none
noncomputable def Lratchetref19_TurnErr_0 (N : Nat) {R : Type} : Nat → StS → KS R → Option R := noL
def ratchetref19_TurnErr (N : Nat) {R : Type} (a0 : Int) (a1 : List Int) (a2 : Bool) (k0 : Int → Option R) : Option R := (bif decide (1 < ((a1.length : Nat) : Int)) then (k0 10) else (bif decide (((a1.length : Nat) : Int) = 1) then ((at? a1 0).bind fun x1 => (ratchetbase_Fits N x1 a0 (fun y2 => (bif (!y2) then (k0 2) else (k0 0))))) else (k0 0)))
def P_ratchetref19_TurnErr : AP := ⟨[.p (.s (.i .i64)), .agg [.p (.s (.sl [.i .i64])), .p (.s .b)]], []⟩
def e_ratchetref19_TurnErr (N : Nat) {R : Type} (x : P_ratchetref19_TurnErr.den) (k : List Nat → List DS → HeapS → Option R) : Option R := ratchetref19_TurnErr N x.1.1 x.1.2.1.1 x.1.2.1.2.1 (fun r0 => k [] [.p (.i .i64 r0)] [])
noncomputable def F48 (N : Nat) {R : Type} : CfS R := updC (F47 N) 23 (ent P_ratchetref19_TurnErr (e_ratchetref19_TurnErr N) (F47 N 23))
theorem F48_ok (N : Nat) {R : Type} : FOK (F48 N : CfS R) (runF T) :=
  FOK_upd (F47_ok N) (Snd_ent (F47_ok N) (H := H_ratchetref19_TurnErr) (Lp := Lratchetref19_TurnErr_0 N) (X := X_ratchetref19_TurnErr) (rp := []) (ver := c23) rfl (LOK_of (l := []) (by kernel_rfl) trivial) (fun x k => by kernel_rfl) (Snd_of (F47_ok N) 23 fun _ _ _ _ h => h))
def X_ratchetref19_Places : Nat → List SP := fun _ => []
def H_ratchetref19_Places : Nat → Option (List Sh) := fun n => none
noncomputable def Lratchetref19_Places_0 (N : Nat) {R : Type} : Nat → StS → KS R → Option R := noL
def ratchetref19_Places (N : Nat) {R : Type} (a0 : Int) (k0 : Int → Option R) : Option R := (bif decide (a0 = 1) then (k0 2) else (k0 1))
def P_ratchetref19_Places : AP := ⟨[.p (.s (.i .i64))], []⟩
def e_ratchetref19_Places (N : Nat) {R : Type} (x : P_ratchetref19_Places.den) (k : List Nat → List DS → HeapS → Option R) : Option R := ratchetref19_Places N x.1.1 (fun r0 => k [] [.p (.i .i64 r0)] [])
noncomputable def F49 (N : Nat) {R : Type} : CfS R := updC (F48 N) 20 (ent P_ratchetref19_Places (e_ratchetref19_Places N) (F48 N 20))
theorem F49_ok (N : Nat) {R : Type} : FOK (F49 N : CfS R) (runF T) :=
  FOK_upd (F48_ok N) (Snd_ent (F48_ok N) (H := H_ratchetref19_Places) (Lp := Lratchetref19_Places_0 N) (X := X_ratchetref19_Places) (rp := []) (ver := c20) rfl (LOK_of (l := []) (by kernel_rfl) trivial) (fun x k => by kernel_rfl) (Snd_of (F48_ok N) 20 fun _ _ _ _ h => h))
def X_ratchetref19_Turn : Nat → List SP := fun _ => []
def H_ratchetref19_Turn : Nat → Option (List Sh) := fun n => if n = 43000 then some [.i .i64] else if n = 60000 then some [.i .i64] else none
noncomputable def Lratchetref19_Turn_0 (N : Nat) {R : Type} : Nat → StS → KS R → Option R := noL
def ratchetref19_Turn_j3 (N : Nat) {R : Type} (k0 : Bool → Nat → Nat → List Int → List Int → Option R) (k1 : Bool → List Int → Option R) (b0 : Bool) (b1 : Bool) (b2 : Bool) (b3 : List Int) : Option R := (bif b0 then (bif inR 0 b3.length then ((b3[0]?).bind fun x1 => (bif slB 1 ((b3.length : Nat) : Int) ((b3.length : Nat) : Int) b3.length 0 b3.length then (k0 b2 1 (b3.length - 1) [x1] b3) else none)) else none) else (k1 b2 b3))
def Pratchetref19_Turn_j3 : SP := ⟨[(6, .ptr 0 0), (7, .ptr 3 0), (8, .p (.s .b)), (10, .own 6)], [(0, .box [.own 1, .p (.s .b), .own 2]), (1, .em 1), (2, .em 1), (3, .box [.own 4, .p (.s .b), .own 5]), (4, .em 1), (5, .em 1), (6, .arr [.i .i64])]⟩
def eratchetref19_Turn_j3 (N : Nat) {R : Type} (n : Nat) (x : Pratchetref19_Turn_j3.den) (k : KS R) : Option R := match n with
  | 0 => none
  | _ + 1 => ratchetref19_Turn_j3 N (fun r0 r1 r2 r3 r4 => k .ret ⟨[(6, .ptr 0 0)], [(0, .box [.own 1, .p (.b r0), .arr 2 r1 r2 true]), (1, .arr (.t [.i .i64] r3)), (2, .arr (.t [.i .i64] r4))]⟩) (fun r0 r1 => k .ret ⟨[(6, .ptr 0 0)], [(0, .box [.own 1, .p (.b r0), .own 2]), (1, .arr (.e 1)), (2, .arr (.t [.i .i64] r1))]⟩) x.1.2.2.1 x.2.1.2.1 x.2.2.2.2.1.2.1 x.2.2.2.2.2.2.2.1
theorem loop_ratchetref19_Turn_j3 (N : Nat) {R : Type} : ∀ (n : Nat) (s : StS) (k : KS R) (r : R), lent' Pratchetref19_Turn_j3 (eratchetref19_Turn_j3 N n) s k = some r → ∃ e s', runL (runF T) [6, 7, 8, 10] c25_j3 s.enc = some (e, s'.enc) ∧ k e s' = some r :=
  loop_ok (F49_ok N) (H := H_ratchetref19_Turn) (Lp := Lratchetref19_Turn_0 N) (X := X_ratchetref19_Turn) (p := 989326) (LOK_of (l := []) (by kernel_rfl) trivial) (fun _ _ => rfl) (fun n x k => by kernel_rfl)
noncomputable def Lratchetref19_Turn_1 (N : Nat) {R : Type} : Nat → StS → KS R → Option R := updL (Lratchetref19_Turn_0 N) 989326 (lent' Pratchetref19_Turn_j3 (eratchetref19_Turn_j3 N 1))
def ratchetref19_Turn_j2 (N : Nat) {R : Type} (k0 : Bool → Nat → Nat → List Int → List Int → Option R) (k1 : Bool → List Int → Option R) (b0 : Int) (b1 : List Int) (b2 : Bool) (b3 : List Int) (b4 : Bool) (b5 : Bool) (b6 : Bool) : Option R := (ratchetbase_CopyInts N b1 (fun y1 => (bif b6 then ((at? b3 0).bind fun x2 => (bif roomB (y1.length + 1) 8 then (bif decide (b0 = 3) then (bif b4 then (ratchetref19_Turn_j3 N (fun z3 z4 z5 z6 z7 => (k0 z3 z4 z5 z6 z7)) (fun z8 z9 => (k1 z8 z9)) (decide (0 < (((y1 ++ [x2]).length : Nat) : Int))) b5 b6 (y1 ++ [x2])) else (ratchetref19_Turn_j3 N (fun z10 z11 z12 z13 z14 => (k0 z10 z11 z12 z13 z14)) (fun z15 z16 => (k1 z15 z16)) false b5 b6 (y1 ++ [x2]))) else (ratchetref19_Turn_j3 N (fun z17 z18 z19 z20 z21 => (k0 z17 z18 z19 z20 z21)) (fun z22 z23 => (k1 z22 z23)) b2 b5 b6 (y1 ++ [x2]))) else none)) else (bif decide (b0 = 3) then (bif b4 then (ratchetref19_Turn_j3 N (fun z24 z25 z26 z27 z28 => (k0 z24 z25 z26 z27 z28)) (fun z29 z30 => (k1 z29 z30)) (decide (0 < ((y1.length : Nat) : Int))) b5 b6 y1) else (ratchetref19_Turn_j3 N (fun z31 z32 z33 z34 z35 => (k0 z31 z32 z33 z34 z35)) (fun z36 z37 => (k1 z36 z37)) false b5 b6 y1)) else (ratchetref19_Turn_j3 N (fun z38 z39 z40 z41 z42 => (k0 z38 z39 z40 z41 z42)) (fun z43 z44 => (k1 z43 z44)) b2 b5 b6 y1)))))
def Pratchetref19_Turn_j2 : SP := ⟨[(0, .p (.s (.i .i64))), (1, .p (.s (.sl [.i .i64]))), (5, .ptr 0 0), (6, .ptr 1 0), (7, .ptr 4 0), (8, .p (.s .b))], [(0, .box [.p (.s (.sl [.i .i64])), .p (.s .b)]), (1, .box [.own 2, .p (.s .b), .own 3]), (2, .em 1), (3, .em 1), (4, .box [.own 5, .p (.s .b), .own 6]), (5, .em 1), (6, .em 1)]⟩
def eratchetref19_Turn_j2 (N : Nat) {R : Type} (n : Nat) (x : Pratchetref19_Turn_j2.den) (k : KS R) : Option R := match n with
  | 0 => none
  | _ + 1 => ratchetref19_Turn_j2 N (fun r0 r1 r2 r3 r4 => k .ret ⟨[(6, .ptr 0 0)], [(0, .box [.own 1, .p (.b r0), .arr 2 r1 r2 true]), (1, .arr (.t [.i .i64] r3)), (2, .arr (.t [.i .i64] r4))]⟩) (fun r0 r1 => k .ret ⟨[(6, .ptr 0 0)], [(0, .box [.own 1, .p (.b r0), .own 2]), (1, .arr (.e 1)), (2, .arr (.t [.i .i64] r1))]⟩) x.1.1 x.1.2.1 x.1.2.2.2.2.2.1 x.2.1.1 x.2.1.2.1 x.2.2.1.2.1 x.2.2.2.2.2.1.2.1
theorem loop_ratchetref19_Turn_j2 (N : Nat) {R : Type} : ∀ (n : Nat) (s : StS) (k : KS R) (r : R), lent' Pratchetref19_Turn_j2 (eratchetref19_Turn_j2 N n) s k = some r → ∃ e s', runL (runF T) [0, 1, 5, 6, 7, 8] c25_j2 s.enc = some (e, s'.enc) ∧ k e s' = some r :=
  loop_ok (F49_ok N) (H := H_ratchetref19_Turn) (Lp := Lratchetref19_Turn_1 N) (X := X_ratchetref19_Turn) (p := 15458) (LOK_of (l := [(989326, [6, 7, 8, 10], c25_j3)]) (by kernel_rfl) ⟨(updL_ok (loop_ratchetref19_Turn_j3 N 1)), trivial⟩) (fun _ _ => rfl) (fun n x k => by kernel_rfl)
noncomputable def Lratchetref19_Turn_2 (N : Nat) {R : Type} : Nat → StS → KS R → Option R := updL (Lratchetref19_Turn_1 N) 15458 (lent' Pratchetref19_Turn_j2 (eratchetref19_Turn_j2 N 1))
def ratchetref19_Turn_j1 (N : Nat) {R : Type} (k0 : Bool → Nat → Nat → List Int → List Int → Option R) (k1 : Bool → List Int → Option R) (b0 : Int) (b1 : List Int) (b2 : Bool) (b3 : Bool) (b4 : List Int) (b5 : Bool) (b6 : Bool) (b7 : Bool) : Option R := (bif decide (((b4.length : Nat) : Int) = 1) then (ratchetref19_Turn_j2 N (fun z45 z46 z47 z48 z49 => (k0 z45 z46 z47 z48 z49)) (fun z50 z51 => (k1 z50 z51)) b0 b1 b2 b4 b5 b6 b3) else (ratchetref19_Turn_j2 N (fun z52 z53 z54 z55 z56 => (k0 z52 z53 z54 z55 z56)) (fun z57 z58 => (k1 z57 z58)) b0 b1 b2 b4 b5 b6 false))
def Pratchetref19_Turn_j1 : SP := ⟨[(0, .p (.s (.i .i64))), (1, .p (.s (.sl [.i .i64]))), (5, .ptr 0 0), (6, .ptr 1 0), (7, .ptr 4 0), (8, .p (.s .b)), (9, .p (.s .b))], [(0, .box [.p (.s (.sl [.i .i64])), .p (.s .b)]), (1, .box [.own 2, .p (.s .b), .own 3]), (2, .em 1), (3, .em 1), (4, .box [.own 5, .p (.s .b), .own 6]), (5, .em 1), (6, .em 1)]⟩
def eratchetref19_Turn_j1 (N : Nat) {R : Type} (n : Nat) (x : Pratchetref19_Turn_j1.den) (k : KS R) : Option R := match n with
  | 0 => none
  | _ + 1 => ratchetref19_Turn_j1 N (fun r0 r1 r2 r3 r4 => k .ret ⟨[(6, .ptr 0 0)], [(0, .box [.own 1, .p (.b r0), .arr 2 r1 r2 true]), (1, .arr (.t [.i .i64] r3)), (2, .arr (.t [.i .i64] r4))]⟩) (fun r0 r1 => k .ret ⟨[(6, .ptr 0 0)], [(0, .box [.own 1, .p (.b r0), .own 2]), (1, .arr (.e 1)), (2, .arr (.t [.i .i64] r1))]⟩) x.1.1 x.1.2.1 x.1.2.2.2.2.2.1 x.1.2.2.2.2.2.2.1 x.2.1.1 x.2.1.2.1 x.2.2.1.2.1 x.2.2.2.2.2.1.2.1
theorem loop_ratchetref19_Turn_j1 (N : Nat) {R : Type} : ∀ (n : Nat) (s : StS) (k : KS R) (r : R), lent' Pratchetref19_Turn_j1 (eratchetref19_Turn_j1 N n) s k = some r → ∃ e s', runL (runF T) [0, 1, 5, 6, 7, 8, 9] c25_j1 s.enc = some (e, s'.enc) ∧ k e s' = some r :=
  loop_ok (F49_ok N) (H := H_ratchetref19_Turn) (Lp := Lratchetref19_Turn_2 N) (X := X_ratchetref19_Turn) (p := 966) (LOK_of (l := [(15458, [0, 1, 5, 6, 7, 8], c25_j2)]) (by kernel_rfl) ⟨(updL_ok (loop_ratchetref19_Turn_j2 N 1)), trivial⟩) (fun _ _ => rfl) (fun n x k => by kernel_rfl)
noncomputable def Lratchetref19_Turn_3 (N : Nat) {R : Type} : Nat → StS → KS R → Option R := updL (Lratchetref19_Turn_2 N) 966 (lent' Pratchetref19_Turn_j1 (eratchetref19_Turn_j1 N 1))
def ratchetref19_Turn_j0 (N : Nat) {R : Type} (k0 : Bool → Nat → Nat → List Int → List Int → Option R) (k1 : Bool → List Int → Option R) (b0 : Int) (b1 : List Int) (b2 : Bool) (b3 : List Int) (b4 : Bool) (b5 : Bool) (b6 : Bool) : Option R := (ratchetref19_Places N b0 (fun y1 => (bif decide (b0 = 2) then (bif b2 then (ratchetref19_Turn_j1 N (fun z59 z60 z61 z62 z63 => (k0 z59 z60 z61 z62 z63)) (fun z64 z65 => (k1 z64 z65)) b0 b1 b2 true b3 b4 b5 b6) else (ratchetref19_Turn_j1 N (fun z66 z67 z68 z69 z70 => (k0 z66 z67 z68 z69 z70)) (fun z71 z72 => (k1 z71 z72)) b0 b1 b2 (decide (((b1.length : Nat) : Int) < y1)) b3 b4 b5 b6)) else (ratchetref19_Turn_j1 N (fun z73 z74 z75 z76 z77 => (k0 z73 z74 z75 z76 z77)) (fun z78 z79 => (k1 z78 z79)) b0 b1 b2 (decide (((b1.length : Nat) : Int) < y1)) b3 b4 b5 b6))))
def Pratchetref19_Turn_j0 : SP := ⟨[(0, .p (.s (.i .i64))), (1, .p (.s (.sl [.i .i64]))), (5, .ptr 0 0), (6, .ptr 1 0), (7, .ptr 4 0), (8, .p (.s .b))], [(0, .box [.p (.s (.sl [.i .i64])), .p (.s .b)]), (1, .box [.own 2, .p (.s .b), .own 3]), (2, .em 1), (3, .em 1), (4, .box [.own 5, .p (.s .b), .own 6]), (5, .em 1), (6, .em 1)]⟩
def eratchetref19_Turn_j0 (N : Nat) {R : Type} (n : Nat) (x : Pratchetref19_Turn_j0.den) (k : KS R) : Option R := match n with
  | 0 => none
  | _ + 1 => ratchetref19_Turn_j0 N (fun r0 r1 r2 r3 r4 => k .ret ⟨[(6, .ptr 0 0)], [(0, .box [.own 1, .p (.b r0), .arr 2 r1 r2 true]), (1, .arr (.t [.i .i64] r3)), (2, .arr (.t [.i .i64] r4))]⟩) (fun r0 r1 => k .ret ⟨[(6, .ptr 0 0)], [(0, .box [.own 1, .p (.b r0), .own 2]), (1, .arr (.e 1)), (2, .arr (.t [.i .i64] r1))]⟩) x.1.1 x.1.2.1 x.1.2.2.2.2.2.1 x.2.1.1 x.2.1.2.1 x.2.2.1.2.1 x.2.2.2.2.2.1.2.1
theorem loop_ratchetref19_Turn_j0 (N : Nat) {R : Type} : ∀ (n : Nat) (s : StS) (k : KS R) (r : R), lent' Pratchetref19_Turn_j0 (eratchetref19_Turn_j0 N n) s k = some r → ∃ e s', runL (runF T) [0, 1, 5, 6, 7, 8] c25_j0 s.enc = some (e, s'.enc) ∧ k e s' = some r :=
  loop_ok (F49_ok N) (H := H_ratchetref19_Turn) (Lp := Lratchetref19_Turn_3 N) (X := X_ratchetref19_Turn) (p := 30) (LOK_of (l := [(966, [0, 1, 5, 6, 7, 8, 9], c25_j1)]) (by kernel_rfl) ⟨(updL_ok (loop_ratchetref19_Turn_j1 N 1)), trivial⟩) (fun _ _ => rfl) (fun n x k => by kernel_rfl)
noncomputable def Lratchetref19_Turn_4 (N : Nat) {R : Type} : Nat → StS → KS R → Option R := updL (Lratchetref19_Turn_3 N) 30 (lent' Pratchetref19_Turn_j0 (eratchetref19_Turn_j0 N 1))
def ratchetref19_Turn (N : Nat) {R : Type} (a0 : Int) (a1 : List Int) (a2 : List Int) (a3 : Bool) (k0 : List Int → Bool → List Int → Option R) : Option R := (bif a3 then (ratchetref19_Turn_j0 N (fun z80 z81 z82 z83 z84 => (bif decide ((z81 + z82) ≤ z84.length) then (k0 z83 z80 (List.take z82 (List.drop z81 z84))) else none)) (fun z85 z86 => (k0 [] z85 z86)) a0 a1 (decide (0 < ((a1.length : Nat) : Int))) a2 a3 false false) else (ratchetref19_Turn_j0 N (fun z87 z88 z89 z90 z91 => (bif decide ((z88 + z89) ≤ z91.length) then (k0 z90 z87 (List.take z89 (List.drop z88 z91))) else none)) (fun z92 z93 => (k0 [] z92 z93)) a0 a1 false a2 a3 false false))
def P_ratchetref19_Turn : AP := ⟨[.p (.s (.i .i64)), .p (.s (.sl [.i .i64])), .agg [.p (.s (.sl [.i .i64])), .p (.s .b)]], []⟩
def e_ratchetref19_Turn (N : Nat) {R : Type} (x : P_ratchetref19_Turn.den) (k : List Nat → List DS → HeapS → Option R) : Option R := ratchetref19_Turn N x.1.1 x.1.2.1 x.1.2.2.1.1 x.1.2.2.1.2.1 (fun r0 r1 r2 => k [] [.agg [.p (.l (.t [.i .i64] r0)), .p (.b r1), .p (.l (.t [.i .i64] r2))]] [])
noncomputable def F50 (N : Nat) {R : Type} : CfS R := updC (F49 N) 25 (ent P_ratchetref19_Turn (e_ratchetref19_Turn N) (F49 N 25))
theorem F50_ok (N : Nat) {R : Type} : FOK (F50 N : CfS R) (runF T) :=
  FOK_upd (F49_ok N) (Snd_ent (F49_ok N) (H := H_ratchetref19_Turn) (Lp := Lratchetref19_Turn_4 N) (X := X_ratchetref19_Turn) (rp := [⟨[.agg [.p (.s (.sl [.i .i64])), .p (.s .b), .p (.s (.sl [.i .i64]))]], []⟩]) (ver := c25) rfl (LOK_of (l := [(30, [0, 1, 5, 6, 7, 8], c25_j0)]) (by kernel_rfl) ⟨(updL_ok (loop_ratchetref19_Turn_j0 N 1)), trivial⟩) (fun x k => by kernel_rfl) (Snd_of (F49_ok N) 25 fun _ _ _ _ h => h))
def X_ratchetref19_Turns : Nat → List SP := fun p => if p = 63 then [⟨[(4, .own 0)], [(0, .arr [.sl [.i .i64], .b, .sl [.i .i64]])]⟩] else []
def H_ratchetref19_Turns : Nat → Option (List Sh) := fun n => if n = 23000 then some [.sl [.i .i64], .b, .sl [.i .i64]] else none
noncomputable def Lratchetref19_Turns_0 (N : Nat) {R : Type} : Nat → StS → KS R → Option R := noL
def ratchetref19_Turns_l0 (N : Nat) {R : Type} (k0 : Option R) (k1 : (List ((List Int) × Bool × (List Int))) → Option R) : Nat → Int → (List ((List Int) × Bool)) → List Int → Int → (List ((List Int) × Bool × (List Int))) → Option R
  | 0, _, _, _, _, _ => none
  | n + 1, b0, b1, b2, b3, b4 => (bif decide (b3 < ((b1.length : Nat) : Int)) then ((at? b1 b3).bind fun x1 => (ratchetref19_Turn N b0 b2 x1.1 x1.2 (fun y2 y3 y4 => (bif roomB (b4.length + 1) 56 then (ratchetref19_Turns_l0 N k0 k1 n b0 b1 y4 (w64 (b3 + 1)) (b4 ++ [(y2, y3, y4)])) else none)))) else (k1 b4))
def Pratchetref19_Turns_l0 : SP := ⟨[(0, .p (.s (.i .i64))), (1, .p (.s (.sl [.sl [.i .i64], .b]))), (5, .own 0), (6, .p (.s (.sl [.i .i64]))), (7, .p (.s (.i .i64)))], [(0, .arr [.sl [.i .i64], .b, .sl [.i .i64]])]⟩
def eratchetref19_Turns_l0 (N : Nat) {R : Type} (n : Nat) (x : Pratchetref19_Turns_l0.den) (k : KS R) : Option R := ratchetref19_Turns_l0 N (k (.ex 0) ⟨[(5, .own 0)], [(0, .arr (.e 3))]⟩) (fun r0 => k (.ex 0) ⟨[(5, .own 0)], [(0, .arr (.t [.sl [.i .i64], .b, .sl [.i .i64]] r0))]⟩) n x.1.1 x.1.2.1 x.1.2.2.2.1 x.1.2.2.2.2.1 x.2.1
theorem loop_ratchetref19_Turns_l0 (N : Nat) {R : Type} : ∀ (n : Nat) (s : StS) (k : KS R) (r : R), lent' Pratchetref19_Turns_l0 (eratchetref19_Turns_l0 N n) s k = some r → ∃ e s', runL (runF T) [0, 1, 5, 6, 7] c28_l0 s.enc = some (e, s'.enc) ∧ k e s' = some r :=
  loop_ok (F50_ok N) (H := H_ratchetref19_Turns) (Lp := Lratchetref19_Turns_0 N) (X := X_ratchetref19_Turns) (p := 122) (LOK_of (l := []) (by kernel_rfl) trivial) (fun _ _ => rfl) (fun n x k => by kernel_rfl)
noncomputable def Lratchetref19_Turns_1 (N : Nat) {R : Type} : Nat → StS → KS R → Option R := updL (Lratchetref19_Turns_0 N) 122 (lent' Pratchetref19_Turns_l0 (eratchetref19_Turns_l0 N N))
def ratchetref19_Turns (N : Nat) {R : Type} (a0 : Int) (a1 : List ((List Int) × Bool)) (k0 : (List ((List Int) × Bool × (List Int))) → Option R) : Option R := (ratchetref19_Turns_l0 N (k0 []) (fun z5 => (k0 z5)) N a0 a1 [] 0 [])
def P_ratchetref19_Turns : AP := ⟨[.p (.s (.i .i64)), .p (.s (.sl [.sl [.i .i64], .b]))], []⟩
def e_ratchetref19_Turns (N : Nat) {R : Type} (x : P_ratchetref19_Turns.den) (k : List Nat → List DS → HeapS → Option R) : Option R := ratchetref19_Turns N x.1.1 x.1.2.1 (fun r0 => k [] [.p (.l (.t [.sl [.i .i64], .b, .sl [.i .i64]] r0))] [])
noncomputable def F51 (N : Nat) {R : Type} : CfS R := updC (F50 N) 28 (ent P_ratchetref19_Turns (e_ratchetref19_Turns N) (F50 N 28))
theorem F51_ok (N : Nat) {R : Type} : FOK (F51 N : CfS R) (runF T) :=
  FOK_upd (F50_ok N) (Snd_ent (F50_ok N) (H := H_ratchetref19_Turns) (Lp := Lratchetref19_Turns_1 N) (X := X_ratchetref19_Turns) (rp := []) (ver := c28) rfl (LOK_of (l := [(122, [0, 1, 5, 6, 7], c28_l0)]) (by kernel_rfl) ⟨(updL_ok (loop_ratchetref19_Turns_l0 N N)), trivial⟩) (fun x k => by kernel_rfl) (Snd_of (F50_ok N) 28 fun _ _ _ _ h => h))
def X_ratchetlaw19_QueuesRuns : Nat → List SP := fun _ => []
def H_ratchetlaw19_QueuesRuns : Nat → Option (List Sh) := fun n => if n = 122000 then some [.i .i64] else none
noncomputable def Lratchetlaw19_QueuesRuns_0 (N : Nat) {R : Type} : Nat → StS → KS R → Option R := noL
def ratchetlaw19_QueuesRuns_l0 (N : Nat) {R : Type} (k0 : Bool → Option R) (k1 : Int → Int → (List ((List Int) × Bool)) → Option R) : Nat → Int → Int → (List ((List Int) × Bool)) → Int → Option R
  | 0, _, _, _, _ => none
  | n + 1, b0, b1, b2, b3 => (bif decide (b3 < ((b2.length : Nat) : Int)) then ((at? b2 b3).bind fun x1 => (bif decide (3 < ((x1.1.length : Nat) : Int)) then (k0 true) else (ratchetlaw19_QueuesRuns_l0 N k0 k1 n b0 b1 b2 (w64 (b3 + 1))))) else (k1 b0 b1 b2))
def Pratchetlaw19_QueuesRuns_l0 : SP := ⟨[(0, .p (.s (.i .i64))), (1, .p (.s (.i .i64))), (2, .p (.s (.sl [.sl [.i .i64], .b]))), (7, .p (.s (.i .i64)))], []⟩
def eratchetlaw19_QueuesRuns_l0 (N : Nat) {R : Type} (n : Nat) (x : Pratchetlaw19_QueuesRuns_l0.den) (k : KS R) : Option R := ratchetlaw19_QueuesRuns_l0 N (fun r0 => k .ret ⟨[(6, .p (.b r0))], []⟩) (fun r0 r1 r2 => k (.ex 0) ⟨[(0, .p (.i .i64 r0)), (1, .p (.i .i64 r1)), (2, .p (.l (.t [.sl [.i .i64], .b] r2)))], []⟩) n x.1.1 x.1.2.1 x.1.2.2.1 x.1.2.2.2.1
theorem loop_ratchetlaw19_QueuesRuns_l0 (N : Nat) {R : Type} : ∀ (n : Nat) (s : StS) (k : KS R) (r : R), lent' Pratchetlaw19_QueuesRuns_l0 (eratchetlaw19_QueuesRuns_l0 N n) s k = some r → ∃ e s', runL (runF T) [0, 1, 2, 7] c5_l0 s.enc = some (e, s'.enc) ∧ k e s' = some r :=
  loop_ok (F51_ok N) (H := H_ratchetlaw19_QueuesRuns) (Lp := Lratchetlaw19_QueuesRuns_0 N) (X := X_ratchetlaw19_QueuesRuns) (p := 122) (LOK_of (l := []) (by kernel_rfl) trivial) (fun _ _ => rfl) (fun n x k => by kernel_rfl)
noncomputable def Lratchetlaw19_QueuesRuns_1 (N : Nat) {R : Type} : Nat → StS → KS R → Option R := updL (Lratchetlaw19_QueuesRuns_0 N) 122 (lent' Pratchetlaw19_QueuesRuns_l0 (eratchetlaw19_QueuesRuns_l0 N N))
def ratchetlaw19_QueuesRuns_l1 (N : Nat) {R : Type} (k0 : Int → (List ((List Int) × Bool)) → (List ((List Int) × Bool × (List Int))) → Int → Int → Option R) : Nat → Int → Int → (List ((List Int) × Bool)) → (List ((List Int) × Bool × (List Int))) → Int → Int → Int → Option R
  | 0, _, _, _, _, _, _, _ => none
  | n + 1, b0, b1, b2, b3, b4, b5, b6 => (bif decide (b6 < ((b2.length : Nat) : Int)) then (bif decide (b5 = 0) then ((at? b2 b6).bind fun x1 => (ratchetref19_TurnErr N b1 x1.1 x1.2 (fun y2 => (ratchetlaw19_QueuesRuns_l1 N k0 n b0 b1 b2 b3 b4 y2 (w64 (b6 + 1)))))) else (k0 b0 b2 b3 b4 b5)) else (k0 b0 b2 b3 b4 b5))
def Pratchetlaw19_QueuesRuns_l1 : SP := ⟨[(0, .p (.s (.i .i64))), (1, .p (.s (.i .i64))), (2, .p (.s (.sl [.sl [.i .i64], .b]))), (8, .p (.s (.sl [.sl [.i .i64], .b, .sl [.i .i64]]))), (9, .p (.s (.i .i64))), (10, .p (.s (.i .i64))), (11, .p (.s (.i .i64)))], []⟩
def eratchetlaw19_QueuesRuns_l1 (N : Nat) {R : Type} (n : Nat) (x : Pratchetlaw19_QueuesRuns_l1.den) (k : KS R) : Option R := ratchetlaw19_QueuesRuns_l1 N (fun r0 r1 r2 r3 r4 => k (.ex 2) ⟨[(0, .p (.i .i64 r0)), (2, .p (.l (.t [.sl [.i .i64], .b] r1))), (8, .p (.l (.t [.sl [.i .i64], .b, .sl [.i .i64]] r2))), (9, .p (.i .i64 r3)), (10, .p (.i .i64 r4))], []⟩) n x.1.1 x.1.2.1 x.1.2.2.1 x.1.2.2.2.1 x.1.2.2.2.2.1 x.1.2.2.2.2.2.1 x.1.2.2.2.2.2.2.1
theorem loop_ratchetlaw19_QueuesRuns_l1 (N : Nat) {R : Type} : ∀ (n : Nat) (s : StS) (k : KS R) (r : R), lent' Pratchetlaw19_QueuesRuns_l1 (eratchetlaw19_QueuesRuns_l1 N n) s k = some r → ∃ e s', runL (runF T) [0, 1, 2, 8, 9, 10, 11] c5_l1 s.enc = some (e, s'.enc) ∧ k e s' = some r :=
  loop_ok (F51_ok N) (H := H_ratchetlaw19_QueuesRuns) (Lp := Lratchetlaw19_QueuesRuns_1 N) (X := X_ratchetlaw19_QueuesRuns) (p := 16322) (LOK_of (l := []) (by kernel_rfl) trivial) (fun _ _ => rfl) (fun n x k => by kernel_rfl)
noncomputable def Lratchetlaw19_QueuesRuns_2 (N : Nat) {R : Type} : Nat → StS → KS R → Option R := updL (Lratchetlaw19_QueuesRuns_1 N) 16322 (lent' Pratchetlaw19_QueuesRuns_l1 (eratchetlaw19_QueuesRuns_l1 N N))
def ratchetlaw19_QueuesRuns_l2 (N : Nat) {R : Type} (k0 : Bool → Option R) (k1 : Option R) : Nat → (List ((List Int) × Bool)) → (List ((List Int) × Bool × (List Int))) → (List ((List Int) × Bool × (List Int))) → Int → List Int → List Int → Option R
  | 0, _, _, _, _, _, _ => none
  | n + 1, b0, b1, b2, b3, b4, b5 => (bif decide (b3 < ((b0.length : Nat) : Int)) then ((at? b1 b3).bind fun x1 => ((at? b2 b3).bind fun x2 => (ratchetref19_SameDone N x1.1 x1.2.1 x1.2.2 x2.1 x2.2.1 x2.2.2 (fun y3 => (bif (!y3) then (k0 false) else ((at? b1 b3).bind fun x4 => (bif x4.2.1 then ((at? b0 b3).bind fun x5 => ((at? x5.1 0).bind fun x6 => (bif roomB (b4.length + 1) 8 then ((at? b1 b3).bind fun x7 => (bif roomB (b5.length + x7.1.length) 8 then (ratchetbase_CopyInts N (b5 ++ x7.1) (fun y8 => ((at? b1 b3).bind fun x9 => (bif roomB (y8.length + x9.2.2.length) 8 then (ratchetbase_Ints N (b4 ++ [x6]) (y8 ++ x9.2.2) (fun y10 => (bif (!y10) then (k0 false) else (ratchetlaw19_QueuesRuns_l2 N k0 k1 n b0 b1 b2 (w64 (b3 + 1)) (b4 ++ [x6]) (b5 ++ x7.1))))) else none)))) else none)) else none))) else ((at? b1 b3).bind fun x11 => (bif roomB (b5.length + x11.1.length) 8 then (ratchetbase_CopyInts N (b5 ++ x11.1) (fun y12 => ((at? b1 b3).bind fun x13 => (bif roomB (y12.length + x13.2.2.length) 8 then (ratchetbase_Ints N b4 (y12 ++ x13.2.2) (fun y14 => (bif (!y14) then (k0 false) else (ratchetlaw19_QueuesRuns_l2 N k0 k1 n b0 b1 b2 (w64 (b3 + 1)) b4 (b5 ++ x11.1))))) else none)))) else none))))))))) else k1)
def Pratchetlaw19_QueuesRuns_l2 : SP := ⟨[(2, .p (.s (.sl [.sl [.i .i64], .b]))), (8, .p (.s (.sl [.sl [.i .i64], .b, .sl [.i .i64]]))), (12, .p (.s (.sl [.sl [.i .i64], .b, .sl [.i .i64]]))), (13, .own 0), (14, .own 1), (15, .p (.s (.i .i64)))], [(0, .arr [.i .i64]), (1, .arr [.i .i64])]⟩
def eratchetlaw19_QueuesRuns_l2 (N : Nat) {R : Type} (n : Nat) (x : Pratchetlaw19_QueuesRuns_l2.den) (k : KS R) : Option R := ratchetlaw19_QueuesRuns_l2 N (fun r0 => k .ret ⟨[(6, .p (.b r0))], []⟩) (k (.ex 4) ⟨[], []⟩) n x.1.1 x.1.2.1 x.1.2.2.1 x.1.2.2.2.2.2.1 x.2.1 x.2.2.1
theorem loop_ratchetlaw19_QueuesRuns_l2 (N : Nat) {R : Type} : ∀ (n : Nat) (s : StS) (k : KS R) (r : R), lent' Pratchetlaw19_QueuesRuns_l2 (eratchetlaw19_QueuesRuns_l2 N n) s k = some r → ∃ e s', runL (runF T) [2, 8, 12, 13, 14, 15] c5_l2 s.enc = some (e, s'.enc) ∧ k e s' = some r :=
  loop_ok (F51_ok N) (H := H_ratchetlaw19_QueuesRuns) (Lp := Lratchetlaw19_QueuesRuns_2 N) (X := X_ratchetlaw19_QueuesRuns) (p := 522490) (LOK_of (l := []) (by kernel_rfl) trivial) (fun _ _ => rfl) (fun n x k => by kernel_rfl)
noncomputable def Lratchetlaw19_QueuesRuns_3 (N : Nat) {R : Type} : Nat → StS → KS R → Option R := updL (Lratchetlaw19_QueuesRuns_2 N) 522490 (lent' Pratchetlaw19_QueuesRuns_l2 (eratchetlaw19_QueuesRuns_l2 N N))
def ratchetlaw19_QueuesRuns_j0 (N : Nat) {R : Type} (k0 : Bool → Option R) (b0 : Int) (b1 : Int) (b2 : List ((List Int) × Bool)) (b3 : List ((List Int) × Bool × (List Int))) (b4 : Int) (b5 : Int) : Option R := (ratchetlaw19_QueuesRuns_l1 N (fun z3 z4 z5 z6 z7 => (bif decide (z7 ≠ 0) then (bif decide (z6 = z7) then (k0 (decide (((z5.length : Nat) : Int) = 0))) else (k0 false)) else (ratchetref19_Turns N z3 z4 (fun y8 => (bif decide (z6 ≠ 0) then (k0 false) else (bif decide (((z5.length : Nat) : Int) ≠ ((z4.length : Nat) : Int)) then (k0 false) else (ratchetlaw19_QueuesRuns_l2 N (fun z15 => (k0 z15)) (k0 true) N z4 z5 y8 0 [] []))))))) N b0 b1 b2 b3 b4 b5 0)
def Pratchetlaw19_QueuesRuns_j0 : SP := ⟨[(0, .p (.s (.i .i64))), (1, .p (.s (.i .i64))), (2, .p (.s (.sl [.sl [.i .i64], .b]))), (8, .p (.s (.sl [.sl [.i .i64], .b, .sl [.i .i64]]))), (9, .p (.s (.i .i64))), (10, .p (.s (.i .i64)))], []⟩
def eratchetlaw19_QueuesRuns_j0 (N : Nat) {R : Type} (n : Nat) (x : Pratchetlaw19_QueuesRuns_j0.den) (k : KS R) : Option R := match n with
  | 0 => none
  | _ + 1 => ratchetlaw19_QueuesRuns_j0 N (fun r0 => k .ret ⟨[(6, .p (.b r0))], []⟩) x.1.1 x.1.2.1 x.1.2.2.1 x.1.2.2.2.1 x.1.2.2.2.2.1 x.1.2.2.2.2.2.1
theorem loop_ratchetlaw19_QueuesRuns_j0 (N : Nat) {R : Type} : ∀ (n : Nat) (s : StS) (k : KS R) (r : R), lent' Pratchetlaw19_QueuesRuns_j0 (eratchetlaw19_QueuesRuns_j0 N n) s k = some r → ∃ e s', runL (runF T) [0, 1, 2, 8, 9, 10] c5_j0 s.enc = some (e, s'.enc) ∧ k e s' = some r :=
  loop_ok (F51_ok N) (H := H_ratchetlaw19_QueuesRuns) (Lp := Lratchetlaw19_QueuesRuns_3 N) (X := X_ratchetlaw19_QueuesRuns) (p := 510) (LOK_of (l := [(16322, [0, 1, 2, 8, 9, 10, 11], c5_l1), (522490, [2, 8, 12, 13, 14, 15], c5_l2)]) (by kernel_rfl) ⟨(updL_ne (by decide) (updL_ok (loop_ratchetlaw19_QueuesRuns_l1 N N))), (updL_ok (loop_ratchetlaw19_QueuesRuns_l2 N N)), trivial⟩) (fun _ _ => rfl) (fun n x k => by kernel_rfl)
noncomputable def Lratchetlaw19_QueuesRuns_4 (N : Nat) {R : Type} : Nat → StS → KS R → Option R := updL (Lratchetlaw19_QueuesRuns_3 N) 510 (lent' Pratchetlaw19_QueuesRuns_j0 (eratchetlaw19_QueuesRuns_j0 N 1))
def ratchetlaw19_QueuesRuns (N : Nat) {R : Type} (a0 : Int) (a1 : Int) (a2 : List ((List Int) × Bool)) (k0 : Bool → Option R) : Option R := (ratchetlaw19_awake N (fun y1 => (bif (!y1) then (k0 false) else (bif decide (102 < ((a2.length : Nat) : Int)) then (k0 true) else (ratchetlaw19_QueuesRuns_l0 N (fun z2 => (k0 z2)) (fun z3 z4 z5 => (ratchetref19_CopyTurns N z5 (fun y6 => (queues_TurnsOf N z3 z4 y6 (fun y7 y8 => (ratchetref19_WidthErr N z3 z4 (fun y9 => (bif decide (y9 = 0) then (bif decide (100 < ((z5.length : Nat) : Int)) then (ratchetlaw19_QueuesRuns_j0 N (fun z16 => (k0 z16)) z3 z4 z5 y7 y8 8) else (ratchetlaw19_QueuesRuns_j0 N (fun z17 => (k0 z17)) z3 z4 z5 y7 y8 y9)) else (ratchetlaw19_QueuesRuns_j0 N (fun z18 => (k0 z18)) z3 z4 z5 y7 y8 y9))))))))) N a0 a1 a2 0)))))
def P_ratchetlaw19_QueuesRuns : AP := ⟨[.p (.s (.i .i64)), .p (.s (.i .i64)), .p (.s (.sl [.sl [.i .i64], .b]))], []⟩
def e_ratchetlaw19_QueuesRuns (N : Nat) {R : Type} (x : P_ratchetlaw19_QueuesRuns.den) (k : List Nat → List DS → HeapS → Option R) : Option R := ratchetlaw19_QueuesRuns N x.1.1 x.1.2.1 x.1.2.2.1 (fun r0 => k [] [.p (.b r0)] [])
noncomputable def F52 (N : Nat) {R : Type} : CfS R := updC (F51 N) 5 (ent P_ratchetlaw19_QueuesRuns (e_ratchetlaw19_QueuesRuns N) (F51 N 5))
theorem F52_ok (N : Nat) {R : Type} : FOK (F52 N : CfS R) (runF T) :=
  FOK_upd (F51_ok N) (Snd_ent (F51_ok N) (H := H_ratchetlaw19_QueuesRuns) (Lp := Lratchetlaw19_QueuesRuns_4 N) (X := X_ratchetlaw19_QueuesRuns) (rp := []) (ver := c5) rfl (LOK_of (l := [(122, [0, 1, 2, 7], c5_l0), (510, [0, 1, 2, 8, 9, 10], c5_j0)]) (by kernel_rfl) ⟨(updL_ne (by decide) (updL_ne (by decide) (updL_ne (by decide) (updL_ok (loop_ratchetlaw19_QueuesRuns_l0 N N))))), (updL_ok (loop_ratchetlaw19_QueuesRuns_j0 N 1)), trivial⟩) (fun x k => by kernel_rfl) (Snd_of (F51_ok N) 5 fun _ _ _ _ h => h))
/-- What is left to show. -/
def PureQueuesRuns : Prop := ∀ (x0 : Int) (x1 : Int) (x2 : List ((List Int) × Bool)), okL [.i .i64] x0 → okL [.i .i64] x1 → okL [.sl [.sl [.i .i64], .b]] x2 → ∃ N, ∀ {R : Type} (k : Bool → Option R), ratchetlaw19_QueuesRuns N x0 x1 x2 k = k true
end Am
end Go.Proofs.Ytcmaeglondkpdaa
