/- Which slots an operation reads. -/
import Derived.Test.YtfdmmnfjdifccaaGreatDoorAm25
import Derived.Test.YtfdmmnfjdifccaaGreatDoorAm2
set_option linter.unusedVariables false
set_option linter.unusedSimpArgs false
namespace Go.Proofs.YtfdmmnfjdifccaaGreatDoor
namespace Am
section
variable {R W : Nat → Prop} {β : Type}

theorem only_grd {c : Prop} [Decidable c] {m : M β} (h : Only R W m) : Only R W (grd c m) := by
  unfold grd; split
  · exact h
  · trivial
theorem only_arrK {k : Bool → Nat → List (List V) → M β} (h : ∀ a b c, Only R W (k a b c)) (o : Ob) : Only R W (arrK k o) := by unfold arrK; split <;> first | exact h _ _ _ | trivial
theorem only_arrNF {k : Nat → List (List V) → M β} (h : ∀ b c, Only R W (k b c)) (o : Ob) : Only R W (arrNF k o) := by unfold arrNF; split <;> first | exact h _ _ | trivial
theorem only_frz {c : Bool} {key : Nat} {o : Ob} {m : M β} (h : Only R W m) : Only R W (frz c key o m) := by unfold frz; split <;> exact h
theorem only_oret {α : Type} {o : Option α} {k : α → M β} (h : ∀ x, Only R W (k x)) : Only R W (oret o k) := by unfold oret; split <;> first | exact h _ | trivial
theorem only_iteM {c : Bool} {m m' : M β} (h : Only R W m) (h' : Only R W m') : Only R W (iteM c m m') := by unfold iteM; split <;> assumption
theorem only_asI {k : IntKind → Int → M β} (h : ∀ a b, Only R W (k a b)) (d : D) : Only R W (asI k d) := by unfold asI; split <;> first | exact h _ _ | trivial
theorem only_asB {k : Bool → M β} (h : ∀ a, Only R W (k a)) (d : D) : Only R W (asB k d) := by unfold asB; split <;> first | exact h _ | trivial
theorem only_asP {k : V → M β} (h : ∀ a, Only R W (k a)) (d : D) : Only R W (asP k d) := by unfold asP; split <;> first | exact h _ | trivial
theorem only_asG {k : List D → M β} (h : ∀ a, Only R W (k a)) (d : D) : Only R W (asG k d) := by unfold asG; split <;> first | exact h _ | trivial
theorem only_vl {x : Od} {k : D → M β} (hx : ∀ t, t ∈ O.rds.od x → R t) (h : ∀ d, Only R W (k d)) : Only R W (vl x k) := by
  cases x with
  | t n => exact ⟨hx n (by simp [O.rds.od]), h⟩
  | _ => exact h _
theorem only_vls : ∀ {xs : List Od} {k : List D → M β}, (∀ t, t ∈ xs.flatMap O.rds.od → R t) → (∀ ds, Only R W (k ds)) → Only R W (vls xs k)
  | [], k, _, h => h []
  | x :: xs, k, hx, h => only_vl (fun t ht => hx t (by simp [ht])) fun d => only_vls (fun t ht => hx t (by rw [List.flatMap_cons]; exact List.mem_append_right _ ht)) fun ds => h _

theorem only_toV (perm : Bool) : ∀ n, (∀ (d : D) (k : V → M β), (∀ v, Only R W (k v)) → Only R W (toV perm n d k)) ∧ (∀ (key off : Nat) (k : V → M β) (o : Ob), (∀ v, Only R W (k v)) → Only R W (toVb perm n key off k o)) ∧ (∀ (ds : List D) (k : List V → M β), (∀ v, Only R W (k v)) → Only R W (toVs perm n ds k))
  | 0 => ⟨fun d k _ => by unfold toV; trivial, fun key off k o _ => by unfold toVb; trivial, fun ds k _ => by unfold toVs; trivial⟩
  | n + 1 => by
    obtain ⟨i1, i2, i3⟩ := only_toV perm n
    refine ⟨fun d k h => ?_, fun key off k o h => ?_, fun ds k h => ?_⟩
    · cases d with
      | p u => exact h u
      | own key => exact fun o => only_arrK (fun _ _ _ => only_frz (h _)) o
      | arr key off len ap => exact fun o => only_arrK (fun _ _ _ => only_frz (only_grd (h _))) o
      | ptr key off => exact fun o => i2 key off k o h
      | ep key i off => exact fun o => only_arrK (fun _ _ _ => only_frz (only_oret fun _ => h _)) o
      | fn v caps => exact i3 caps _ fun _ => h _
      | ifc t a xs => exact i3 xs _ fun _ => h _
      | _ => trivial
    · cases o with
      | box cs => exact i3 cs _ fun _ => only_frz (h _)
      | fbx vs => exact h _
      | _ => trivial
    · cases ds with
      | nil => exact h []
      | cons d ds => exact i1 d _ fun _ => i3 ds _ fun _ => h _

theorem only_elems {k : Nat → List (List V) → M β} (h : ∀ a b, Only R W (k a b)) (d : D) : Only R W (elems k d) := by
  unfold elems; split
  · exact h _ _
  · exact fun o => only_arrK (fun _ _ _ => h _ _) o
  · exact fun o => only_arrK (fun _ _ _ => only_grd (h _ _)) o
  · trivial
theorem only_cgets : ∀ (n key off : Nat) {k : List D → M β}, (∀ ds, Only R W (k ds)) → Only R W (cgets key off n k)
  | 0, key, off, k, h => h []
  | n + 1, key, off, k, h => fun d => only_cgets n key (off + 1) fun ds => h _
theorem only_csets : ∀ (ds : List D) (key off : Nat) {k : M β}, Only R W k → Only R W (csets key off ds k)
  | [], key, off, k, h => h
  | d :: ds, key, off, k, h => only_csets ds key (off + 1) h
theorem only_fromCells {cs : List V} {off : Nat} {k : D → M β} (h : ∀ d, Only R W (k d)) (n : Option Nat) : Only R W (fromCells cs off k n) := by
  cases n with
  | none => exact only_oret fun _ => h _
  | some n => exact only_grd (h _)
theorem only_ldO {n : Option Nat} {k : D → M β} (h : ∀ d, Only R W (k d)) (d : D) : Only R W (ldO n k d) := by
  unfold ldO; split
  · cases n with
    | none => exact fun d => h d
    | some n => exact only_cgets n _ _ fun ds => h _
  · exact fun o => only_arrK (fun _ _ _ => only_oret fun _ => only_fromCells h n) o
  · exact only_fromCells h n
  · trivial
theorem only_stC {xs : List D} {k : M β} (h : Only R W k) (d : D) : Only R W (stC xs k d) := by
  unfold stC; split
  · exact only_csets xs _ _ h
  · refine (only_toV true 300).2.2 xs _ fun vs o => ?_
    unfold stE; split
    · exact only_oret fun _ => only_grd h
    · trivial
  · trivial
theorem only_ixO {sz : Nat} {n : Int} {k : D → M β} (h : ∀ d, Only R W (k d)) (d : D) : Only R W (ixO sz n k d) := by
  unfold ixO; split
  · exact only_grd (only_oret fun _ => h _)
  · exact fun o => only_arrK (fun _ _ _ => only_grd (h _)) o
  · exact fun o => only_arrK (fun _ _ _ => only_grd (h _)) o
  · trivial
theorem only_lnO {kind : Nat} {k : Nat → M β} (h : ∀ d, Only R W (k d)) (d : D) : Only R W (lnO k kind d) := by
  unfold lnO; split
  · exact only_elems (fun _ _ => h _) _
  · exact h _
  · intro o; unfold mpK; split <;> first | exact h _ | trivial
  · trivial
theorem only_apX {nm sz bytes : Nat} {ys : List (List V)} {k : D → M β} (h : ∀ d, Only R W (k d)) (d : D) : Only R W (apX nm sz bytes ys k d) := by
  unfold apX; split
  · intro o
    refine only_arrNF (fun s xs => only_grd ?_) o
    exact h (.own nm)
  · intro o
    refine only_arrNF (fun s xs => only_grd (only_iteM ?_ ?_)) o
    · exact h (.own nm)
    · unfold apIn
      refine only_grd ?_
      exact h _
  · trivial
theorem only_zeros : ∀ (z : List V) (nm : Nat) {k : List D → M β}, (∀ ds, Only R W (k ds)) → Only R W (zeros nm z k)
  | [], nm, k, h => h []
  | v :: z, nm, k, h => by
    cases v <;> exact only_zeros z (nm + 1) fun ds => h _
theorem only_fillZ : ∀ (z : List V) (nm : Nat) (cs : List (Option D)) {k : List D → M β}, (∀ ds, Only R W (k ds)) → Only R W (fillZ nm z cs k)
  | [], nm, [], k, h => h []
  | [], nm, _ :: _, k, h => trivial
  | v :: z, nm, [], k, h => by cases v <;> trivial
  | v :: z, nm, some d :: cs, k, h => by cases v <;> exact only_fillZ z (nm + 1) cs fun ds => h _
  | v :: z, nm, none :: cs, k, h => by cases v <;> exact only_fillZ z (nm + 1) cs fun ds => h _
theorem only_vparts : ∀ {ps : List (Nat × Nat × Od)} {k : List (Nat × Nat × D) → M β}, (∀ t, t ∈ ps.flatMap (fun p => O.rds.od p.2.2) → R t) → (∀ ds, Only R W (k ds)) → Only R W (vparts ps k)
  | [], k, _, h => h []
  | (off, size, x) :: ps, k, hx, h => only_vl (fun t ht => hx t (by simp [ht])) fun d => only_vparts (fun t ht => hx t (by rw [List.flatMap_cons]; exact List.mem_append_right _ ht)) fun ds => h _
theorem only_partsV : ∀ (ps : List (Nat × Nat × D)) (cs : List V) {k : List V → M β}, (∀ ds, Only R W (k ds)) → Only R W (partsV ps cs k)
  | [], cs, k, h => h cs
  | (off, size, d) :: ps, cs, k, h => (only_toV true 300).2.2 d.cells _ fun vs => only_grd (only_partsV ps _ h)
theorem only_boundO {d : Int} {k : Int → M β} {x : Option Od} (hx : ∀ t, t ∈ (x.map O.rds.od).getD [] → R t) (h : ∀ n, Only R W (k n)) : Only R W (boundO d k x) := by
  cases x with
  | none => exact h d
  | some x => exact only_vl (fun t ht => hx t (by simpa using ht)) fun d => only_asI (fun _ n => h n) d
theorem only_slO {sz : Nat} {lo hi mx : Option Od} {k : D → M β} (h1 : ∀ t, t ∈ (lo.map O.rds.od).getD [] → R t) (h2 : ∀ t, t ∈ (hi.map O.rds.od).getD [] → R t) (h3 : ∀ t, t ∈ (mx.map O.rds.od).getD [] → R t) (h : ∀ d, Only R W (k d)) (d : D) : Only R W (slO sz lo hi mx k d) := by
  unfold slO; split
  · exact only_boundO h1 fun _ => only_boundO h2 fun _ => only_grd (h _)
  · exact only_boundO h1 fun _ => only_boundO h2 fun _ => only_grd (h _)
  · exact fun o => only_arrK (fun _ _ _ => only_boundO h1 fun _ => only_boundO h2 fun _ => only_boundO h3 fun _ => only_grd (h _)) o
  · exact fun o => only_arrK (fun _ _ _ => only_boundO h1 fun _ => only_boundO h2 fun _ => only_boundO h3 fun _ => only_grd (h _)) o
  · trivial
theorem only_retake {nm : Nat} {k : D → M β} (h : ∀ d, Only R W (k d)) (d : D) : Only R W (retake nm k d) := by
  unfold retake; split
  · intro o
    refine only_arrNF (fun _ _ => only_grd ?_) o
    exact h (.own nm)
  · trivial
theorem only_argV {perm : Bool} {k : D → M β} (h : ∀ d, Only R W (k d)) (d : D) : Only R W (argV perm k d) := by
  unfold argV; split
  · exact (only_toV perm 300).2.2 _ _ fun _ => h _
  · exact (only_toV perm 300).1 _ _ fun _ => h _
theorem only_argO {mode : Nat} {d : D} {k : D → M β} (h : ∀ d, Only R W (k d)) : Only R W (argO mode d k) := by
  unfold argO; split
  · exact h d
  · exact only_argV h d
  · exact only_argV h d
theorem only_argsO : ∀ (ds : List D) (ms : List Nat) {k : List D → M β}, (∀ ds, Only R W (k ds)) → Only R W (argsO ms ds k)
  | [], ms, k, h => h []
  | d :: ds, ms, k, h => only_argO fun d' => only_argsO ds ms.tail fun ds' => h _
theorem only_gath : ∀ (n : Nat) (ts : List Nat) (seen : Heap) {k : Heap → M β}, (∀ s, Only R W (k s)) → Only R W (gath n ts seen k)
  | 0, ts, seen, k, h => trivial
  | n + 1, [], seen, k, h => h seen
  | n + 1, key :: ts, seen, k, h => by
    unfold gath; split
    · exact only_gath n ts seen h
    · exact fun o => only_gath n _ _ h
theorem only_kills : ∀ (sub : Heap) {m : M β}, Only R W m → Only R W (kills sub m)
  | [], m, h => h
  | (key, o) :: sub, m, h => only_iteM (only_kills sub h) (only_kills sub h)
theorem only_writes {m : List (Nat × Nat)} {f : Nat → Nat} : ∀ (hh : Heap) {k : M β}, Only R W k → Only R W (writes m f hh k)
  | [], k, h => h
  | (key, o) :: hh, k, h => by
    unfold writes; split <;> exact only_writes hh h
theorem only_callO {nm v : Nat} {bs : List D} {k : D → M β} (h : ∀ d, Only R W (k d)) (ds : List D) : Only R W (callO nm v bs k ds) :=
  only_gath _ _ _ fun sub => only_gath _ _ _ fun bsub => only_grd (only_oret fun c => only_grd fun a b cc => only_grd (only_kills _ (only_writes _ (h _))))

theorem only_set {key : Nat} {o : Ob} {m : M β} (h : Only R W m) : Only R W (.set key o m) := h
theorem only_mpO {k : Nat → Nat → List (V × Nat × V) → M β} (h : ∀ a b c, Only R W (k a b c)) (d : D) : Only R W (mpO k d) := by
  unfold mpO; split
  · intro o
    unfold mpK; split
    · exact h _ _ _
    · trivial
  · trivial
theorem only_evO {nm : Nat} {k : D → M β} {op : O} (hx : ∀ t, t ∈ O.rds op → R t) (h : ∀ d, Only R W (k d)) : Only R W (evO nm k op) := by
  have sub : ∀ {l : List Nat}, (∀ t, t ∈ l → t ∈ O.rds op) → ∀ t, t ∈ l → R t := fun hl t ht => hx t (hl t ht)
  cases op with
  | mv x => exact only_vl (sub fun t ht => ht) h
  | pk c a b => exact only_vl (sub fun t ht => by simp [O.rds, ht]) fun d => only_asB (fun _ => only_iteM (only_vl (sub fun t ht => by simp [O.rds, ht]) h) (only_vl (sub fun t ht => by simp [O.rds, ht]) h)) d
  | bi op x y => exact only_vl (sub fun t ht => by simp [O.rds, ht]) fun d => only_asP (fun _ => only_vl (sub fun t ht => by simp [O.rds, ht]) fun d => only_asP (fun _ => only_oret fun _ => h _) d) d
  | bb ne x y => exact only_vl (sub fun t ht => by simp [O.rds, ht]) fun d => only_asB (fun _ => only_vl (sub fun t ht => by simp [O.rds, ht]) fun d => only_asB (fun _ => h _) d) d
  | bn ne kind x =>
    refine only_vl (sub fun t ht => ht) fun d => ?_
    unfold isNilD; split <;> first | exact h _ | trivial | exact only_elems (fun _ _ => only_grd (h _)) _
  | ba ne ks x y => exact only_vl (sub fun t ht => by simp [O.rds, ht]) fun d => only_asG (fun _ => only_vl (sub fun t ht => by simp [O.rds, ht]) fun d => only_asG (fun _ => only_oret fun _ => h _) d) d
  | un op x =>
    refine only_vl (sub fun t ht => ht) fun d => ?_
    unfold unO; split <;> first | exact h _ | trivial
  | ld n a => exact only_vl (sub fun t ht => ht) fun d => only_ldO h d
  | st n a v => exact only_vl (sub fun t ht => by simp [O.rds, ht]) fun d => only_vl (sub fun t ht => by simp [O.rds, ht]) fun x => only_oret fun xs => only_stC (h _) d
  | fa off x =>
    refine only_vl (sub fun t ht => ht) fun d => ?_
    unfold moveO; split <;> first | exact h _ | trivial
  | fd off n x =>
    refine only_vl (sub fun t ht => ht) fun d => only_asG (fun xs => ?_) d
    cases n with
    | none => exact only_oret h
    | some n => exact only_grd (h _)
  | ix sz x i => exact only_vl (sub fun t ht => by simp [O.rds, ht]) fun d => only_vl (sub fun t ht => by simp [O.rds, ht]) fun d' => only_asI (fun _ _ => only_ixO h d) d'
  | xa len sz x i =>
    refine only_vl (sub fun t ht => by simp [O.rds, ht]) fun d => only_vl (sub fun t ht => by simp [O.rds, ht]) fun d' => only_asI (fun _ _ => only_grd ?_) d'
    unfold moveO; split <;> first | exact h _ | trivial
  | xv len sz n x i =>
    refine only_vl (sub fun t ht => by simp [O.rds, ht]) fun d => only_asG (fun xs => only_vl (sub fun t ht => by simp [O.rds, ht]) fun d' => only_asI (fun _ _ => only_grd ?_) d') d
    cases n with
    | none => exact only_oret h
    | some n => exact only_grd (h _)
  | xs x i =>
    refine only_vl (sub fun t ht => by simp [O.rds, ht]) fun d => only_vl (sub fun t ht => by simp [O.rds, ht]) fun d' => only_asI (fun _ _ => ?_) d'
    unfold xsO; split
    · split <;> first | exact h _ | trivial
    · trivial
  | ln kind x => exact only_vl (sub fun t ht => ht) fun d => only_lnO (fun _ => h _) d
  | ap sz bytes x y => exact only_vl (sub fun t ht => by simp [O.rds, ht]) fun d => only_vl (sub fun t ht => by simp [O.rds, ht]) fun d' => only_elems (fun _ _ => only_grd (only_apX h d)) d'
  | apa sz bytes x y => exact only_vl (sub fun t ht => by simp [O.rds, ht]) fun d => only_vl (sub fun t ht => by simp [O.rds, ht]) fun d' => only_elems (fun _ _ => only_grd (only_apX (only_slO (fun t ht => by cases ht) (fun t ht => by cases ht) (fun t ht => by cases ht) h) d)) d'
  | bl zero parts => exact only_vparts (sub fun t ht => ht) fun ps => only_oret fun cs => only_fillZ _ _ _ fun ds => h _
  | bs sz len zero parts => exact only_vparts (sub fun t ht => ht) fun ps => only_partsV _ _ fun vs => h _
  | bx x => exact only_vl (sub fun t ht => ht) fun d => only_grd (h _)
  | al zero => exact only_zeros _ _ fun ds => h _
  | ms sz bytes zero x y =>
    refine only_vl (sub fun t ht => by simp [O.rds, ht]) fun d => only_asI (fun _ n => ?_) d
    refine only_vl (x := y) (sub fun t ht => by simp [O.rds, ht]) fun d' => only_asI (fun _ c => only_grd ?_) d'
    exact h (.own nm)
  | sl x sz lo hi mx => exact only_vl (sub fun t ht => by simp [O.rds, ht]) fun d => only_slO (sub fun t ht => by simp [O.rds, ht]) (sub fun t ht => by simp [O.rds, ht]) (sub fun t ht => by simp [O.rds, ht]) h d
  | sk x sz lo hi mx => exact only_vl (sub fun t ht => by simp [O.rds, ht]) fun d => only_slO (sub fun t ht => by simp [O.rds, ht]) (sub fun t ht => by simp [O.rds, ht]) (sub fun t ht => by simp [O.rds, ht]) (only_retake h) d
  | nc x =>
    refine only_vl (sub fun t ht => ht) fun d => ?_
    unfold ncO; split <;> first | exact h _ | trivial
  | ex x i =>
    refine only_vl (sub fun t ht => ht) fun d => ?_
    unfold exT; split
    · exact only_oret h
    · trivial
  | ca v ms args => exact only_vls (sub fun t ht => ht) fun ds => only_argsO _ _ fun ds' => only_callO h _
  | cx x ms args =>
    refine only_vl (sub fun t ht => by simp [O.rds, ht]) fun d => only_vls (sub fun t ht => by rw [O.rds]; exact List.mem_append_right _ ht) fun ds => only_argsO _ _ fun ds' => ?_
    unfold cxO; split
    · exact only_callO h _
    · exact only_callO h _
    · trivial
  | mf v caps =>
    refine only_vls (sub fun t ht => ht) fun ds => ?_
    unfold mfO; split <;> exact h _
  | ci kd x => exact only_vl (sub fun t ht => ht) fun d => only_asI (fun _ _ => h _) d
  | mm mx xs =>
    refine only_vls (sub fun t ht => ht) fun ds => ?_
    unfold mmO; split
    · exact only_oret fun _ => h _
    · trivial
  | s2b x =>
    refine only_vl (sub fun t ht => ht) fun d => ?_
    unfold asS; split
    · exact h _
    · trivial
  | b2s x => exact only_vl (sub fun t ht => ht) fun d => only_elems (fun _ _ => only_oret fun _ => h _) d
  | mk => exact h _
  | mq kind zero ok x i => exact only_vl (sub fun t ht => by simp [O.rds, ht]) fun d => only_vl (sub fun t ht => by simp [O.rds, ht]) fun d' => only_asP (fun _ => only_mpO (fun _ _ _ => only_oret fun _ => h _) d) d'
  | mu kind x i v => exact only_vl (sub fun t ht => by simp [O.rds, ht]) fun d => only_vl (x := i) (sub fun t ht => by simp [O.rds, ht]) fun d' => only_asP (fun _ => only_vl (x := v) (sub fun t ht => by simp [O.rds, ht]) fun d2 => (only_toV true 300).1 _ _ fun y => only_mpO (fun _ _ _ => only_oret fun _ => only_set (h _)) d) d'
  | me kind zero x i => exact only_vl (sub fun t ht => by simp [O.rds, ht]) fun d => only_vl (x := i) (sub fun t ht => by simp [O.rds, ht]) fun d' => only_asP (fun _ => only_mpO (fun _ _ _ => only_oret fun _ => only_set (h _)) d) d'
  | mt x s v => exact only_vl (sub fun t ht => by simp [O.rds, ht]) fun d => only_vl (x := s) (sub fun t ht => by simp [O.rds, ht]) fun d' => only_asI (fun _ _ => only_vl (x := v) (sub fun t ht => by simp [O.rds, ht]) fun d2 => (only_toV true 300).1 _ _ fun y => only_mpO (fun _ _ _ => only_oret fun _ => only_set (h _)) d) d'
  | md kind x i => exact only_vl (sub fun t ht => by simp [O.rds, ht]) fun d => only_vl (x := i) (sub fun t ht => by simp [O.rds, ht]) fun d' => only_asP (fun _ => only_mpO (fun _ _ _ => only_oret fun _ => only_set (h _)) d) d'

theorem only_exO {o : AO} {k : M β} (hR : ∀ t, t ∈ AO.rds o → R t) (hW : ∀ t, o.dst = some t → W t) (h : Only R W k) : Only R W (exO o k) := by
  have put : ∀ d, Only R W (putO o.dst k d) := fun d => by
    unfold putO; split
    · rename_i t ht; exact ⟨hW t ht, h⟩
    · exact h
  have ev : Only R W (evO o.nm (putO o.dst k) o.op) := only_evO (fun t ht => hR t (by unfold AO.rds; exact List.mem_append_left _ ht)) put
  unfold exO; split
  · exact ev
  · rename_i g want hg
    refine ⟨hR g (by unfold AO.rds; rw [hg]; simp), fun d => ?_⟩
    unfold guO; split
    · exact only_iteM ev (put _)
    · exact put _
    · trivial
end
end Am
end Go.Proofs.YtfdmmnfjdifccaaGreatDoor
