/- The evaluator without a bound: what it comes to with enough rounds, and the equations by which it is reckoned. -/
import Derived.Test.YtkmbhgggpfbffaaGreatDoorAm1
set_option linter.unusedVariables false
set_option linter.unusedSimpArgs false
set_option linter.constructorNameAsVariable false
namespace Go.Proofs.YtkmbhgggpfbffaaGreatDoor
namespace Am
def Cf.Le (F G:Cf):Prop:=∀ v ds h r,F v ds h=some r->G v ds h=some r
theorem M.run_mono {α:Type}{F G:Cf}(hle:F.Le G):∀ (m:M α) (s:St) (r:α×St),m.run F s=some r->m.run G s=some r:=by
 intro m
 induction m with
 | ret a=>intro s r h;exact h
 | fail=>intro s r h;exact h
 | rd t k ih=>intro s r h;simp only[M.run,Option.bind_eq_some_iff]at h ⊢;obtain⟨d,h1,h2⟩:=h;exact⟨d,h1,ih _ _ _ h2⟩
 | wr t d k ih=>intro s r h;exact ih _ _ h
 | get key k ih=>intro s r h;simp only[M.run,Option.bind_eq_some_iff]at h ⊢;obtain⟨d,h1,h2⟩:=h;exact⟨d,h1,ih _ _ _ h2⟩
 | set key o k ih=>intro s r h;simp only[M.run,Option.bind_eq_some_iff]at h ⊢;obtain⟨d,h1,h2⟩:=h;exact⟨d,h1,ih _ _ h2⟩
 | cget key off k ih=>intro s r h;simp only[M.run,Option.bind_eq_some_iff]at h ⊢;obtain⟨o,h1,d,h2,h3⟩:=h;exact⟨o,h1,d,h2,ih _ _ _ h3⟩
 | cset key off d k ih=>intro s r h;simp only[M.run,Option.bind_eq_some_iff]at h ⊢;obtain⟨o,h1,d,h2,h3⟩:=h;exact⟨o,h1,d,h2,ih _ _ h3⟩
 | new key o k ih=>
  intro s r h;simp only[M.run]at h ⊢
  cases hk:lk s.heap key with
  | none=>rw[hk]at h;exact ih _ _ h
  | some o'=>rw[hk]at h;cases h
 | call v ds h k ih=>intro s r hh;simp only[M.run,Option.bind_eq_some_iff]at hh ⊢;obtain⟨x,h1,h2⟩:=hh;exact⟨x,hle _ _ _ _ h1,ih _ _ _ _ _ h2⟩
theorem M.runA_mono {α:Type}{F G:Cf}(hle:F.Le G):∀ (m:M α) (s:St) (l:List Acc) (r:α×St×List Acc),m.runA F s l=some r->m.runA G s l=some r:=by
 intro m
 induction m with
 | ret a=>intro s l r h;exact h
 | fail=>intro s l r h;exact h
 | rd t k ih=>intro s l r h;simp only[M.runA,Option.bind_eq_some_iff]at h ⊢;obtain⟨d,h1,h2⟩:=h;exact⟨d,h1,ih _ _ _ _ h2⟩
 | wr t d k ih=>intro s l r h;exact ih _ _ _ h
 | get key k ih=>intro s l r h;simp only[M.runA,Option.bind_eq_some_iff]at h ⊢;obtain⟨d,h1,h2⟩:=h;exact⟨d,h1,ih _ _ _ _ h2⟩
 | set key o k ih=>intro s l r h;simp only[M.runA,Option.bind_eq_some_iff]at h ⊢;obtain⟨d,h1,h2⟩:=h;exact⟨d,h1,ih _ _ _ h2⟩
 | cget key off k ih=>intro s l r h;simp only[M.runA,Option.bind_eq_some_iff]at h ⊢;obtain⟨o,h1,d,h2,h3⟩:=h;exact⟨o,h1,d,h2,ih _ _ _ _ h3⟩
 | cset key off d k ih=>intro s l r h;simp only[M.runA,Option.bind_eq_some_iff]at h ⊢;obtain⟨o,h1,d,h2,h3⟩:=h;exact⟨o,h1,d,h2,ih _ _ _ h3⟩
 | new key o k ih=>
  intro s l r h;simp only[M.runA]at h ⊢
  cases hk:lk s.heap key with
  | none=>rw[hk]at h;exact ih _ _ _ h
  | some o'=>rw[hk]at h;cases h
 | call v ds h k ih=>intro s l r hh;simp only[M.runA,Option.bind_eq_some_iff]at hh ⊢;obtain⟨x,h1,h2⟩:=hh;exact⟨x,hle _ _ _ _ h1,ih _ _ _ _ _ _ h2⟩
structure Grows (f:Nat->Cf) (F:Cf):Prop where
 up:∀ n m,n<=m->(f n).Le (f m)
 some_:∀ v ds h r,F v ds h=some r->∃ n,f n v ds h=some r
theorem M.run_cont {α:Type}{f:Nat->Cf}{F:Cf}(hg:Grows f F):∀ (m:M α) (s:St) (r:α×St),m.run F s=some r->∃ n,m.run (f n) s=some r:=by
 intro m
 induction m with
 | ret a=>intro s r h;exact⟨0,h⟩
 | fail=>intro s r h;cases h
 | rd t k ih=>intro s r h;simp only[M.run,Option.bind_eq_some_iff]at h ⊢;obtain⟨d,h1,h2⟩:=h;obtain⟨n,hn⟩:=ih _ _ _ h2;exact⟨n,d,h1,hn⟩
 | wr t d k ih=>intro s r h;exact ih _ _ h
 | get key k ih=>intro s r h;simp only[M.run,Option.bind_eq_some_iff]at h ⊢;obtain⟨d,h1,h2⟩:=h;obtain⟨n,hn⟩:=ih _ _ _ h2;exact⟨n,d,h1,hn⟩
 | set key o k ih=>intro s r h;simp only[M.run,Option.bind_eq_some_iff]at h ⊢;obtain⟨d,h1,h2⟩:=h;obtain⟨n,hn⟩:=ih _ _ h2;exact⟨n,d,h1,hn⟩
 | cget key off k ih=>intro s r h;simp only[M.run,Option.bind_eq_some_iff]at h ⊢;obtain⟨o,h1,d,h2,h3⟩:=h;obtain⟨n,hn⟩:=ih _ _ _ h3;exact⟨n,o,h1,d,h2,hn⟩
 | cset key off d k ih=>intro s r h;simp only[M.run,Option.bind_eq_some_iff]at h ⊢;obtain⟨o,h1,d,h2,h3⟩:=h;obtain⟨n,hn⟩:=ih _ _ h3;exact⟨n,o,h1,d,h2,hn⟩
 | new key o k ih=>
  intro s r h;simp only[M.run]at h ⊢
  cases hk:lk s.heap key with
  | none=>rw[hk]at h;exact ih _ _ h
  | some o'=>rw[hk]at h;cases h
 | call v ds h k ih=>
  intro s r hh;simp only[M.run,Option.bind_eq_some_iff]at hh ⊢
  obtain⟨x,h1,h2⟩:=hh
  obtain⟨n1,hn1⟩:=hg.some_ _ _ _ _ h1
  obtain⟨n2,hn2⟩:=ih _ _ _ _ _ h2
  exact⟨max n1 n2,x,hg.up _ _ (Nat.le_max_left _ _) _ _ _ _ hn1,M.run_mono (hg.up _ _ (Nat.le_max_right _ _)) _ _ _ hn2⟩
theorem M.runA_cont {α:Type}{f:Nat->Cf}{F:Cf}(hg:Grows f F):∀ (m:M α) (s:St) (l:List Acc) (r:α×St×List Acc),m.runA F s l=some r->∃ n,m.runA (f n) s l=some r:=by
 intro m
 induction m with
 | ret a=>intro s l r h;exact⟨0,h⟩
 | fail=>intro s l r h;cases h
 | rd t k ih=>intro s l r h;simp only[M.runA,Option.bind_eq_some_iff]at h ⊢;obtain⟨d,h1,h2⟩:=h;obtain⟨n,hn⟩:=ih _ _ _ _ h2;exact⟨n,d,h1,hn⟩
 | wr t d k ih=>intro s l r h;exact ih _ _ _ h
 | get key k ih=>intro s l r h;simp only[M.runA,Option.bind_eq_some_iff]at h ⊢;obtain⟨d,h1,h2⟩:=h;obtain⟨n,hn⟩:=ih _ _ _ _ h2;exact⟨n,d,h1,hn⟩
 | set key o k ih=>intro s l r h;simp only[M.runA,Option.bind_eq_some_iff]at h ⊢;obtain⟨d,h1,h2⟩:=h;obtain⟨n,hn⟩:=ih _ _ _ h2;exact⟨n,d,h1,hn⟩
 | cget key off k ih=>intro s l r h;simp only[M.runA,Option.bind_eq_some_iff]at h ⊢;obtain⟨o,h1,d,h2,h3⟩:=h;obtain⟨n,hn⟩:=ih _ _ _ _ h3;exact⟨n,o,h1,d,h2,hn⟩
 | cset key off d k ih=>intro s l r h;simp only[M.runA,Option.bind_eq_some_iff]at h ⊢;obtain⟨o,h1,d,h2,h3⟩:=h;obtain⟨n,hn⟩:=ih _ _ _ h3;exact⟨n,o,h1,d,h2,hn⟩
 | new key o k ih=>
  intro s l r h;simp only[M.runA]at h ⊢
  cases hk:lk s.heap key with
  | none=>rw[hk]at h;exact ih _ _ _ h
  | some o'=>rw[hk]at h;cases h
 | call v ds h k ih=>
  intro s l r hh;simp only[M.runA,Option.bind_eq_some_iff]at hh ⊢
  obtain⟨x,h1,h2⟩:=hh
  obtain⟨n1,hn1⟩:=hg.some_ _ _ _ _ h1
  obtain⟨n2,hn2⟩:=ih _ _ _ _ _ _ h2
  exact⟨max n1 n2,x,hg.up _ _ (Nat.le_max_left _ _) _ _ _ _ hn1,M.runA_mono (hg.up _ _ (Nat.le_max_right _ _)) _ _ _ _ hn2⟩
theorem aJ3 {F G:Cf}(hle:F.Le G):∀ (ops:List AO) (i:Nat) (done:List (Nat×List Acc)) (s r:St),aJj F i ops done s=some r->aJj G i ops done s=some r:=by
 intro ops
 induction ops with
 | nil=>intro i done s r h;exact h
 | cons o t ih=>
  intro i done s r h
  simp only[aJj,Option.bind_eq_some_iff]at h ⊢
  obtain⟨x,h1,h2⟩:=h
  refine⟨x,M.runA_mono hle _ _ _ _ h1,?_⟩
  split at h2
  ·rename_i hf;rw[if_pos hf];exact ih _ _ _ _ h2
  ·cases h2
theorem aRJ {f:Nat->Cf}{F:Cf}(hg:Grows f F):∀ (ops:List AO) (i:Nat) (done:List (Nat×List Acc)) (s r:St),aJj F i ops done s=some r->∃ n,aJj (f n) i ops done s=some r:=by
 intro ops
 induction ops with
 | nil=>intro i done s r h;exact⟨0,h⟩
 | cons o t ih=>
  intro i done s r h
  simp only[aJj,Option.bind_eq_some_iff]at h ⊢
  obtain⟨x,h1,h2⟩:=h
  split at h2
  ·rename_i hf
   obtain⟨n1,hn1⟩:=M.runA_cont hg _ _ _ _ h1
   obtain⟨n2,hn2⟩:=ih _ _ _ _ h2
   refine⟨max n1 n2,x,M.runA_mono (hg.up _ _ (Nat.le_max_left _ _)) _ _ _ _ hn1,?_⟩
   rw[if_pos hf]
   exact aJ3 (hg.up _ _ (Nat.le_max_right _ _)) _ _ _ _ _ hn2
  ·cases h2
theorem aOi {f g:St->Option (Ex×St)}(h:∀ s r,f s=some r->g s=some r):∀ x r,aKq f x=some r->aKq g x=some r:=by
 rintro ⟨e,s⟩ r hx
 cases e with
 | nrm=>exact h _ _ hx
 | ex id=>exact hx
 | ret=>exact hx
theorem aO7 {f g f' g':St->Option (Ex×St)}{s:St}(h:∀ s r,f s=some r->f' s=some r)(h':∀ s r,g s=some r->g' s=some r):∀ x r,aXH f g s x=some r->aXH f' g' s x=some r:=by
 rintro ⟨d,s1⟩ r hx
 cases d with
 | p u=>
  cases u with
  | b t=>cases t with
   | true=>exact h _ _ hx
   | false=>exact h' _ _ hx
  | _=>exact hx
 | _=>exact hx
theorem aJ2 {keep:List Nat}{b b':St->Option (Ex×St)}(hb:∀ s r,b s=some r->b' s=some r):∀ (n m:Nat),n<=m->∀ s r,evC.go keep b n s=some r->evC.go keep b' m s=some r:=by
 intro n
 induction n with
 | zero=>intro m _ s r h;cases h
 | succ n ih=>
  intro m hm s r h
  obtain⟨m,rfl⟩:∃ k,m=k+1:=⟨m-1,by omega⟩
  simp only[evC.go,Option.bind_eq_some_iff]at h ⊢
  obtain⟨x,h1,h2⟩:=h
  refine⟨x,hb _ _ h1,aOi (fun s r hs=>?_) _ _ h2⟩
  obtain⟨s',h3,h4⟩:=Option.bind_eq_some_iff.1 hs
  exact Option.bind_eq_some_iff.2 ⟨s',h3,ih _ (by omega) _ _ h4⟩
theorem aDH {F G:Cf}(hle:F.Le G):∀ (c:C) (n m:Nat),n<=m->∀ s r,evC F n c s=some r->evC G m c s=some r:=by
 intro c
 induction c with
 | skip=>intro n m hm s r h;exact h
 | reg ops=>
  intro n m hm s r h
  obtain⟨x,h1,h2⟩:=Option.bind_eq_some_iff.1 h
  exact Option.bind_eq_some_iff.2 ⟨x,M.run_mono hle _ _ _ h1,h2⟩
 | drw ops=>
  intro n m hm s r h
  obtain⟨x,h1,h2⟩:=Option.bind_eq_some_iff.1 h
  exact Option.bind_eq_some_iff.2 ⟨x,aJ3 hle _ _ _ _ _ h1,h2⟩
 | seq a b iha ihb=>
  intro n m hm s r h
  obtain⟨x,h1,h2⟩:=Option.bind_eq_some_iff.1 h
  exact Option.bind_eq_some_iff.2 ⟨x,iha _ _ hm _ _ h1,aOi (fun s r hs=>ihb _ _ hm _ _ hs) _ _ h2⟩
 | cond x a b iha ihb=>
  intro n m hm s r h
  obtain⟨x,h1,h2⟩:=Option.bind_eq_some_iff.1 h
  exact Option.bind_eq_some_iff.2 ⟨x,M.run_mono hle _ _ _ h1,aO7 (fun s r hs=>iha _ _ hm _ _ hs) (fun s r hs=>ihb _ _ hm _ _ hs) _ _ h2⟩
 | block id c ih=>
  intro n m hm s r h
  obtain⟨x,h1,h2⟩:=Option.bind_eq_some_iff.1 h
  exact Option.bind_eq_some_iff.2 ⟨x,ih _ _ hm _ _ h1,h2⟩
 | loop keep c ih=>
  intro n m hm s r h
  obtain⟨s0,h1,h2⟩:=Option.bind_eq_some_iff.1 h
  exact Option.bind_eq_some_iff.2 ⟨s0,h1,aJ2 (fun s r h=>ih _ _ hm _ _ h) _ _ hm _ _ h2⟩
 | exit keep id=>intro n m hm s r h;exact h
 | ret keep=>intro n m hm s r h;exact h
theorem bGg {keep:List Nat}{b:Nat->St->Option (Ex×St)}{B:St->Option (Ex×St)}(hup:∀ n m,n<=m->∀ s r,b n s=some r->b m s=some r)(hb:∀ s r,B s=some r->∃ n,b n s=some r) :
  ∀ (n:Nat) (s:St) (r:Ex×St),evC.go keep B n s=some r->∃ m,n<=m∧evC.go keep (b m) n s=some r:=by
 intro n
 induction n with
 | zero=>intro s r h;cases h
 | succ n ih=>
  intro s r h
  obtain⟨⟨e,s1⟩,h1,h2⟩:=Option.bind_eq_some_iff.1 h
  obtain⟨m1,hm1⟩:=hb _ _ h1
  cases e with
  | nrm=>
   obtain⟨s',h3,h4⟩:=Option.bind_eq_some_iff.1 h2
   obtain⟨m2,hle,hm2⟩:=ih _ _ h4
   refine⟨max m1 (m2+1),by omega,Option.bind_eq_some_iff.2 ⟨_,hup _ _ (by omega) _ _ hm1,Option.bind_eq_some_iff.2 ⟨s',h3,?_⟩⟩⟩
   exact aJ2 (hup _ _ (by omega)) _ _ (Nat.le_refl _) _ _ hm2
  | ex id=>exact⟨max m1 (n+1),by omega,Option.bind_eq_some_iff.2 ⟨_,hup _ _ (by omega) _ _ hm1,h2⟩⟩
  | ret=>exact⟨max m1 (n+1),by omega,Option.bind_eq_some_iff.2 ⟨_,hup _ _ (by omega) _ _ hm1,h2⟩⟩
theorem aYe {f:Nat->Cf}{F:Cf}(hg:Grows f F):∀ (c:C) (n:Nat) (s:St) (r:Ex×St),evC F n c s=some r->∃ m,n<=m∧evC (f m) m c s=some r:=by
 intro c
 induction c with
 | skip=>intro n s r h;exact⟨n,Nat.le_refl _,h⟩
 | reg ops=>
  intro n s r h
  obtain⟨x,h1,h2⟩:=Option.bind_eq_some_iff.1 h
  obtain⟨m,hm⟩:=M.run_cont hg _ _ _ h1
  exact⟨max n m,Nat.le_max_left _ _,Option.bind_eq_some_iff.2 ⟨x,M.run_mono (hg.up _ _ (Nat.le_max_right _ _)) _ _ _ hm,h2⟩⟩
 | drw ops=>
  intro n s r h
  obtain⟨x,h1,h2⟩:=Option.bind_eq_some_iff.1 h
  obtain⟨m,hm⟩:=aRJ hg _ _ _ _ _ h1
  exact⟨max n m,Nat.le_max_left _ _,Option.bind_eq_some_iff.2 ⟨x,aJ3 (hg.up _ _ (Nat.le_max_right _ _)) _ _ _ _ _ hm,h2⟩⟩
 | seq a b iha ihb=>
  intro n s r h
  obtain⟨⟨e,s1⟩,h1,h2⟩:=Option.bind_eq_some_iff.1 h
  obtain⟨m1,hle1,hm1⟩:=iha _ _ _ h1
  cases e with
  | nrm=>
   obtain⟨m2,hle2,hm2⟩:=ihb _ _ _ h2
   exact⟨max m1 m2,by omega,Option.bind_eq_some_iff.2 ⟨_,aDH (hg.up _ _ (by omega)) _ _ _ (by omega) _ _ hm1,aDH (hg.up _ _ (by omega)) _ _ _ (by omega) _ _ hm2⟩⟩
  | ex id=>exact⟨m1,hle1,Option.bind_eq_some_iff.2 ⟨_,hm1,h2⟩⟩
  | ret=>exact⟨m1,hle1,Option.bind_eq_some_iff.2 ⟨_,hm1,h2⟩⟩
 | cond x a b iha ihb=>
  intro n s r h
  obtain⟨⟨d,s1⟩,h1,h2⟩:=Option.bind_eq_some_iff.1 h
  obtain⟨m0,hm0⟩:=M.run_cont hg _ _ _ h1
  cases d with
  | p u=>
   cases u with
   | b t=>cases t with
    | true=>
     obtain⟨m1,hle,hm1⟩:=iha _ _ _ h2
     exact⟨max m0 m1,by omega,Option.bind_eq_some_iff.2 ⟨_,M.run_mono (hg.up _ _ (Nat.le_max_left m0 m1)) _ _ _ hm0,aDH (hg.up _ _ (by omega)) _ _ _ (by omega) _ _ hm1⟩⟩
    | false=>
     obtain⟨m1,hle,hm1⟩:=ihb _ _ _ h2
     exact⟨max m0 m1,by omega,Option.bind_eq_some_iff.2 ⟨_,M.run_mono (hg.up _ _ (Nat.le_max_left m0 m1)) _ _ _ hm0,aDH (hg.up _ _ (by omega)) _ _ _ (by omega) _ _ hm1⟩⟩
   | _=>cases h2
  | _=>cases h2
 | block id c ih=>
  intro n s r h
  obtain⟨x,h1,h2⟩:=Option.bind_eq_some_iff.1 h
  obtain⟨m,hle,hm⟩:=ih _ _ _ h1
  exact⟨m,hle,Option.bind_eq_some_iff.2 ⟨x,hm,h2⟩⟩
 | loop keep c ih=>
  intro n s r h
  obtain⟨s0,h1,h2⟩:=Option.bind_eq_some_iff.1 h
  obtain⟨m,hle,hm⟩:=bGg (b:=fun m s=>evC (f m) m c s) (fun n m hnm s r h=>aDH (hg.up _ _ hnm) _ _ _ hnm _ _ h) (fun s r h=>(ih _ _ _ h).elim fun m h=>⟨m,h.2⟩) _ _ _ h2
  exact⟨m,hle,Option.bind_eq_some_iff.2 ⟨s0,h1,aJ2 (fun _ _ h=>h) _ _ hle _ _ hm⟩⟩
 | exit keep id=>intro n s r h;exact⟨n,Nat.le_refl _,h⟩
 | ret keep=>intro n s r h;exact⟨n,Nat.le_refl _,h⟩
theorem aLm {F G:Cf}(hle:F.Le G)(ver:Ver):∀ x r,aZT F ver x=some r->aZT G ver x=some r:=by
 rintro ⟨e,s⟩ r h
 cases e with
 | ex id=>cases h
 | nrm=>
  obtain⟨y,h1,h2⟩:=Option.bind_eq_some_iff.1 h
  exact Option.bind_eq_some_iff.2 ⟨y,M.run_mono hle _ _ _ h1,h2⟩
 | ret=>
  obtain⟨y,h1,h2⟩:=Option.bind_eq_some_iff.1 h
  exact Option.bind_eq_some_iff.2 ⟨y,M.run_mono hle _ _ _ h1,h2⟩
theorem aS0 {f:Nat->Cf}{F:Cf}(hg:Grows f F)(ver:Ver):∀ x r,aZT F ver x=some r->∃ n,aZT (f n) ver x=some r:=by
 rintro ⟨e,s⟩ r h
 cases e with
 | ex id=>cases h
 | nrm=>
  obtain⟨y,h1,h2⟩:=Option.bind_eq_some_iff.1 h
  obtain⟨n,hn⟩:=M.run_cont hg _ _ _ h1
  exact⟨n,Option.bind_eq_some_iff.2 ⟨y,hn,h2⟩⟩
 | ret=>
  obtain⟨y,h1,h2⟩:=Option.bind_eq_some_iff.1 h
  obtain⟨n,hn⟩:=M.run_cont hg _ _ _ h1
  exact⟨n,Option.bind_eq_some_iff.2 ⟨y,hn,h2⟩⟩
theorem aQ3 (T:Tab):∀ n m,n<=m->(evF T n).Le (evF T m):=by
 intro n
 induction n with
 | zero=>intro m _ v ds h r hh;cases hh
 | succ n ih=>
  intro m hm v ds h r hh
  obtain⟨m,rfl⟩:∃ k,m=k+1:=⟨m-1,by omega⟩
  unfold evF at hh ⊢
  cases hv:T.ver v with
  | none=>rw[hv]at hh;exact hh
  | some ver=>
   rw[hv]at hh
   unfold aXv at hh
   show aXv _ _ _ _ _=_
   unfold aXv
   simp only at hh
   split at hh
   ·rename_i hl
    rw[if_pos hl]
    obtain⟨x,h3,h4⟩:=Option.bind_eq_some_iff.1 hh
    exact Option.bind_eq_some_iff.2 ⟨x,aDH (ih m (by omega)) _ _ _ (by omega) _ _ h3,aLm (ih m (by omega)) _ _ _ h4⟩
   ·cases hh
open Classical in
noncomputable def lim {α:Type}(f:Nat->Option α):Option α:=if h:∃ r n,f n=some r then some (Classical.choose h)else none
theorem aM9 {α:Type}{f:Nat->Option α}(hup:∀ n m,n<=m->∀ r,f n=some r->f m=some r)(r:α):lim f=some r↔∃ n,f n=some r:=by
 unfold lim
 constructor
 ·intro h
  split at h
  ·rename_i hh
   obtain⟨n,hn⟩:=Classical.choose_spec hh
   injection h with h
   exact⟨n,h▸hn⟩
  ·cases h
 ·rintro ⟨n,hn⟩
  have hh:∃ r n,f n=some r:=⟨r,n,hn⟩
  rw[dif_pos hh]
  obtain⟨m,hm⟩:=Classical.choose_spec hh
  have h1:=hup _ _ (Nat.le_max_left n m) _ hn
  have h2:=hup _ _ (Nat.le_max_right n m) _ hm
  rw[h1]at h2
  exact h2.symm
noncomputable def aAo (T:Tab):Cf:=fun v ds h=>lim fun n=>evF T n v ds h
theorem runF_some {T:Tab}{v ds h r}:aAo T v ds h=some r↔∃ n,evF T n v ds h=some r:=
 aM9 (fun n m hnm r hr=>aQ3 T n m hnm _ _ _ _ hr) r
theorem bIz (T:Tab):Grows (evF T) (aAo T):=⟨aQ3 T,fun _ _ _ _ h=>runF_some.1 h⟩
theorem bAv (T:Tab)(n:Nat):(evF T n).Le (aAo T):=fun _ _ _ _ h=>runF_some.2 ⟨n,h⟩
noncomputable def aNT (F:Cf)(c:C)(s:St):Option (Ex×St):=lim fun n=>evC F n c s
theorem runC_some {F:Cf}{c:C}{s:St}{r:Ex×St}:aNT F c s=some r↔∃ n,evC F n c s=some r:=
 aM9 (fun n m hnm r hr=>aDH (fun _ _ _ _ h=>h) _ _ _ hnm _ _ hr) r
theorem aGX {α:Type}{a b:Option α}(h:∀ r,a=some r↔b=some r):a=b:=by
 cases a with
 | none=>cases b with
  | none=>rfl
  | some y=>exact ((h y).2 rfl)
 | some x=>exact ((h x).1 rfl).symm
section eqs
variable (F:Cf) (s:St)
theorem aVb:aNT F .skip s=some (.nrm,s):=runC_some.2 ⟨0,rfl⟩
theorem aVP (keep:List Nat)(id:Nat):aNT F (.exit keep id) s=(aHy keep s).bind (exK (.ex id)):=
 aGX fun r=>by rw[runC_some];exact⟨fun⟨n,h⟩=>h,fun h=>⟨0,h⟩⟩
theorem aYP (keep:List Nat):aNT F (.ret keep) s=(aHy keep s).bind (exK .ret):=
 aGX fun r=>by rw[runC_some];exact⟨fun⟨n,h⟩=>h,fun h=>⟨0,h⟩⟩
theorem aYA (ops:List AO):aNT F (.reg ops) s=((bGq ops (.ret ())).run F s).bind bGp:=
 aGX fun r=>by rw[runC_some];exact⟨fun⟨n,h⟩=>h,fun h=>⟨0,h⟩⟩
theorem aXR (ops:List AO):aNT F (.drw ops) s=(aJj F 0 ops [] s).bind bLb:=
 aGX fun r=>by rw[runC_some];exact⟨fun⟨n,h⟩=>h,fun h=>⟨0,h⟩⟩
theorem aX3 (a b:C):aNT F (.seq a b) s=(aNT F a s).bind (aKq (aNT F b)):=by
 refine aGX fun r=>?_
 rw[runC_some,Option.bind_eq_some_iff]
 constructor
 ·rintro ⟨n,h⟩
  obtain⟨⟨e,s'⟩,h1,h2⟩:=Option.bind_eq_some_iff.1 h
  refine⟨(e,s'),runC_some.2 ⟨n,h1⟩,?_⟩
  cases e with
  | nrm=>exact runC_some.2 ⟨n,h2⟩
  | ex id=>exact h2
  | ret=>exact h2
 ·rintro ⟨⟨e,s'⟩,h1,h2⟩
  obtain⟨n,hn⟩:=runC_some.1 h1
  cases e with
  | nrm=>
   obtain⟨m,hm⟩:=runC_some.1 h2
   exact⟨max n m,Option.bind_eq_some_iff.2 ⟨_,aDH (fun _ _ _ _ h=>h) _ _ _ (Nat.le_max_left _ _) _ _ hn,aDH (fun _ _ _ _ h=>h) _ _ _ (Nat.le_max_right _ _) _ _ hm⟩⟩
  | ex id=>exact⟨n,Option.bind_eq_some_iff.2 ⟨_,hn,h2⟩⟩
  | ret=>exact⟨n,Option.bind_eq_some_iff.2 ⟨_,hn,h2⟩⟩
theorem aXo (x:Od)(a b:C):aNT F (.cond x a b) s=((vl x .ret:M D).run F s).bind (aXH (aNT F a) (aNT F b) s):=by
 refine aGX fun r=>?_
 rw[runC_some,Option.bind_eq_some_iff]
 constructor
 ·rintro ⟨n,h⟩
  obtain⟨y,h1,h2⟩:=Option.bind_eq_some_iff.1 h
  exact⟨y,h1,aO7 (fun s r h=>runC_some.2 ⟨n,h⟩) (fun s r h=>runC_some.2 ⟨n,h⟩) _ _ h2⟩
 ·rintro ⟨⟨d,s1⟩,h1,h2⟩
  cases d with
  | p u=>
   cases u with
   | b t=>cases t with
    | true=>obtain⟨n,hn⟩:=runC_some.1 h2;exact⟨n,Option.bind_eq_some_iff.2 ⟨_,h1,hn⟩⟩
    | false=>obtain⟨n,hn⟩:=runC_some.1 h2;exact⟨n,Option.bind_eq_some_iff.2 ⟨_,h1,hn⟩⟩
   | _=>cases h2
  | _=>cases h2
theorem aRm (id:Nat)(c:C):aNT F (.block id c) s=(aNT F c s).bind (aRW id):=by
 refine aGX fun r=>?_
 rw[runC_some,Option.bind_eq_some_iff]
 constructor
 ·rintro ⟨n,h⟩
  obtain⟨x,h1,h2⟩:=Option.bind_eq_some_iff.1 h
  exact⟨x,runC_some.2 ⟨n,h1⟩,h2⟩
 ·rintro ⟨x,h1,h2⟩
  obtain⟨n,hn⟩:=runC_some.1 h1
  exact⟨n,Option.bind_eq_some_iff.2 ⟨x,hn,h2⟩⟩
noncomputable def aUB (keep:List Nat)(c:C)(s:St):Option (Ex×St):=lim fun n=>evC.go keep (fun s=>evC F n c s) n s
end eqs
theorem runL_some {F:Cf}{keep:List Nat}{c:C}{s:St}{r:Ex×St}:aUB F keep c s=some r↔∃ n,evC.go keep (fun s=>evC F n c s) n s=some r:=
 aM9 (f:=fun n=>evC.go keep (fun s=>evC F n c s) n s) (fun n m hnm r hr=>aJ2 (fun s r h=>aDH (fun _ _ _ _ h=>h) _ _ _ hnm _ _ h) _ _ hnm _ _ hr) r
theorem aUg (F:Cf)(s:St)(keep:List Nat)(c:C):aNT F (.loop keep c) s=(aHy keep s).bind (aUB F keep c):=by
 refine aGX fun r=>?_
 rw[runC_some,Option.bind_eq_some_iff]
 constructor
 ·rintro ⟨n,h⟩
  obtain⟨s0,h1,h2⟩:=Option.bind_eq_some_iff.1 h
  exact⟨s0,h1,runL_some.2 ⟨n,h2⟩⟩
 ·rintro ⟨s0,h1,h2⟩
  obtain⟨n,hn⟩:=runL_some.1 h2
  exact⟨n,Option.bind_eq_some_iff.2 ⟨s0,h1,hn⟩⟩
noncomputable def bFg (F:Cf)(keep:List Nat)(c:C)(s:St):Option (Ex×St):=(aHy keep s).bind (aUB F keep c)
theorem aOP (F:Cf)(s:St)(keep:List Nat)(c:C):aUB F keep c s=(aNT F c s).bind (aKq (bFg F keep c)):=by
 refine aGX fun r=>?_
 rw[runL_some,Option.bind_eq_some_iff]
 constructor
 ·rintro ⟨n,h⟩
  cases n with
  | zero=>cases h
  | succ n=>
   obtain⟨⟨e,s'⟩,h1,h2⟩:=Option.bind_eq_some_iff.1 h
   refine⟨(e,s'),runC_some.2 ⟨_,h1⟩,?_⟩
   cases e with
   | nrm=>
    obtain⟨s0,h3,h4⟩:=Option.bind_eq_some_iff.1 h2
    exact Option.bind_eq_some_iff.2 ⟨s0,h3,runL_some.2 ⟨n+1,aJ2 (fun _ _ h=>h) _ _ (Nat.le_succ n) _ _ h4⟩⟩
   | ex id=>exact h2
   | ret=>exact h2
 ·rintro ⟨⟨e,s'⟩,h1,h2⟩
  obtain⟨n,hn⟩:=runC_some.1 h1
  cases e with
  | nrm=>
   obtain⟨s0,h3,h4⟩:=Option.bind_eq_some_iff.1 h2
   obtain⟨m,hm⟩:=runL_some.1 h4
   exact⟨max n m+1,Option.bind_eq_some_iff.2 ⟨(.nrm,s'),aDH (fun _ _ _ _ h=>h) _ _ _ (by omega) _ _ hn,Option.bind_eq_some_iff.2 ⟨s0,h3,aJ2 (fun s r h=>aDH (fun _ _ _ _ h=>h) _ _ _ (by omega) _ _ h) _ _ (by omega) _ _ hm⟩⟩⟩
  | ex id=>exact⟨n+1,Option.bind_eq_some_iff.2 ⟨_,aDH (fun _ _ _ _ h=>h) _ _ _ (by omega) _ _ hn,h2⟩⟩
  | ret=>exact⟨n+1,Option.bind_eq_some_iff.2 ⟨_,aDH (fun _ _ _ _ h=>h) _ _ _ (by omega) _ _ hn,h2⟩⟩
theorem bEx {T:Tab}{v:Nat}{ver:Ver}(hv:T.ver v=some ver)(args:List D)(hl:args.length=ver.np)(h:aAR) :
  aAo T v args h=(aNT (aAo T) ver.code { env:=params 0 args (aI1 0 (args++aFi args h)),heap:=h }).bind (aZT (aAo T) ver):=by
 refine aGX fun r=>?_
 rw[runF_some,Option.bind_eq_some_iff]
 constructor
 ·rintro ⟨n,hn⟩
  cases n with
  | zero=>cases hn
  | succ n=>
   unfold evF at hn
   simp only[hv,aXv,if_pos hl,Option.bind_eq_some_iff]at hn
   obtain⟨x,h1,h2⟩:=hn
   exact⟨x,runC_some.2 ⟨n,aDH (bAv T n) _ _ _ (Nat.le_refl _) _ _ h1⟩,aLm (bAv T n) _ _ _ h2⟩
 ·rintro ⟨x,h1,h2⟩
  obtain⟨n,hn⟩:=runC_some.1 h1
  obtain⟨m,hle,hm⟩:=aYe (bIz T) _ _ _ _ hn
  obtain⟨m2,hm2⟩:=aS0 (bIz T) _ _ _ h2
  refine⟨max m m2+1,?_⟩
  unfold evF
  simp only[hv,aXv,if_pos hl,Option.bind_eq_some_iff]
  exact⟨x,aDH (aQ3 T _ _ (Nat.le_max_left _ _)) _ _ _ (Nat.le_max_left _ _) _ _ hm,aLm (aQ3 T _ _ (Nat.le_max_right _ _)) _ _ _ hm2⟩
theorem aFH {T:Tab}{v:Nat}(hv:T.ver v=none)(args:List D)(h:aAR):aAo T v args h=T.ext v args h:=by
 refine aGX fun r=>?_
 rw[runF_some]
 constructor
 ·rintro ⟨n,hn⟩
  cases n with
  | zero=>cases hn
  | succ n=>unfold evF at hn;rw[hv]at hn;exact hn
 ·intro hr
  exact⟨1,by unfold evF;rw[hv];exact hr⟩
end Am
end Go.Proofs.YtkmbhgggpfbffaaGreatDoor
