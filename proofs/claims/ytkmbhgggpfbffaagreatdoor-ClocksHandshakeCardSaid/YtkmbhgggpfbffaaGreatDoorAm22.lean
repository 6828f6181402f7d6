/- Code: what the evaluator says of it is what the machine does. -/
import Derived.Test.YtkmbhgggpfbffaaGreatDoorAm21
import Derived.Test.YtkmbhgggpfbffaaGreatDoorAm3
import Derived.LoopN
set_option linter.unusedVariables false
set_option linter.unusedSimpArgs false
set_option linter.constructorNameAsVariable false
namespace Go.Proofs.YtkmbhgggpfbffaaGreatDoor
namespace Am
structure DrwOf (P:Program) (vm:FuncId->Nat) (vmode:Nat->List Nat) (fo:Fo) (nt:Nat) (ops:Array Oper) (aos:List AO):Prop where
 len:aos.length=ops.toList.length
 each:∀ i (hi:i<ops.toList.length) (hi':i<aos.length),AOof P vm vmode fo nt ops ops.toList[i] aos[i]
 slots:aLk aos 0 []=true
 edges:aLh ops.toList 0=true
 pre:∃ hint:Hint,∃ n,bFF P vm vmode fo hint nt true ops ops.toList n []=some aos
inductive Of0 (P:Program) (vm:FuncId->Nat) (vmode:Nat->List Nat) (fo:Fo) (nt:Nat):Code->C->Prop
 | bad (c:Code):Of0 P vm vmode fo nt c bOy
 | skip:Of0 P vm vmode fo nt .skip .skip
 | reg (id:Nat) (ops:Array Oper) (aos:List AO) (hl:aos.length=ops.toList.length) (h:∀ i (hi:i<ops.toList.length) (hi':i<aos.length),AOof P vm vmode fo nt ops ops.toList[i] aos[i]):Of0 P vm vmode fo nt (.region id ops false) (.reg aos)
 | drw (id:Nat) (ops:Array Oper) (aos:List AO) (h:DrwOf P vm vmode fo nt ops aos):Of0 P vm vmode fo nt (.region id ops true) (.drw aos)
 | seq (a b:Code) (x y:C) (h1:Of0 P vm vmode fo nt a x) (h2:Of0 P vm vmode fo nt b y):Of0 P vm vmode fo nt (.seq a b) (.seq x y)
 | cond (c:Operand) (c':Od) (a b:Code) (x y:C) (hc:cOd P vm none 0 c=some c') (h1:Of0 P vm vmode fo nt a x) (h2:Of0 P vm vmode fo nt b y):Of0 P vm vmode fo nt (.cond c a b) (.cond c' x y)
 | block (id:Nat) (a:Code) (x:C) (h1:Of0 P vm vmode fo nt a x):Of0 P vm vmode fo nt (.block id a) (.block id x)
 | loop (keep:List Nat) (a:Code) (x:C) (hk:∀ t,t∈keep->t<100000) (h1:Of0 P vm vmode fo nt a x):Of0 P vm vmode fo nt (.loop a) (.loop keep x)
 | exit (keep:List Nat) (id:Nat) (hk:∀ t,t∈keep->t<100000):Of0 P vm vmode fo nt (.exit id) (.exit keep id)
 | ret (keep:List Nat) (hk:∀ t,t∈keep->t<100000):Of0 P vm vmode fo nt .ret (.ret keep)
inductive Of (P:Program) (vm:FuncId->Nat) (vmode:Nat->List Nat) (fo:Fo) (nt:Nat):Code->C->Prop
 | bad (c:Code):Of P vm vmode fo nt c bOy
 | skip:Of P vm vmode fo nt .skip .skip
 | reg (id:Nat) (ops:Array Oper) (aos:List AO) (hl:aos.length=ops.toList.length) (h:∀ i (hi:i<ops.toList.length) (hi':i<aos.length),AOof P vm vmode fo nt ops ops.toList[i] aos[i]):Of P vm vmode fo nt (.region id ops false) (.reg aos)
 | drw (id:Nat) (ops:Array Oper) (aos:List AO) (h:DrwOf P vm vmode fo nt ops aos):Of P vm vmode fo nt (.region id ops true) (.drw aos)
 | seq (a b:Code) (x y:C) (h1:Of P vm vmode fo nt a x) (h2:Of P vm vmode fo nt b y):Of P vm vmode fo nt (.seq a b) (.seq x y)
 | cond (c:Operand) (c':Od) (a b:Code) (x y:C) (hc:cOd P vm none 0 c=some c') (h1:Of P vm vmode fo nt a x) (h2:Of P vm vmode fo nt b y):Of P vm vmode fo nt (.cond c a b) (.cond c' x y)
 | block (id:Nat) (a:Code) (x:C) (h1:Of P vm vmode fo nt a x):Of P vm vmode fo nt (.block id a) (.block id x)
 | loop (keep:List Nat) (a:Code) (x:C) (hk:∀ t,t∈keep->t<100000) (h1:Of P vm vmode fo nt a x):Of P vm vmode fo nt (.loop a) (.loop keep x)
 | exit (keep:List Nat) (id:Nat) (hk:∀ t,t∈keep->t<100000):Of P vm vmode fo nt (.exit id) (.exit keep id)
 | ret (keep:List Nat) (hk:∀ t,t∈keep->t<100000):Of P vm vmode fo nt .ret (.ret keep)
 | join (keep keep':List Nat) (id:Nat) (a:Code) (x:C) (hk:∀ t,t∈keep->t<100000) (hk':∀ t,t∈keep'->t<100000) (hf:aQr id x=true) (h1:Of P vm vmode fo nt a x):Of P vm vmode fo nt a (.block id (.loop keep (.seq x (.exit keep' id))))
theorem aYO {P:Program}{vm:FuncId->Nat}{vmode:Nat->List Nat}{fo:Fo}{hint:Hint}{nt:Nat}:∀ (code:Code) (n:Nat) (x:C×Nat),aOI P vm vmode fo hint nt code n=some x->Of0 P vm vmode fo nt code x.1:=by
 intro code
 induction code with
 | skip=>intro n x hc;injection hc with hc;subst hc;exact .skip
 | region id ops draw=>
  intro n x hc
  obtain⟨l,h1,hc⟩:=Option.bind_eq_some_iff.1 hc
  obtain⟨q1,q2⟩:=aOF _ _ _ _ h1
  cases draw with
  | false=>injection hc with hc;subst hc;exact .reg id ops l q1 q2
  | true=>
   simp only[if_true]at hc
   split at hc
   ·rename_i hs
    injection hc with hc;subst hc
    rw[Bool.and_eq_true]at hs
    exact .drw id ops l ⟨q1,q2,hs.1,hs.2,hint,n,h1⟩
   ·cases hc
 | seq a b iha ihb=>
  intro n x hc
  obtain⟨y,h1,hc⟩:=Option.bind_eq_some_iff.1 hc
  obtain⟨z,h2,rfl⟩:=Option.map_eq_some_iff.1 hc
  exact .seq _ _ _ _ (iha _ _ h1) (ihb _ _ h2)
 | cond c a b iha ihb=>
  intro n x hc
  obtain⟨c',h0,hc⟩:=Option.bind_eq_some_iff.1 hc
  obtain⟨y,h1,hc⟩:=Option.bind_eq_some_iff.1 hc
  obtain⟨z,h2,rfl⟩:=Option.map_eq_some_iff.1 hc
  exact .cond _ _ _ _ _ _ h0 (iha _ _ h1) (ihb _ _ h2)
 | block id a iha=>
  intro n x hc
  obtain⟨y,h1,rfl⟩:=Option.map_eq_some_iff.1 hc
  exact .block _ _ _ (iha _ _ h1)
 | loop a iha=>
  intro n x hc
  obtain⟨y,h1,rfl⟩:=Option.map_eq_some_iff.1 hc
  exact .loop _ _ _ (fun t ht=>by cases ht) (iha _ _ h1)
 | exit id=>intro n x hc;injection hc with hc;subst hc;exact .exit _ _ (fun t ht=>by cases ht)
 | ret=>intro n x hc;injection hc with hc;subst hc;exact .ret _ (fun t ht=>by cases ht)
 | _=>intros;rename_i hc;injection hc with hc;subst hc;exact .bad _
theorem aMF {n m t:Nat}(h:t∈aH6 n m):t<n:=List.mem_range.1 (List.mem_filter.1 h).1
theorem aYj {P:Program}{vm:FuncId->Nat}{vmode:Nat->List Nat}{fo:Fo}{nt:Nat}(h5:nt<=100000){code:Code}{c:C}(ho:Of P vm vmode fo nt code c)(j:Bool)(p lb l:Nat):Of P vm vmode fo nt code (bFK nt j p lb l c):=by
 have hb:∀ m t,t∈aH6 nt m->t<100000:=fun m t ht=>Nat.lt_of_lt_of_le (aMF ht) h5
 unfold bFK
 split
 ·rename_i h
  rw[Bool.and_eq_true]at h
  exact .join _ _ _ _ _ (hb _) (hb _) h.2 ho
 ·exact ho
theorem aXI {P:Program}{vm:FuncId->Nat}{vmode:Nat->List Nat}{fo:Fo}{nt:Nat}(h5:nt<=100000){J:List Nat}{code:Code}{c:C}(ho:Of0 P vm vmode fo nt code c):∀ (p l:Nat) (x:Nat->Nat) (r:Nat),Of P vm vmode fo nt code (keeps nt J c p l x r):=by
 have hb:∀ m t,t∈aH6 nt m->t<100000:=fun m t ht=>Nat.lt_of_lt_of_le (aMF ht) h5
 induction ho with
 | bad c=>intro p l x r;exact .bad c
 | skip=>intro p l x r;exact .skip
 | reg id ops aos hl h=>intro p l x r;exact .reg id ops aos hl h
 | drw id ops aos h=>intro p l x r;exact .drw id ops aos h
 | seq a b y z h1 h2 i1 i2=>intro p l x r;exact .seq _ _ _ _ (i1 _ _ _ _) (aYj h5 (i2 _ _ _ _) _ _ _ _)
 | cond c c' a b y z hc h1 h2 i1 i2=>intro p l x r;exact .cond _ _ _ _ _ _ hc (i1 _ _ _ _) (i2 _ _ _ _)
 | block id a y h1 i1=>intro p l x r;exact .block _ _ _ (i1 _ _ _ _)
 | loop keep a y hk h1 i1=>intro p l x r;exact .loop _ _ _ (hb _) (i1 _ _ _ _)
 | exit keep id hk=>intro p l x r;exact .exit _ _ (hb _)
 | ret keep hk=>intro p l x r;exact .ret _ (hb _)
theorem aII {F:Cf}{id:Nat}:∀ (c:C) (n:Nat) (s:St) (id':Nat) (s':St),aQr id c=true->evC F n c s=some (.ex id',s')->id'≠id
 | .skip,n,s,id',s',_,h=>by simp[evC]at h
 | .reg ops,n,s,id',s',_,h=>by
  simp only[evC]at h
  obtain⟨_,_,h⟩:=Option.bind_eq_some_iff.1 h
  simp[bGp]at h
 | .drw ops,n,s,id',s',_,h=>by
  simp only[evC]at h
  obtain⟨_,_,h⟩:=Option.bind_eq_some_iff.1 h
  simp[bLb]at h
 | .seq a b,n,s,id',s',hn,h=>by
  simp only[aQr,Bool.and_eq_true]at hn
  simp only[evC]at h
  obtain⟨⟨e,s1⟩,h1,h⟩:=Option.bind_eq_some_iff.1 h
  cases e with
  | nrm=>exact aII b n s1 id' s' hn.2 h
  | ex i=>
   simp only[aKq,Option.some.injEq,Prod.mk.injEq,Ex.ex.injEq]at h
   obtain⟨rfl,rfl⟩:=h
   exact aII a n s _ _ hn.1 h1
  | ret=>simp[aKq]at h
 | .cond x a b,n,s,id',s',hn,h=>by
  simp only[aQr,Bool.and_eq_true]at hn
  simp only[evC]at h
  obtain⟨⟨d,s1⟩,h1,h⟩:=Option.bind_eq_some_iff.1 h
  unfold aXH at h
  split at h
  ·split at h
   ·exact aII a n s id' s' hn.1 h
   ·exact aII b n s id' s' hn.2 h
  ·cases h
 | .block i c,n,s,id',s',hn,h=>by
  simp only[aQr]at hn
  simp only[evC]at h
  obtain⟨⟨e,s1⟩,h1,h⟩:=Option.bind_eq_some_iff.1 h
  cases e with
  | nrm=>simp[aRW]at h
  | ex i'=>
   simp only[aRW]at h
   split at h
   ·simp at h
   ·simp only[Option.some.injEq,Prod.mk.injEq,Ex.ex.injEq]at h
    obtain⟨rfl,rfl⟩:=h
    exact aII c n s _ _ hn h1
  | ret=>simp[aRW]at h
 | .loop keep c,n,s,id',s',hn,h=>by
  simp only[aQr]at hn
  simp only[evC]at h
  obtain⟨s0,_,h⟩:=Option.bind_eq_some_iff.1 h
  have key:∀ (m:Nat) (s0:St),evC.go keep (fun s=>evC F n c s) m s0=some (.ex id',s')->id'≠id:=by
   intro m
   induction m with
   | zero=>intro s0 h;cases h
   | succ m ih=>
    intro s0 h
    obtain⟨⟨e,s1⟩,h1,h⟩:=Option.bind_eq_some_iff.1 h
    cases e with
    | nrm=>
     simp only[aKq]at h
     obtain⟨s2,_,h⟩:=Option.bind_eq_some_iff.1 h
     exact ih s2 h
    | ex i=>
     simp only[aKq,Option.some.injEq,Prod.mk.injEq,Ex.ex.injEq]at h
     obtain⟨rfl,rfl⟩:=h
     exact aII c n s0 _ _ hn h1
    | ret=>simp[aKq]at h
  exact key n s0 h
 | .exit keep i,n,s,id',s',hn,h=>by
  simp only[aQr,bne_iff_ne]at hn
  simp only[evC]at h
  obtain⟨s0,_,h⟩:=Option.bind_eq_some_iff.1 h
  simp only[exK,Option.some.injEq,Prod.mk.injEq,Ex.ex.injEq]at h
  obtain⟨rfl,rfl⟩:=h
  exact hn
 | .ret keep,n,s,id',s',hn,h=>by
  simp only[evC]at h
  obtain⟨s0,_,h⟩:=Option.bind_eq_some_iff.1 h
  simp[exK]at h
def aTc:Ex->Exit
 | .nrm=>.normal
 | .ex id=>.exit id
 | .ret=>.ret
section
variable {P:Program} {fo:Fo} {vm:FuncId->Nat} {vmode:Nat->List Nat} {w:World} {a:Act} {av:List Value} {F:Cf} {w0:World} {Own0 Im0:Nat->Prop} {nt:Nat}
def aKM (P:Program)(vm:FuncId->Nat)(vmode:Nat->List Nat)(fo:Fo)(F:Cf):Prop:=
 ∀ (w0:World) (Own0 Im0:Nat->Prop) (args:List D) (φ0:Lay) (av:List Value) (nt:Nat) (id:Nat) (ops:Array Oper) (aos:List AO) (s s':St),nt<=100000->DrwOf P vm vmode fo nt ops aos->aJj F 0 aos [] s=some s' ->
  ∀ (a:Act) (w:World),Inv fo w0 Own0 Im0 args φ0 av nt s a w->∀ Q:Exit->Act->World->Prop,(∀ a w,Inv fo w0 Own0 Im0 args φ0 av nt s' a w->Q .normal a w)->(Code.region id ops true).wp P Q a w
theorem aTE (hF:aD0 P fo F)(hfo:∀ f,fo (vm f)=some f)(hD:aKM P vm vmode fo F)(h5:nt<=100000){args:List D}{φ0:Lay}
  {code:Code} {c:C} (ho:Of P vm vmode fo nt code c):∀ (n:Nat) (s:St) (ex:Ex) (s':St),evC F n c s=some (ex,s') ->
  ∀ (a:Act) (w:World),Inv fo w0 Own0 Im0 args φ0 av nt s a w->∀ Q:Exit->Act->World->Prop,(∀ a w,Inv fo w0 Own0 Im0 args φ0 av nt s' a w->Q (aTc ex) a w)->code.wp P Q a w:=by
 induction ho with
 | bad c=>
  intro n s ex s' hr a w hi Q hQ
  exact absurd hr (by show (none:Option (Unit×St)).bind bGp≠_;intro h;cases h)
 | skip=>
  intro n s ex s' hr a w hi Q hQ
  simp only[evC,Option.some.injEq,Prod.mk.injEq]at hr
  obtain⟨rfl,rfl⟩:=hr
  exact wp_skip (hQ a w hi)
 | reg id ops aos hl hao=>
  intro n s ex s' hr a w hi Q hQ
  simp only[evC]at hr
  obtain⟨⟨u,s1⟩,h1,hr⟩:=Option.bind_eq_some_iff.1 hr
  simp only[bGp,Option.some.injEq,Prod.mk.injEq]at hr
  obtain⟨rfl,rfl⟩:=hr
  exact wp_region_list (aMg hF hfo h5 hQ ops.toList aos s a w hl hao hi h1)
 | drw id ops aos hd=>
  intro n s ex s' hr a w hi Q hQ
  simp only[evC]at hr
  obtain⟨s1,h1,hr⟩:=Option.bind_eq_some_iff.1 hr
  simp only[bLb,Option.some.injEq,Prod.mk.injEq]at hr
  obtain⟨rfl,rfl⟩:=hr
  exact hD w0 Own0 Im0 args φ0 av nt id ops aos s s1 h5 hd h1 a w hi Q hQ
 | seq x y cx cy h1 h2 i1 i2=>
  intro n s ex s' hr a w hi Q hQ
  simp only[evC]at hr
  obtain⟨⟨ex1,s1⟩,g1,hr⟩:=Option.bind_eq_some_iff.1 hr
  refine wp_seq (i1 n s ex1 s1 g1 a w hi _ fun a1 w1 hi1=>?_)
  cases ex1 with
  | nrm=>exact i2 n s1 ex s' hr a1 w1 hi1 Q hQ
  | ex id=>
   simp only[aKq,Option.some.injEq,Prod.mk.injEq]at hr
   obtain⟨rfl,rfl⟩:=hr
   exact hQ a1 w1 hi1
  | ret=>
   simp only[aKq,Option.some.injEq,Prod.mk.injEq]at hr
   obtain⟨rfl,rfl⟩:=hr
   exact hQ a1 w1 hi1
 | cond c c' x y cx cy hc h1 h2 i1 i2=>
  intro n s ex s' hr a w hi Q hQ
  simp only[evC]at hr
  obtain⟨⟨d,s1⟩,g1,hr⟩:=Option.bind_eq_some_iff.1 hr
  have hi0:=hi
  obtain⟨φ,Im,hfr,he,hd0,hsz,hh⟩:=hi0
  obtain⟨d',φ',h',g2,s2,r2⟩:=aAH hfo hfr.hs he hc g1
  injection g2 with g2
  injection g2 with g2 _
  subst g2
  unfold aXH at hr
  split at hr
  ·rename_i t _ heq
   injection heq with heq _
   subst heq
   have hb:=r2.p_inv.b_inv
   cases t with
   | true=>exact wp_cond_true hb (i1 n s ex s' (by simpa using hr) a w hi Q hQ)
   | false=>exact wp_cond_false hb (i2 n s ex s' (by simpa using hr) a w hi Q hQ)
  ·cases hr
 | block id x cx h1 i1=>
  intro n s ex s' hr a w hi Q hQ
  simp only[evC]at hr
  obtain⟨⟨ex1,s1⟩,g1,hr⟩:=Option.bind_eq_some_iff.1 hr
  refine wp_block (i1 n s ex1 s1 g1 a w hi _ fun a1 w1 hi1=>?_)
  cases ex1 with
  | nrm=>
   simp only[aRW,Option.some.injEq,Prod.mk.injEq]at hr
   obtain⟨rfl,rfl⟩:=hr
   exact hQ a1 w1 hi1
  | ex id'=>
   simp only[aRW]at hr
   show if id'=id then Q .normal a1 w1 else Q (.exit id') a1 w1
   split at hr
   ·rename_i he
    simp only[Option.some.injEq,Prod.mk.injEq]at hr
    obtain⟨rfl,rfl⟩:=hr
    rw[if_pos he]
    exact hQ a1 w1 hi1
   ·rename_i he
    simp only[Option.some.injEq,Prod.mk.injEq]at hr
    obtain⟨rfl,rfl⟩:=hr
    rw[if_neg he]
    exact hQ a1 w1 hi1
  | ret=>
   simp only[aRW,Option.some.injEq,Prod.mk.injEq]at hr
   obtain⟨rfl,rfl⟩:=hr
   exact hQ a1 w1 hi1
 | loop keep x cx hk h1 i1=>
  intro n s ex s' hr a w hi Q hQ
  simp only[evC]at hr
  obtain⟨s0,g0,hr⟩:=Option.bind_eq_some_iff.1 hr
  have hkeep:∀ s s0 a w,aHy keep s=some s0->Inv fo w0 Own0 Im0 args φ0 av nt s a w->Inv fo w0 Own0 Im0 args φ0 av nt s0 a w:=fun s s0 a w g hi=>aGg hk g hi
  have key:∀ (m:Nat) (s0:St),evC.go keep (fun s=>evC F n cx s) m s0=some (ex,s')->∀ a w,Inv fo w0 Own0 Im0 args φ0 av nt s0 a w->Code.rounds P x Q m a w:=by
   intro m
   induction m with
   | zero=>intro s0 hr;cases hr
   | succ m ih=>
    intro s0 hr a w hi
    obtain⟨⟨ex1,s1⟩,g1,hr⟩:=Option.bind_eq_some_iff.1 hr
    refine i1 n s0 ex1 s1 g1 a w hi _ fun a1 w1 hi1=>?_
    cases ex1 with
    | nrm=>
     simp only[aKq]at hr
     obtain⟨s2,g2,hr⟩:=Option.bind_eq_some_iff.1 hr
     exact ih s2 hr a1 w1 (hkeep _ _ _ _ g2 hi1)
    | ex id=>
     simp only[aKq,Option.some.injEq,Prod.mk.injEq]at hr
     obtain⟨rfl,rfl⟩:=hr
     exact hQ a1 w1 hi1
    | ret=>
     simp only[aKq,Option.some.injEq,Prod.mk.injEq]at hr
     obtain⟨rfl,rfl⟩:=hr
     exact hQ a1 w1 hi1
  exact wp_loop_rounds n (key n s0 hr a w (hkeep _ _ _ _ g0 hi))
 | exit keep id hk=>
  intro n s ex s' hr a w hi Q hQ
  simp only[evC]at hr
  obtain⟨s0,g0,hr⟩:=Option.bind_eq_some_iff.1 hr
  simp only[exK,Option.some.injEq,Prod.mk.injEq]at hr
  obtain⟨rfl,rfl⟩:=hr
  exact wp_exit (hQ a w (aGg hk g0 hi))
 | ret keep hk=>
  intro n s ex s' hr a w hi Q hQ
  simp only[evC]at hr
  obtain⟨s0,g0,hr⟩:=Option.bind_eq_some_iff.1 hr
  simp only[exK,Option.some.injEq,Prod.mk.injEq]at hr
  obtain⟨rfl,rfl⟩:=hr
  exact wp_ret (hQ a w (aGg hk g0 hi))
 | join keep keep' id x cx hk hk' hf h1 i1=>
  intro n s ex s' hr a w hi Q hQ
  simp only[evC]at hr
  obtain⟨⟨ex2,s2⟩,hr2,hb⟩:=Option.bind_eq_some_iff.1 hr
  obtain⟨s0,g0,hgo⟩:=Option.bind_eq_some_iff.1 hr2
  have hi0:=aGg hk g0 hi
  cases n with
  | zero=>cases hgo
  | succ m=>
   obtain⟨⟨ex3,s3⟩,hr3,hgo⟩:=Option.bind_eq_some_iff.1 hgo
   obtain⟨⟨ex1,s1⟩,g1,hr3⟩:=Option.bind_eq_some_iff.1 hr3
   refine i1 (m+1) s0 ex1 s1 g1 a w hi0 Q fun a1 w1 hi1=>?_
   cases ex1 with
   | nrm=>
    simp only[aKq]at hr3
    obtain⟨s4,g4,hr3⟩:=Option.bind_eq_some_iff.1 hr3
    simp only[exK,Option.some.injEq,Prod.mk.injEq]at hr3
    obtain⟨rfl,rfl⟩:=hr3
    simp only[aKq,Option.some.injEq,Prod.mk.injEq]at hgo
    obtain⟨rfl,rfl⟩:=hgo
    simp only[aRW,if_true,Option.some.injEq,Prod.mk.injEq]at hb
    obtain⟨rfl,rfl⟩:=hb
    exact hQ a1 w1 (aGg hk' g4 hi1)
   | ex id'=>
    have hne:=aII cx _ _ _ _ hf g1
    simp only[aKq,Option.some.injEq,Prod.mk.injEq]at hr3
    obtain⟨rfl,rfl⟩:=hr3
    simp only[aKq,Option.some.injEq,Prod.mk.injEq]at hgo
    obtain⟨rfl,rfl⟩:=hgo
    simp only[aRW,if_neg hne,Option.some.injEq,Prod.mk.injEq]at hb
    obtain⟨rfl,rfl⟩:=hb
    exact hQ a1 w1 hi1
   | ret=>
    simp only[aKq,Option.some.injEq,Prod.mk.injEq]at hr3
    obtain⟨rfl,rfl⟩:=hr3
    simp only[aKq,Option.some.injEq,Prod.mk.injEq]at hgo
    obtain⟨rfl,rfl⟩:=hgo
    simp only[aRW,Option.some.injEq,Prod.mk.injEq]at hb
    obtain⟨rfl,rfl⟩:=hb
    exact hQ a1 w1 hi1
end
end Am
end Go.Proofs.YtkmbhgggpfbffaaGreatDoor
