/- The typed layer: what typed values stand for. -/
import Derived.Test.YtkmbhgggpfbffaaGreatDoorAs1
set_option linter.unusedVariables false
set_option linter.unusedSimpArgs false
set_option linter.constructorNameAsVariable false
namespace Go.Proofs.YtkmbhgggpfbffaaGreatDoor
namespace Am
theorem S.encs_map:∀ l:List S,S.encs l=l.map S.enc
 | []=>rfl
 | x :: r=>by simp[S.encs,S.encs_map r]
theorem DS.encs_map:∀ l:List DS,DS.encs l=l.map DS.enc
 | []=>rfl
 | x :: r=>by simp[DS.encs,DS.encs_map r]
theorem aJh:∀ (es:List Sh) (x:aJH es),(aXc es x).map S.enc=aKa es x
 | [],_=>rfl
 | [s],x=>by
  cases s <;> simp[aXc,aKa,Sh.inj,S.enc,Sh.enc,EL.sz,EL.xs]
 | s :: t :: q,x=>by
  simp only[aXc,aKa,List.map_cons,aJh (t :: q) x.2]
  cases s <;> simp[Sh.inj,S.enc,Sh.enc,EL.sz,EL.xs]
theorem aLz (s:Sh)(x:s.den):(s.inj x).enc=s.enc x:=by
 cases s <;> simp[Sh.inj,S.enc,Sh.enc,EL.sz,EL.xs]
theorem aNK:∀ (es:List Sh) (x:aJH es),(aXc es x).length=es.length
 | [],_=>rfl
 | [s],x=>rfl
 | s :: t :: q,x=>by simp only[aXc,List.length_cons,aNK (t :: q) x.2]
theorem aYn (es:List Sh)(x:aJH es):(aKa es x).length=es.length:=by
 rw[<- aJh,List.length_map,aNK]
theorem EL.xs_len (e:EL):e.xs.length=e.len:=by cases e <;> simp[EL.xs,EL.len]
theorem EL.as_enc {es:List Sh}{e:EL}{xs:List (aJH es)}(h:e.as es=some xs):e.sz=es.length∧e.xs=xs.map (aKa es):=by
 cases e with
 | t es' ys=>
  simp only[EL.as]at h
  split at h
  ·rename_i hb
   have:=aH8 _ _ hb
   subst this
   injection h with h;subst h
   exact⟨rfl,rfl⟩
  ·cases h
 | e sz=>
  simp only[EL.as]at h
  cases hs:sz == es.length with
  | false=>rw[hs]at h;cases h
  | true=>
   rw[hs]at h;injection h with h;subst h
   exact⟨by simpa[EL.sz]using hs,rfl⟩
theorem bCL {k:IntKind}{u:S}{n:Int}(h:bOE k u=some n):u=.i k n:=by
 cases u <;> simp only[bOE,reduceCtorEq]at h
 rename_i k' m
 cases hk:decide (k'=k)with
 | false=>rw[hk]at h;cases h
 | true=>rw[hk]at h;injection h with h;subst h;rw[of_decide_eq_true hk]
theorem bET {u:S}{n:Bool}(h:bNi u=some n):u=.b n:=by
 cases u <;> simp only[bNi,reduceCtorEq,Option.some.injEq]at h
 rw[h]
theorem bCG {u:S}{n:ByteArray}(h:bM9 u=some n):u=.s n:=by
 cases u <;> simp only[bM9,reduceCtorEq,Option.some.injEq]at h
 rw[h]
theorem aGO:∀ {s:Sh} {u:S} {x:s.den},s.prj u=some x->u.enc=s.enc x
 | .i k,u,x,h=>by rw[bCL h];rfl
 | .b,u,x,h=>by rw[bET h];rfl
 | .s,u,x,h=>by rw[bCG h];rfl
 | .sl es,u,x,h=>by
  have h:bPJ es u=some x:=h
  obtain⟨e,rfl,h⟩:∃ e,u=.l e∧e.as es=some x:=by
   cases u <;> simp only[bPJ,reduceCtorEq]at h
   exact⟨_,rfl,h⟩
  have:=EL.as_enc (e:=e) h
  show V.sl e.sz e.xs=V.sl es.length (x.map (aKa es))
  rw[this.1,this.2]
theorem aNe {us:List S}{x:S×List S}(h:aYu us=some x):us=x.1 :: x.2:=by
 cases us with
 | nil=>cases h
 | cons u r=>injection h with h;subst h;rfl
theorem aPU {α:Type}{a b:α}{us:List S}(h:bLY a us=some b):us=[]∧a=b:=by
 cases us with
 | nil=>injection h with h;exact⟨rfl,h⟩
 | cons u r=>cases h
theorem aKF:∀ (es:List Sh) (us:List S) (x:aJH es),bKy es us=some x->us.map S.enc=aKa es x
 | [],us,x,h=>by rw[(aPU h).1];rfl
 | [s],us,x,h=>by
  obtain⟨y,h1,h⟩:=Option.bind_eq_some_iff.1 h
  obtain⟨a,h2,h⟩:=Option.bind_eq_some_iff.1 h
  obtain⟨h3,h4⟩:=aPU h
  rw[aNe h1,h3]
  subst h4
  show [y.1.enc]=[s.enc a]
  rw[aGO h2]
 | s :: t :: q,us,x,h=>by
  obtain⟨y,h1,h⟩:=Option.bind_eq_some_iff.1 h
  obtain⟨a,h2,h⟩:=Option.bind_eq_some_iff.1 h
  obtain⟨b,h3,h⟩:=Option.bind_eq_some_iff.1 h
  injection h with h;subst h
  rw[aNe h1]
  show y.1.enc :: y.2.map S.enc=s.enc a :: aKa (t :: q) b
  rw[aGO h2,aKF (t :: q) y.2 b h3]
mutual
theorem V.toS_enc:∀ {v:V} {u:S},v.toS=some u->u.enc=v
 | .i k n,u,h=>by injection h with h;subst h;rfl
 | .b t,u,h=>by injection h with h;subst h;rfl
 | .s x,u,h=>by injection h with h;subst h;rfl
 | .sl sz [],u,h=>by injection h with h;subst h;rfl
 | .cp cells,u,h=>by
  simp only[V.toS,Option.map_eq_some_iff]at h
  obtain⟨a,h,rfl⟩:=h
  simp only[S.enc,V.toSs_enc h]
 | .fn v caps,u,h=>by
  simp only[V.toS,Option.map_eq_some_iff]at h
  obtain⟨a,h,rfl⟩:=h
  simp only[S.enc,V.toSs_enc h]
 | .nl k,u,h=>by injection h with h;subst h;rfl
 | .sl sz (_ :: _),u,h=>by cases h
 | .ifc _ _ _,u,h=>by cases h
theorem V.toSs_enc:∀ {vs:List V} {us:List S},V.toSs vs=some us->S.encs us=vs
 | [],us,h=>by injection h with h;subst h;rfl
 | v :: r,us,h=>by
  simp only[V.toSs]at h
  obtain⟨a,h1,h⟩:=Option.bind_eq_some_iff.1 h
  obtain⟨b,h2,h⟩:=Option.bind_eq_some_iff.1 h
  injection h with h;subst h
  simp[S.encs,V.toS_enc h1,V.toSs_enc h2]
end
theorem aWS {α β:Type}(f:α->β):∀ (l:List (Nat×α)) (t:Nat),lk (l.map fun x=>(x.1,f x.2)) t=(lk l t).map f
 | [],_=>rfl
 | (k,x) :: r,t=>by
  simp only[List.map_cons,lk]
  by_cases h:k=t
  ·  simp[h]
  ·  simp[h,aWS f r t]
theorem aK5 (e:aLZ)(t:Nat):lk (aL0 e) t=(lk e t).map DS.enc:=aWS _ e t
theorem aHa (h:aBq)(t:Nat):lk (aE2 h) t=(lk h t).map ObS.enc:=aWS _ h t
theorem DS.one_enc (d:DS):d.enc.one=d.one:=by cases d <;> rfl
theorem aRn {o:ObS}{off:Nat}{d:DS}(h:aNE o off=some d):aGQ o.enc off=some d.enc:=by
 cases o with
 | box cs=>simp only[aNE]at h;simp[aGQ,ObS.enc,DS.encs_map,h]
 | fbx cs=>
  simp only[aNE,Option.map_eq_some_iff]at h
  obtain⟨a,h,rfl⟩:=h
  simp[aGQ,ObS.enc,S.encs_map,h,DS.enc]
 | arr e=>cases h
 | frz e=>cases h
 | mp ks vs c xs=>cases h
 | dead=>cases h
theorem aPB {o o':ObS}{off:Nat}{d:DS}(h:aNA o off d=some o'):aHR o.enc off d.enc=some o'.enc:=by
 cases o with
 | box cs=>
  simp only[aNA]at h
  cases hc:decide (off<cs.length)&&d.one with
  | false=>rw[hc]at h;cases h
  | true=>
   rw[hc]at h;injection h with h;subst h
   rw[Bool.and_eq_true,decide_eq_true_eq]at hc
   simp[aHR,ObS.enc,DS.encs_map,hc.1,DS.one_enc,hc.2,List.map_set]
 | fbx cs=>cases h
 | arr e=>cases h
 | frz e=>cases h
 | mp ks vs c xs=>cases h
 | dead=>cases h
mutual
theorem DS.refs_enc:∀ d:DS,d.enc.refs=d.refs
 | .p _=>rfl
 | .own _=>rfl
 | .arr _ _ _ _=>rfl
 | .ptr _ _=>rfl
 | .ep _ _ _=>rfl
 | .mp _=>rfl
 | .fn _ caps=>by simp only[DS.enc,D.refs,DS.refs,DS.refsL_enc caps]
 | .ifc _ _ xs=>by simp only[DS.enc,D.refs,DS.refs,DS.refsL_enc xs]
 | .agg xs=>by simp only[DS.enc,D.refs,DS.refs,DS.refsL_enc xs]
 | .tup xs=>by simp only[DS.enc,D.refs,DS.refs,DS.refsL_enc xs]
 | .und=>rfl
theorem DS.refsL_enc:∀ ds:List DS,D.refsL (DS.encs ds)=DS.refsL ds
 | []=>rfl
 | d :: r=>by simp only[DS.encs,D.refsL,DS.refsL,DS.refs_enc d,DS.refsL_enc r]
end
mutual
theorem DS.ren_enc (f:Nat->Nat):∀ d:DS,d.enc.ren f=(d.ren f).enc
 | .p _=>rfl
 | .own _=>rfl
 | .arr _ _ _ _=>rfl
 | .ptr _ _=>rfl
 | .ep _ _ _=>rfl
 | .mp _=>rfl
 | .fn _ caps=>by simp only[DS.enc,D.ren,DS.ren,DS.renL_enc f caps]
 | .ifc _ _ xs=>by simp only[DS.enc,D.ren,DS.ren,DS.renL_enc f xs]
 | .agg xs=>by simp only[DS.enc,D.ren,DS.ren,DS.renL_enc f xs]
 | .tup xs=>by simp only[DS.enc,D.ren,DS.ren,DS.renL_enc f xs]
 | .und=>rfl
theorem DS.renL_enc (f:Nat->Nat):∀ ds:List DS,D.renL f (DS.encs ds)=DS.encs (DS.renL f ds)
 | []=>rfl
 | d :: r=>by simp only[DS.encs,D.renL,DS.renL,DS.ren_enc f d,DS.renL_enc f r]
end
theorem ObS.refs_enc (o:ObS):o.enc.refs=o.refs:=by
 cases o <;> simp[ObS.enc,Ob.refs,ObS.refs,DS.refsL_enc]
theorem ObS.ren_enc (f:Nat->Nat)(o:ObS):o.enc.ren f=(o.ren f).enc:=by
 cases o <;> simp[ObS.enc,Ob.ren,ObS.ren,DS.renL_enc]
theorem ObS.mut_enc (o:ObS):o.enc.mut=o.mut:=by cases o <;> rfl
theorem aLP (h:aBq):∀ (n:Nat) (ks seen:List Nat),aOp (aE2 h) n ks seen=aPf h n ks seen
 | 0,_,_=>rfl
 | n+1,[],_=>rfl
 | n+1,k :: ts,seen=>by
  simp only[aOp,aPf,aLP h n]
  cases hc:seen.contains k
  ·simp only[Bool.false_eq_true,if_false,cond_false,aHa]
   cases lk h k <;> simp[ObS.refs_enc,aLP h n]
  ·simp
theorem aKc (h:aBq)(all:List Nat):∀ (ks:List Nat) (j:Nat),aIg (aE2 h) ks all j=(aH1 h ks all j).map aE2
 | [],_=>rfl
 | k :: r,j=>by
  unfold aIg aH1
  simp only[aHa,aKc h all r (j+1)]
  cases lk h k with
  | none=>rfl
  | some o=>
   simp only[Option.map_some,Option.bind_some]
   cases aH1 h r all (j+1)with
   | none=>rfl
   | some t=>simp[aE2,ObS.ren_enc]
theorem aLu {ds ds':List DS}{h h':aBq}(hc:aOR ds h=some (ds',h')):canon (DS.encs ds) (aE2 h)=some (DS.encs ds',aE2 h'):=by
 simp only[aOR]at hc
 obtain⟨ks,h1,hc⟩:=Option.bind_eq_some_iff.1 hc
 obtain⟨t,h2,hc⟩:=Option.bind_eq_some_iff.1 hc
 injection hc with hc
 injection hc with hc1 hc2
 subst hc1 hc2
 simp[canon,bLO,bOZ,DS.refsL_enc,aLP,h1,aKc,h2,DS.renL_enc]
theorem DS.cells_enc (d:DS):d.enc.cells=DS.encs d.cells:=by cases d <;> rfl
mutual
theorem S.flat_enc:∀ {u:S},u.flat=true->u.enc.flat=true
 | .i _ _,_ | .b _,_ | .s _,_ | .nl _,_=>rfl
 | .l (.e _),_=>rfl
 | .l (.t _ _),h | .cp _,h | .ifc _ _ _,h=>by simp[S.flat]at h
 | .fn _ caps,h=>by simp only[S.enc,V.flat];exact S.flatL_enc (by simpa only[S.flat]using h)
theorem S.flatL_enc:∀ {us:List S},S.flatL us=true->V.flatL (S.encs us)=true
 | [],_=>rfl
 | u :: r,h=>by
  simp only[S.flatL,Bool.and_eq_true]at h
  simp only[S.encs,V.flatL,S.flat_enc h.1,S.flatL_enc h.2,Bool.and_self]
end
mutual
theorem DS.flat_enc:∀ (d:DS),d.flat=true->d.enc.flat=true
 | .p u,h=>S.flat_enc h
 | .own _,_=>rfl
 | .arr _ _ _ _,_=>rfl
 | .ptr _ _,_=>rfl
 | .ep _ _ _,_=>rfl
 | .mp _,_=>rfl
 | .fn _ caps,h=>by simp only[DS.enc,D.flat];exact DS.flatL_enc caps h
 | .ifc _ _ xs,h=>by simp only[DS.enc,D.flat];exact DS.flatL_enc xs h
 | .agg xs,h=>by simp only[DS.enc,D.flat];exact DS.flatL_enc xs h
 | .tup xs,h=>by simp only[DS.enc,D.flat];exact DS.flatL_enc xs h
 | .und,_=>rfl
theorem DS.flatL_enc:∀ (ds:List DS),DS.flatL ds=true->D.flatL (DS.encs ds)=true
 | [],_=>rfl
 | d :: r,h=>by
  simp only[DS.flatL,Bool.and_eq_true]at h
  simp only[DS.encs,D.flatL,DS.flat_enc d h.1,DS.flatL_enc r h.2,Bool.and_self]
end
theorem aOU:∀ (es:List Sh) (x:aJH es),es.all aH9=true->(aKa es x).all V.flat=true
 | [],_,_=>rfl
 | [s],x,h=>by cases s <;> simp_all[aKa,Sh.enc,V.flat,aH9]
 | s :: t :: q,x,h=>by
  simp only[List.all_cons,Bool.and_eq_true]at h
  have:=aOU (t :: q) x.2 (by simpa using h.2)
  simp only[aKa,List.all_cons,this,Bool.and_true]
  cases s <;> simp_all[Sh.enc,V.flat,aH9]
theorem aOt {s:Sh}(h:aH9 s=true)(x:s.den):(s.enc x).flat=true:=by
 cases s <;> simp_all[Sh.enc,V.flat,aH9]
theorem ObS.flat_enc {o:ObS}(h:o.flat=true):o.enc.flat=true:=by
 cases o with
 | box cs=>exact DS.flatL_enc cs h
 | arr e=>
  cases e with
  | t es xs=>
   simp only[ObS.enc,Ob.flat,EL.xs,List.all_map,List.all_eq_true]
   intro x _
   exact aOU es x h
  | e sz=>rfl
 | frz e=>cases h
 | fbx cs=>cases h
 | mp ks vs c xs=>
  simp only[ObS.flat,Bool.and_eq_true]at h
  simp only[ObS.enc,Ob.flat,List.all_map,List.all_eq_true,Function.comp,Bool.and_eq_true]
  intro x _
  exact⟨aOt h.1 _,aOt h.2 _⟩
 | dead=>rfl
mutual
theorem DS.boxy_enc:∀ d:DS,d.enc.boxy=d.boxy
 | .p _=>rfl
 | .own _=>rfl
 | .arr _ _ _ _=>rfl
 | .ptr _ _=>rfl
 | .ep _ _ _=>rfl
 | .mp _=>rfl
 | .fn _ caps=>by simp only[DS.enc,D.boxy,DS.boxy,DS.boxyL_enc caps]
 | .ifc _ _ xs=>by simp only[DS.enc,D.boxy,DS.boxy,DS.boxyL_enc xs]
 | .agg xs=>by simp only[DS.enc,D.boxy,DS.boxy,DS.boxyL_enc xs]
 | .tup xs=>by simp only[DS.enc,D.boxy,DS.boxy,DS.boxyL_enc xs]
 | .und=>rfl
theorem DS.boxyL_enc:∀ ds:List DS,D.boxyL (DS.encs ds)=DS.boxyL ds
 | []=>rfl
 | d :: r=>by simp only[DS.encs,D.boxyL,DS.boxyL,DS.boxy_enc d,DS.boxyL_enc r]
end
theorem aMi (e:aLZ):aCD (aL0 e)=aL0 (aJU e):=by
 simp only[aCD,aL0,aJU,List.filter_map];rfl
theorem aQP:∀ (ks:List Nat) (e:aLZ),kept ks (aL0 e)=aL0 (aRH ks e)
 | [],e=>aMi e
 | t :: r,e=>by
  simp only[kept,aRH,aK5,aQP r e]
  cases lk e t <;> rfl
theorem aX5 (e:aLZ):(aL0 e).map (·.1)=e.map (·.1):=by simp[aL0,Function.comp_def]
theorem aQo (e:aLZ):(aL0 e).map (·.2)=DS.encs (e.map (·.2)):=by simp[aL0,DS.encs_map,Function.comp_def]
theorem aXV (ks:List Nat)(ds:List DS):ks.zip (DS.encs ds)=aL0 (ks.zip ds):=by
 rw[DS.encs_map,aL0,List.zip_map_right];rfl
theorem aHD {keep:List Nat}{s s':StS}(h:aIM keep s=some s'):aHy keep s.enc=some s'.enc:=by
 simp only[aIM]at h
 obtain⟨c,h1,h⟩:=Option.bind_eq_some_iff.1 h
 injection h with h;subst h
 have:=aLu (ds':=c.1) (h':=c.2) h1
 simp only[aHy,StS.enc,aQP,aQo,aX5,this,Option.bind_some,bDx,aXV]
theorem aTX:∀ {e:aLZ} {t:Nat} {b:Bool},lk e t=some (.p (.b b))->aZ1 e t b=e
 | (k,d) :: r,t,b,h=>by
  simp only[lk]at h
  simp only[aZ1]
  by_cases hk:k=t
  ·  rw[if_pos hk]at h;injection h with h;rw[if_pos hk,h]
  ·  rw[if_neg hk]at h;rw[if_neg hk,aTX h]
 | [],_,_,h=>by cases h
theorem aQX:∀ (ds:List DS) (i:Nat),aI1 i (DS.encs ds)=aL0 (aRk i ds)
 | [],_=>rfl
 | d :: r,i=>by
  simp only[DS.encs,aI1,aRk,DS.refs_enc,aQX r (i+1)]
  cases hd:(DS.refs d).isEmpty <;> simp[hd,aL0]
theorem aMz:∀ (ds:List DS) (i:Nat) (e:aLZ),params i (DS.encs ds) (aL0 e)=aL0 (aKR i ds e)
 | [],_,_=>rfl
 | d :: r,i,e=>by simp only[DS.encs,params,aKR,aMz r (i+1) e];rfl
mutual
theorem DS.same_enc:∀ (a b:DS),D.same a.enc b.enc=DS.same a b
 | .own k,b=>by cases b <;> simp only[DS.enc,D.same,DS.same]
 | .ptr k o,b=>by cases b <;> simp only[DS.enc,D.same,DS.same]
 | .mp k,b=>by cases b <;> simp only[DS.enc,D.same,DS.same]
 | .fn v cs,b=>by
  cases b <;> simp only[DS.enc,D.same,DS.same]
  rw[DS.sameL_enc cs _]
 | .p _,b=>by cases b <;> simp only[DS.enc,D.same,DS.same]
 | .arr _ _ _ _,b=>by cases b <;> simp only[DS.enc,D.same,DS.same]
 | .ep _ _ _,b=>by cases b <;> simp only[DS.enc,D.same,DS.same]
 | .ifc _ _ _,b=>by cases b <;> simp only[DS.enc,D.same,DS.same]
 | .agg _,b=>by cases b <;> simp only[DS.enc,D.same,DS.same]
 | .tup _,b=>by cases b <;> simp only[DS.enc,D.same,DS.same]
 | .und,b=>by cases b <;> simp only[DS.enc,D.same,DS.same]
theorem DS.sameL_enc:∀ (a b:List DS),D.sameL (DS.encs a) (DS.encs b)=DS.sameL a b
 | [],[]=>rfl
 | a :: r,b :: q=>by simp only[DS.encs,D.sameL,DS.sameL,DS.same_enc a b,DS.sameL_enc r q]
 | [],_ :: _=>rfl
 | _ :: _,[]=>rfl
end
theorem ObS.same_enc (a b:ObS):Ob.same a.enc b.enc=ObS.same a b:=by
 cases a <;> cases b <;> simp only[ObS.enc,Ob.same,ObS.same]
 exact DS.sameL_enc _ _
theorem aX6 (m:List (Nat×Nat))(f:Nat->Nat)(sub:aBq)(x:Nat×ObS):bKw m f (aE2 sub) (x.1,x.2.enc)=bEK m f sub x:=by
 unfold bKw bEK
 cases lkN m x.1 with
 | none=>rfl
 | some old=>
  simp only[aHa]
  cases lk sub old with
  | none=>rfl
  | some o=>simp only[Option.map_some,ObS.ren_enc,ObS.same_enc]
theorem aRu (a b:ObS):a.enc.mpSame b.enc=a.mpSame b:=by cases a <;> cases b <;> rfl
theorem aQu (kp:Bool)(m:List (Nat×Nat))(sub:aBq)(x:Nat×ObS):bFP kp m (aE2 sub) (x.1,x.2.enc)=(aRv kp m sub x).map ObS.enc:=by
 unfold bFP aRv
 cases kp with
 | false=>rfl
 | true=>
  cases lkN m x.1 with
  | none=>rfl
  | some old=>
   simp only[aHa]
   cases lk sub old with
   | none=>rfl
   | some o=>
    have hb:mxx o.enc x.2.enc=bP3 o x.2:=by cases o <;> cases x.2 <;> rfl
    simp only[Option.map_some,hb]
    cases bP3 o x.2 <;> rfl
theorem aOC (kp:Bool)(m:List (Nat×Nat))(f:Nat->Nat)(sub:aBq)(x:Nat×ObS):aPy kp m f (aE2 sub) (x.1,x.2.enc)=aQi kp m f sub x:=by
 unfold aPy aQi
 rw[aX6,aQu]
 cases aRv kp m sub x <;> rfl
theorem aYE (kp:Bool)(m:List (Nat×Nat))(f:Nat->Nat)(sub h:aBq):bJ5 kp m f (aE2 sub) (aE2 h)=aE2 (bC6 kp m f sub h):=by
 unfold bJ5 bC6 aE2
 rw[List.filter_map]
 congr 1
 refine List.filter_congr fun x _=>?_
 have:=aOC kp m f sub x
 rw[aE2]at this
 simp only[Function.comp,this]
theorem aXM (kp:Bool)(m:List (Nat×Nat))(f:Nat->Nat)(h sub:aBq):bP7 kp m f (aE2 h) (aE2 sub)=aE2 (bDa kp m f h sub):=by
 unfold bP7 bDa aE2
 rw[List.filter_map]
 congr 1
 refine List.filter_congr fun y _=>?_
 simp only[Function.comp,List.any_map]
 congr 2
 funext x
 have:=aOC kp m f sub x
 rw[aE2]at this
 have hb:bxx x.2.enc y.2.enc=bS0 x.2 y.2:=by cases x.2 <;> cases y.2 <;> rfl
 simp only[Function.comp,this,hb]
theorem aKG (ds:List DS):∀ h:aBq,aFi (DS.encs ds) (aE2 h)=DS.encs (aL1 ds h)
 | []=>rfl
 | (k,o) :: r=>by
  have ih:=aKG ds r
  show aFi (DS.encs ds) ((k,o.enc) :: aE2 r)=_
  unfold aFi aL1
  rw[ih,DS.refsL_enc]
  cases hc:(DS.refsL ds).contains k with
  | true=>rfl
  | false=>
     rw[if_neg (by simp),cond_false]
     cases o <;> rfl
theorem aSw:∀ {a b:List DS},aO6 a b=true->aLW (DS.encs a) (DS.encs b)=true:=by
 intro a
 induction a with
 | nil=>intro b h;cases b with
  | nil=>rfl
  | cons x q=>cases x <;> cases h
 | cons d r ih=>
  intro b h
  cases b with
  | nil=>cases d <;> cases h
  | cons x q=>
   cases d <;> cases x <;> first | (cases h;done) | skip
   all_goals
    simp only[aO6,Bool.and_eq_true]at h
    simp only[DS.encs,DS.enc,aLW,Bool.and_eq_true]
    exact⟨h.1,ih h.2⟩
mutual
theorem PV.bd_enc:∀ (p:PV) (u:S) (x:p.den),p.mt u=some x->(p.bd x).enc=u.enc
 | .s sh,u,x,h=>by
  replace h:sh.prj u=some x:=h
  exact (aLz sh x).trans (aGO h).symm
 | .cp ps,u,x,h=>by
  obtain⟨l,h1,h2⟩:=Option.bind_eq_some_iff.1 h
  cases u <;> simp only[cpU,reduceCtorEq,Option.some.injEq]at h1
  subst h1
  have:=aLa ps _ x h2
  show V.cp (S.encs (bdV ps x))=_
  rw[this];rfl
 | .fn v ps,u,x,h=>by
  obtain⟨l,h1,h2⟩:=Option.bind_eq_some_iff.1 h
  cases u <;> simp only[fnU,reduceCtorEq]at h1
  rename_i v' caps
  cases hb:v' == v with
  | false=>rw[hb]at h1;cases h1
  | true=>
   rw[hb]at h1;injection h1 with h1;subst h1
   have:=aLa ps _ x h2
   show V.fn v (S.encs (bdV ps x))=_
   rw[this,eq_of_beq hb];rfl
 | .nl k,u,x,h=>by
  replace h:nlU k u=some x:=h
  cases u <;> simp only[nlU,reduceCtorEq]at h
  rename_i k'
  cases hb:k' == k with
  | false=>rw[hb]at h;cases h
  | true=>rw[eq_of_beq hb];rfl
 | .e sz,u,x,h=>by
  replace h:eU sz u=some x:=h
  unfold eU at h
  split at h
  ·rename_i n
   cases hb:n == sz with
   | false=>rw[hb]at h;cases h
   | true=>rw[eq_of_beq hb];rfl
  ·cases h
 | .ki k c,u,x,h=>by
  replace h:kiU k c u=some x:=h
  cases u <;> simp only[kiU,reduceCtorEq]at h
  rename_i k' n
  cases hb:(decide (k'=k)&&decide (n=c))with
  | false=>rw[hb]at h;cases h
  | true=>
   rw[Bool.and_eq_true,decide_eq_true_eq,decide_eq_true_eq]at hb
   rw[hb.1,hb.2];rfl
 | .kb c,u,x,h=>by
  replace h:kbU c u=some x:=h
  cases u <;> simp only[kbU,reduceCtorEq]at h
  rename_i t
  cases hb:t == c with
  | false=>rw[hb]at h;cases h
  | true=>rw[eq_of_beq hb];rfl
 | .ks c,u,x,h=>by
  replace h:ksU c u=some x:=h
  cases u <;> simp only[ksU,reduceCtorEq]at h
  rename_i t
  cases hb:decide (t=c)with
  | false=>rw[hb]at h;cases h
  | true=>rw[of_decide_eq_true hb];rfl
 | .fv ps,u,x,h=>by
  obtain⟨l,h1,h2⟩:=Option.bind_eq_some_iff.1 h
  obtain⟨y,h4,h3⟩:=Option.bind_eq_some_iff.1 h2
  injection h3 with h3;subst h3
  cases u <;> simp only[fvU,reduceCtorEq,Option.some.injEq]at h1
  subst h1
  have:=aLa ps _ y h4
  show V.fn _ (S.encs (bdV ps y))=_
  rw[this];rfl
 | .fa,u,x,h=>by
  replace h:fvU u=some x:=h
  cases u <;> simp only[fvU,reduceCtorEq]at h
  injection h with h;subst h;rfl
theorem aLa:∀ (ps:List PV) (us:List S) (x:aXA ps),mtV ps us=some x->S.encs (bdV ps x)=S.encs us
 | [],us,x,h=>by rw[(aPU h).1];rfl
 | p :: r,us,x,h=>by
  obtain⟨y,h1,h⟩:=Option.bind_eq_some_iff.1 h
  obtain⟨a,h2,h⟩:=Option.bind_eq_some_iff.1 h
  obtain⟨b,h3,h⟩:=Option.bind_eq_some_iff.1 h
  injection h with h;subst h
  rw[aNe h1]
  show (p.bd a).enc :: S.encs (bdV r b)=y.1.enc :: S.encs y.2
  rw[PV.bd_enc p _ _ h2,aLa r _ _ h3]
end
theorem aYo {us:List DS}{x:DS×List DS}(h:headD us=some x):us=x.1 :: x.2:=by
 cases us with
 | nil=>cases h
 | cons u r=>injection h with h;subst h;rfl
theorem bC2 {α:Type}{a b:α}{us:List DS}(h:bRP a us=some b):us=[]∧a=b:=by
 cases us with
 | nil=>injection h with h;exact⟨rfl,h⟩
 | cons u r=>cases h
mutual
theorem PD.bd_enc:∀ (p:PD) (d:DS) (x:p.den),p.mt d=some x->(p.bd x).enc=d.enc
 | .p v,d,x,h=>by
  obtain⟨u,h1,h2⟩:=Option.bind_eq_some_iff.1 h
  cases d <;> simp only[pU,reduceCtorEq,Option.some.injEq]at h1
  subst h1
  show D.p (v.bd x).enc=_
  rw[PV.bd_enc v _ x h2];rfl
 | .mp k,d,x,h=>by
  replace h:bNT k d=some x:=h
  cases d <;> simp only[bNT,reduceCtorEq]at h
  rename_i k'
  cases hb:k' == k with
  | false=>rw[hb]at h;cases h
  | true=>rw[eq_of_beq hb];rfl
 | .own k,d,x,h=>by
  replace h:bPi k d=some x:=h
  cases d <;> simp only[bPi,reduceCtorEq]at h
  rename_i k'
  cases hb:k' == k with
  | false=>rw[hb]at h;cases h
  | true=>rw[eq_of_beq hb];rfl
 | .arr k ap,d,x,h=>by
  replace h:bOJ k ap d=some x:=h
  cases d <;> simp only[bOJ,reduceCtorEq]at h
  rename_i k' off len ap'
  cases hb:(k' == k&&ap' == ap)with
  | false=>rw[hb]at h;cases h
  | true=>
   rw[hb]at h;injection h with h;subst h
   rw[Bool.and_eq_true]at hb
   rw[<- eq_of_beq hb.1,<- eq_of_beq hb.2];rfl
 | .ptr k off,d,x,h=>by
  replace h:bQf k off d=some x:=h
  cases d <;> simp only[bQf,reduceCtorEq]at h
  rename_i k' off'
  cases hb:(k' == k&&off' == off)with
  | false=>rw[hb]at h;cases h
  | true=>
   rw[Bool.and_eq_true]at hb
   rw[<- eq_of_beq hb.1,<- eq_of_beq hb.2];rfl
 | .ep k off,d,x,h=>by
  replace h:epU k off d=some x:=h
  cases d <;> simp only[epU,reduceCtorEq]at h
  rename_i k' i off'
  cases hb:(k' == k&&off' == off)with
  | false=>rw[hb]at h;cases h
  | true=>
   rw[hb]at h;injection h with h;subst h
   rw[Bool.and_eq_true]at hb
   rw[<- eq_of_beq hb.1,<- eq_of_beq hb.2];rfl
 | .agg ps,d,x,h=>by
  obtain⟨l,h1,h2⟩:=Option.bind_eq_some_iff.1 h
  cases d <;> simp only[bRG,reduceCtorEq,Option.some.injEq]at h1
  subst h1
  show D.agg (DS.encs (bdD ps x))=_
  rw[aJK ps _ x h2];rfl
 | .fn v ps,d,x,h=>by
  obtain⟨l,h1,h2⟩:=Option.bind_eq_some_iff.1 h
  cases d <;> simp only[bSl,reduceCtorEq]at h1
  rename_i v' caps
  cases hb:v' == v with
  | false=>rw[hb]at h1;cases h1
  | true=>
   rw[hb]at h1;injection h1 with h1;subst h1
   show D.fn v (DS.encs (bdD ps x))=_
   rw[aJK ps _ x h2,eq_of_beq hb];rfl
 | .und,d,x,h=>by
  replace h:bNH d=some x:=h
  cases d <;> simp only[bNH,reduceCtorEq]at h
  rfl
 | .fv ps,d,x,h=>by
  obtain⟨l,h1,h2⟩:=Option.bind_eq_some_iff.1 h
  obtain⟨y,h4,h3⟩:=Option.bind_eq_some_iff.1 h2
  injection h3 with h3;subst h3
  cases d <;> simp only[bSn,reduceCtorEq,Option.some.injEq]at h1
  subst h1
  show D.fn _ (DS.encs (bdD ps y))=_
  rw[aJK ps _ y h4];rfl
theorem aJK:∀ (ps:List PD) (us:List DS) (x:aUF ps),mtD ps us=some x->DS.encs (bdD ps x)=DS.encs us
 | [],us,x,h=>by rw[(bC2 h).1];rfl
 | p :: r,us,x,h=>by
  obtain⟨y,h1,h⟩:=Option.bind_eq_some_iff.1 h
  obtain⟨a,h2,h⟩:=Option.bind_eq_some_iff.1 h
  obtain⟨b,h3,h⟩:=Option.bind_eq_some_iff.1 h
  injection h with h;subst h
  rw[aYo h1]
  show (p.bd a).enc :: DS.encs (bdD r b)=y.1.enc :: DS.encs y.2
  rw[PD.bd_enc p _ _ h2,aJK r _ _ h3]
end
theorem aY3 {sz:Nat}{e:EL}{x:Unit}(h:emE sz e=some x):e=.e sz:=by
 cases e with
 | t es xs=>cases h
 | e n=>
  simp only[emE]at h
  cases hb:n == sz with
  | false=>rw[hb]at h;cases h
  | true=>rw[eq_of_beq hb]
theorem PO.bd_enc:∀ (p:PO) (o:ObS) (x:p.den),p.mt o=some x->(p.bd x).enc=o.enc
 | .box ps,o,x,h=>by
  obtain⟨l,h1,h2⟩:=Option.bind_eq_some_iff.1 h
  cases o <;> simp only[bRU,reduceCtorEq,Option.some.injEq]at h1
  subst h1
  show Ob.box (DS.encs (bdD ps x))=_
  rw[aJK ps _ x h2];rfl
 | .arr es,o,x,h=>by
  obtain⟨l,h1,h2⟩:=Option.bind_eq_some_iff.1 h
  cases o <;> simp only[bL4,reduceCtorEq,Option.some.injEq]at h1
  subst h1
  have:=EL.as_enc h2
  show Ob.arr es.length (List.map (aKa es) x)=Ob.arr _ _
  rw[this.1,this.2]
 | .frz es,o,x,h=>by
  obtain⟨l,h1,h2⟩:=Option.bind_eq_some_iff.1 h
  cases o <;> simp only[bLZ,reduceCtorEq,Option.some.injEq]at h1
  subst h1
  have:=EL.as_enc h2
  show Ob.frz es.length (List.map (aKa es) x)=Ob.frz _ _
  rw[this.1,this.2]
 | .em sz,o,x,h=>by
  obtain⟨l,h1,h2⟩:=Option.bind_eq_some_iff.1 h
  cases o <;> simp only[bL4,reduceCtorEq,Option.some.injEq]at h1
  subst h1
  rw[aY3 h2];rfl
 | .emf sz,o,x,h=>by
  obtain⟨l,h1,h2⟩:=Option.bind_eq_some_iff.1 h
  cases o <;> simp only[bLZ,reduceCtorEq,Option.some.injEq]at h1
  subst h1
  rw[aY3 h2];rfl
 | .fbx ps,o,x,h=>by
  obtain⟨l,h1,h2⟩:=Option.bind_eq_some_iff.1 h
  cases o <;> simp only[bRD,reduceCtorEq,Option.some.injEq]at h1
  subst h1
  show Ob.fbx (S.encs (bdV ps x))=_
  rw[aLa ps _ x h2];rfl
 | .mp ks vs,o,x,h=>by
  replace h:mpU ks vs o=some x:=h
  unfold mpU at h
  split at h
  ·rename_i ks' vs' c xs
   split at h
   ·rename_i h1
    split at h
    ·rename_i h2
     have e1:=Sh.beq_eq _ _ h1
     have e2:=Sh.beq_eq _ _ h2
     subst e1 e2
     injection h with h;subst h;rfl
    ·cases h
   ·cases h
  ·cases h
 | .dead,o,x,h=>by
  replace h:bCg o=some x:=h
  cases o <;> simp only[bCg,reduceCtorEq]at h
  rfl
theorem aQQ {α:Type}{n:Nat}{us:List (Nat×α)}{x:α×List (Nat×α)}(h:aXE n us=some x):us=(n,x.1) :: x.2:=by
 cases us with
 | nil=>cases h
 | cons u r=>
  simp only[aXE]at h
  cases hb:u.1 == n with
  | false=>rw[hb]at h;cases h
  | true=>rw[hb]at h;injection h with h;subst h;rw[<- eq_of_beq hb]
theorem aUH {α β:Type}{a b:β}{us:List (Nat×α)}(h:bPj a us=some b):us=[]∧a=b:=by
 cases us with
 | nil=>injection h with h;exact⟨rfl,h⟩
 | cons u r=>cases h
theorem aPI:∀ (ps:List (Nat×PO)) (us:aBq) (x:bBn ps),mtH ps us=some x->aE2 (bdH ps x)=aE2 us
 | [],us,x,h=>by rw[(aUH h).1];rfl
 | p :: r,us,x,h=>by
  obtain⟨y,h1,h⟩:=Option.bind_eq_some_iff.1 h
  obtain⟨a,h2,h⟩:=Option.bind_eq_some_iff.1 h
  obtain⟨b,h3,h⟩:=Option.bind_eq_some_iff.1 h
  injection h with h;subst h
  rw[aQQ h1]
  have e1:=PO.bd_enc p.2 _ _ h2
  have e2:=aPI r _ _ h3
  simp only[aE2,List.map_cons,bdH]at e2 ⊢
  rw[e1,e2]
theorem aW7:∀ (ps:List (Nat×PD)) (us:aLZ) (x:bDt ps),mtE ps us=some x->aL0 (bdE ps x)=aL0 us
 | [],us,x,h=>by rw[(aUH h).1];rfl
 | p :: r,us,x,h=>by
  obtain⟨y,h1,h⟩:=Option.bind_eq_some_iff.1 h
  obtain⟨a,h2,h⟩:=Option.bind_eq_some_iff.1 h
  obtain⟨b,h3,h⟩:=Option.bind_eq_some_iff.1 h
  injection h with h;subst h
  rw[aQQ h1]
  have e1:=PD.bd_enc p.2 _ _ h2
  have e2:=aW7 r _ _ h3
  simp only[aL0,List.map_cons,bdE]at e2 ⊢
  rw[e1,e2]
theorem SP.bd_enc {P:SP}{s:StS}{x:P.den}(h:P.mt s=some x):(P.bd x).enc=s.enc:=by
 obtain⟨a,h1,h⟩:=Option.bind_eq_some_iff.1 h
 obtain⟨b,h2,h⟩:=Option.bind_eq_some_iff.1 h
 injection h with h;subst h
 simp only[SP.bd,StS.enc,aW7 _ _ _ h1,aPI _ _ _ h2]
theorem AP.bd_enc {P:AP}{ds:List DS}{hp:aBq}{x:P.den}(h:P.mt ds hp=some x):DS.encs (bdD P.ds x.1)=DS.encs ds∧aE2 (bdH P.heap x.2)=aE2 hp:=by
 obtain⟨a,h1,h⟩:=Option.bind_eq_some_iff.1 h
 obtain⟨b,h2,h⟩:=Option.bind_eq_some_iff.1 h
 injection h with h;subst h
 exact⟨aJK _ _ _ h1,aPI _ _ _ h2⟩
theorem aNJ {R:Type}{k:StS->Option R}{r:R}{s:StS}:∀ {X:List SP},bIo X s k=some r->∃ s',s.enc=s'.enc∧k s'=some r
 | [],h=>⟨s,rfl,h⟩
 | P :: X,h=>by
  unfold bIo at h
  split at h
  ·rename_i x hx;exact⟨P.bd x,(SP.bd_enc hx).symm,h⟩
  ·exact aNJ h
theorem aQb {R:Type}{k:List DS->aBq->Option R}{r:R}{ds:List DS}{hp:aBq}:∀ {X:List AP},bLz X ds hp k=some r->∃ ds' h',DS.encs ds=DS.encs ds'∧aE2 hp=aE2 h'∧k ds' h'=some r
 | [],h=>⟨ds,hp,rfl,rfl,h⟩
 | P :: X,h=>by
  unfold bLz at h
  split at h
  ·rename_i x hx
   have:=AP.bd_enc hx
   exact⟨_,_,this.1.symm,this.2.symm,h⟩
  ·exact aQb h
end Am
end Go.Proofs.YtkmbhgggpfbffaaGreatDoor
