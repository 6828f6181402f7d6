/- Regions whose order is open: every order comes to the same. -/
import Derived.Test.YtkmbhgggpfbffaaGreatDoorAm27
set_option linter.unusedVariables false
set_option linter.unusedSimpArgs false
set_option linter.constructorNameAsVariable false
namespace Go.Proofs.YtkmbhgggpfbffaaGreatDoor
namespace Am
section
variable {P:Program} {fo:Fo} {vm:FuncId->Nat} {vmode:Nat->List Nat} {F:Cf} {w0:World} {Own0 Im0:Nat->Prop} {nt:Nat} {args:List D} {φ0:Lay} {av:List Value}
theorem Inv.eq {s r:St}{a:Act}{w:World}(hi:Inv fo w0 Own0 Im0 args φ0 av nt s a w)(he:EQ s r)(hh:Hid args r.env):Inv fo w0 Own0 Im0 args φ0 av nt r a w:=by
 obtain⟨φ,Im,hfr,hE,hd,hsz,g,hg,hφ⟩:=hi
 have hs:=aTD hfr.hs (h':=r.heap) (fun k=>by rw[he.2])
 obtain⟨g',hg'⟩:=hh
 refine⟨φ,Im,hfr.trans hs.fr,fun t d hl=>hE t d (by rw[he.1];exact hl),hd,hsz,g',hg',fun k hk=>?_⟩
 have lkh:∀ (e:Env) (t:Nat),100000<=t->lk (aCD e) t=lk e t:=by
  intro e t ht
  induction e with
  | nil=>rfl
  | cons x e ih=>
   unfold aCD at ih ⊢
   rw[List.filter_cons]
   obtain⟨q,d⟩:=x
   by_cases c:100000<=q
   ·rw[if_pos (by simpa using c),aAV,aAV,ih]
   ·rw[if_neg (by simpa using c),aAV,if_neg (by omega),ih]
 have lkm:∀ (g:Nat->Nat) (L:Env) (t:Nat),lk (L.map fun x=>(x.1,x.2.ren g)) t=(lk L t).map (D.ren g):=by
  intro g L
  induction L with
  | nil=>intro t;rfl
  | cons x L ih=>
   intro t
   obtain⟨k,d⟩:=x
   simp only[List.map_cons,aAV]
   split
   ·rfl
   ·exact ih t
 have hidk:∀ (ds:List D) (i:Nat) (x:Nat×D),x∈aI1 i ds->100000+i<=x.1∧lk (aI1 i ds) x.1=some x.2:=by
  intro ds
  induction ds with
  | nil=>intro i x hx;cases hx
  | cons d ds ih=>
   intro i x hx
   unfold aI1 at hx ⊢
   split at hx
   ·rename_i hc
    rw[if_pos hc]
    obtain⟨q1,q2⟩:=ih (i+1) x hx
    exact⟨by omega,q2⟩
   ·rename_i hc
    rw[if_neg hc]
    rcases List.mem_cons.1 hx with rfl | hx
    ·exact⟨Nat.le_refl _,by rw[aAV,if_pos rfl]⟩
    ·obtain⟨q1,q2⟩:=ih (i+1) x hx
     exact⟨by omega,by rw[aAV,if_neg (show ¬(100000+i=x.1) by omega)];exact q2⟩
 have hm:k∈D.refsL ((aI1 0 args).map (·.2)):=by rw[aHw];exact hk
 obtain⟨d,d1,d2⟩:=refsL_mem.1 hm
 obtain⟨x,x1,rfl⟩:=List.mem_map.1 d1
 obtain⟨x2,x3⟩:=hidk args 0 x x1
 have e1:lk s.env x.1=some (x.2.ren g):=by rw[<- lkh s.env x.1 (by omega),hg,lkm,x3];rfl
 have e2:lk r.env x.1=some (x.2.ren g'):=by rw[<- lkh r.env x.1 (by omega),hg',lkm,x3];rfl
 have e3:x.2.ren g=x.2.ren g':=by
  have:=he.1 x.1
  rw[e1,e2]at this
  exact Option.some.inj this
 have e4:x.2.refs.map g=x.2.refs.map g':=by rw[<- aMW,<- aMW,e3]
 obtain⟨l,q1,q2⟩:=hφ k hk
 refine⟨l,q1,?_⟩
 have e5:g k=g' k:=by
  obtain⟨i,hi,rfl⟩:=List.getElem_of_mem d2
  have h1:(x.2.refs.map g)[i]? = (x.2.refs.map g')[i]? := by rw[e4]
  simpa[List.getElem?_map,List.getElem?_eq_getElem hi]using h1
 rw[<- e5];exact q2
theorem Inv.drew {s:St}{a:Act}{w:World}(hi:Inv fo w0 Own0 Im0 args φ0 av nt s a w):Inv fo w0 Own0 Im0 args φ0 av nt s a { w with drawn:=w.drawn+1 }:=by
 obtain⟨φ,Im,hfr,hE,hd,hsz,hh⟩:=hi
 refine⟨φ,Im,⟨⟨fun k o hk=>(hfr.hs.rep k o hk).keep (fun _ _ h=>h) (fun _ h=>h) (fun _ _=>rfl) (fun _ _ _ _=>rfl),hfr.hs.sep,hfr.hs.imm,hfr.hs.imb,hfr.hs.dom,hfr.hs.tb⟩,hfr.im,hfr.frame,hfr.own,hfr.imnew,hfr.size,hfr.os,hfr.tape,hfr.output⟩,fun t d hl=>?_,hd,hsz,hh⟩
 obtain⟨v,h1,h2⟩:=hE t d hl
 exact⟨v,h1,h2.mono (fun _ _ h=>h) (fun _ h=>h) (fun _ _=>rfl)⟩
theorem aV2 (hF:aD0 P fo F)(hfo:∀ f,fo (vm f)=some f)(h5:nt<=100000){ops:Array Oper}{L:Nat->AO}(hL:∀ i (hi:i<ops.size),AOof P vm vmode fo nt ops ops[i] (L i)){Q:Exit->Act->World->Prop}{r:St}(hQ:∀ a w,Inv fo w0 Own0 Im0 args φ0 av nt r a w->Q .normal a w)(hhr:Hid args r.env)
  (hpre:∀ i (hi:i<ops.size),∀ q,q∈(L i).pre->∃ e,e∈ops[i].after∧Region.binds .any e=true∧(q=e.on∨q∈(L e.on).pre)) (hedge:∀ i (hi:i<ops.size),∀ e,e∈ops[i].after->Region.binds .any e=true->e.on<i) :
  ∀ (fuel:Nat) (listed:Array Bool) (rem:List (Nat×List Acc)) (s r':St) (a:Act) (w:World),rem.length=fuel->listed.size=ops.size->RunS F L rem s r'->EQ r' r->(rem.map (·.1)).Pairwise (· < ·)->rem.Pairwise (fun x y=>x.1∈(L y.1).pre∨bDA L x y) ->
    (∀ j,j<ops.size->(listed.getD j true=false↔∃ l,(j,l)∈rem))->(∀ x,x∈rem->x.1<ops.size)->(∀ j,j<ops.size->listed.getD j true=true->∀ i,i∈(L j).pre->listed.getD i false=true) ->
    Inv fo w0 Own0 Im0 args φ0 av nt s a w->wpAny P .any ops Q fuel listed a w:=by
 intro fuel
 induction fuel with
 | zero=>
  intro listed rem s r' a w hlen hsz hrun heq hsort hfree hlist hlt hcl hi
  have:rem=[]:=List.eq_nil_of_length_eq_zero hlen
  subst this
  cases hrun with
  | nil=>
    refine⟨?_,hQ a w (hi.eq heq hhr)⟩
    rw[List.eq_nil_iff_forall_not_mem]
    intro j hj
    obtain⟨h1,o,h2,_⟩:=mem_ready.1 hj
    obtain⟨l,h3⟩:=(hlist j (Array.getElem?_eq_some_iff.1 h2).1).1 h1
    cases h3
 | succ fuel ih=>
  intro listed rem s r' a w hlen hsz hrun heq hsort hfree hlist hlt hcl hi
  -- a listed place,told both ways
  have hboth:∀ i,i<ops.size->listed.getD i true=listed.getD i false:=by
    intro i hi'
    simp[Array.getD,hsz,hi']
  refine⟨fun hnone=>?_,fun j hj=>?_⟩
  · exfalso
    cases rem with
    | nil=>simp at hlen
    | cons x rem=>
      obtain⟨i,l⟩:=x
      have hin:i<ops.size:=hlt (i,l) List.mem_cons_self
      have:i∈Region.ready .any ops listed:=by
       refine mem_ready.2 ⟨(hlist i hin).2 ⟨l,List.mem_cons_self⟩,ops[i],Array.getElem?_eq_getElem hin,fun e he hb=>?_⟩
       have hon:=hedge i hin e he hb
       cases hc:listed.getD e.on true with
       | true=>rw[<- hboth e.on (by omega)];exact hc
       | false=>
        obtain⟨l',hm⟩:=(hlist e.on (by omega)).1 hc
        rcases List.mem_cons.1 hm with h1 | h1
        ·injection h1 with h1 _;omega
        ·have hs2:=hsort
         rw[List.map_cons]at hs2
         have:i<e.on:=List.rel_of_pairwise_cons hs2 (List.mem_map.2 ⟨_,h1,rfl⟩)
         omega
      rw[hnone]at this
      cases this
  · obtain⟨hj0,o,ho,hall⟩:=mem_ready.1 hj
    obtain⟨hjn,rfl⟩:=Array.getElem?_eq_some_iff.1 ho
    obtain⟨lj,hm⟩:=(hlist j hjn).1 hj0
    obtain⟨A,B,rfl⟩:=List.append_of_mem hm
    have hprej:∀ i,i∈(L j).pre->listed.getD i false=true:=by
      intro i hi'
      obtain⟨e,e1,e2,e3⟩:=hpre j hjn i hi'
      have hon:=hall e e1 e2
      rcases e3 with rfl | e3
      ·exact hon
      ·have hlt2:=hedge j hjn e e1 e2
       exact hcl e.on (by omega) (by rw[hboth e.on (by omega)];exact hon) i e3
    have hf:∀ x,x∈A->bDA L x (j,lj):=by
      intro x hx
      rcases (List.pairwise_append.1 hfree).2.2 x hx (j,lj) List.mem_cons_self with h1 | h1
      ·have hxn:=hlt x (List.mem_append_left _ hx)
       have:=(hlist x.1 hxn).2 ⟨x.2,List.mem_append_left _ hx⟩
       rw[hboth x.1 hxn,hprej x.1 h1]at this
       cases this
      ·exact h1
    obtain⟨s1,r1,q1,q2,q3⟩:=hrun.front hf
    have hsub:(A++B).Sublist (A++(j,lj) :: B):=List.Sublist.append (List.Sublist.refl A) (List.sublist_cons_self _ _)
    have hnd:∀ l,(j,l)∈A++B->False:=by
      intro l hml
      have hs2:((A++(j,lj) :: B).map (·.1)).Pairwise (· < ·):=hsort
      rw[List.map_append,List.map_cons,List.pairwise_append]at hs2
      rcases List.mem_append.1 hml with h1 | h1
      ·have:=hs2.2.2 j (List.mem_map.2 ⟨_,h1,rfl⟩) j List.mem_cons_self
       omega
      ·have:j<j:=List.rel_of_pairwise_cons hs2.2.1 (List.mem_map.2 ⟨_,h1,rfl⟩)
       omega
    have hnext:∀ a' w',Inv fo w0 Own0 Im0 args φ0 av nt s1 a' w'->wpAny P .any ops Q fuel (listed.setIfInBounds j true) a' w':=by
      intro a' w' hi'
      refine ih _ (A++B) s1 r1 a' w' (by simp at hlen ⊢;omega) (by simpa using hsz) q2 (q3.symm.trans heq) (hsort.sublist (hsub.map _)) (hfree.sublist hsub) (fun i hi'=>?_) (fun x hx=>hlt x (hsub.subset hx)) (fun i hi' hl q hq=>?_) hi'
      ·by_cases he:j=i
       ·subst he
        have:(listed.setIfInBounds j true).getD j true=true:=by simp[Array.getD,hsz,hjn]
        rw[this]
        exact⟨(fun h=>by cases h),fun⟨l,hml⟩=>(hnd l hml).elim⟩
       ·rw[getD_set_ne true he,hlist i hi']
        refine⟨fun⟨l,hml⟩=>⟨l,?_⟩,fun⟨l,hml⟩=>⟨l,hsub.subset hml⟩⟩
        rcases List.mem_append.1 hml with h1 | h1
        ·exact List.mem_append_left _ h1
        ·rcases List.mem_cons.1 h1 with h1 | h1
         ·injection h1 with h1 _;exact absurd h1.symm he
         ·exact List.mem_append_right _ h1
      ·by_cases he:j=i
       ·subst he
        exact getD_set_true (hprej q hq)
       ·rw[getD_set_ne true he]at hl
        exact getD_set_true (hcl i hi' hl q hq)
    have hex:=aNZ hF hfo (hL j hjn) h5 hi (aNy _ _ _ _ _ _ q1)
    unfold wpOp
    rw[ho]
    simp only
    split
    · rename_i hw
      rw[if_pos hw]at hex
      refine .inl (Lands.wp (hex.mono fun v w' ⟨s2,g1,g2⟩=>?_))
      injection g1 with g1
      injection g1 with _ g1
      subst g1
      exact hnext _ _ g2
    · rename_i hw
      rw[if_neg hw]at hex
      obtain⟨s2,g1,g2⟩:=hex
      injection g1 with g1
      injection g1 with _ g1
      subst g1
      exact hnext _ _ g2
theorem bHL (hF:aD0 P fo F)(hfo:∀ f,fo (vm f)=some f)(hm:P.follows .mixedOrders=true):aKM P vm vmode fo F:=by
 intro w0 Own0 Im0 args φ0 av nt id ops aos s s' h5 hd hev a w hi Q hQ
 obtain⟨hlen,heach,hslots,hedges,hint,n,hops⟩:=hd
 let L:Nat->AO:=fun i=>aos.getD i ⟨none,.mv (.c (.b true)),0,none,[]⟩
 have hLget:∀ i (hi:i<aos.length),L i=aos[i]:=fun i hi=>by simp[L,List.getD,List.getElem?_eq_getElem hi]
 have hsize:aos.length=ops.size:=by rw[hlen];simp
 have hao:∀ i (hi:i<ops.size),AOof P vm vmode fo nt ops ops[i] (L i):=fun i hi=>by
  have:=heach i (by simpa using hi) (by rw[hsize];exact hi)
  rw[hLget i (by rw[hsize];exact hi)]
  simpa using this
 obtain⟨rem,r1,r2,_,r4⟩:=aPc (L:=L) aos 0 [] s s' (fun k hk=>by rw[Nat.zero_add];exact hLget k hk) hev
 have hrl:rem.length=ops.size:=by
  have:=congrArg List.length r1
  simpa[hsize]using this
 have hdst:∀ i d,(L i).dst=some d->d<100000:=by
  intro i d hd
  by_cases hi:i<ops.size
  ·have h1:=hao i hi
   rw[h1.dst]at hd
   exact Nat.lt_of_lt_of_le (h1.lt d hd) h5
  ·have:L i=⟨none,.mv (.c (.b true)),0,none,[]⟩:=by simp only[L,List.getD];rw[List.getElem?_eq_none (by omega)];rfl
   rw[this]at hd;cases hd
 have hh:Hid args s'.env:=by
  obtain⟨_,_,_,_,_,_,g,hg,_⟩:=hi
  exact⟨g,by rw[r2.hid hdst];exact hg⟩
 have hsort:(rem.map (·.1)).Pairwise (· < ·):=by rw[r1];exact List.pairwise_lt_range'
 have hmem:∀ j,j<ops.size->∃ l,(j,l)∈rem:=by
  intro j hj
  have:j∈rem.map (·.1):=by rw[r1,hsize];simp[List.mem_range'_1,hj]
  obtain⟨x,h1,h2⟩:=List.mem_map.1 this
  exact⟨x.2,by rw[<- h2];exact h1⟩
 have hlt:∀ x,x∈rem->x.1<ops.size:=by
  intro x hx
  have:x.1∈rem.map (·.1):=List.mem_map.2 ⟨x,hx,rfl⟩
  rw[r1,hsize]at this
  have:=List.mem_range'_1.1 this
  omega
 have hedge:∀ i (hi:i<ops.size),∀ e,e∈ops[i].after->Region.binds .any e=true->e.on<i:=by
  intro i hi e he hb
  have:=aMj ops.toList 0 hedges i (by simpa using hi) e (by simpa using he) hb
  omega
 have hpre:∀ i (hi:i<ops.size),∀ q,q∈(L i).pre->∃ e,e∈ops[i].after∧Region.binds .any e=true∧(q=e.on∨q∈(L e.on).pre):=by
  intro i hi q hq
  have hia:i<aos.length:=by rw[hsize];exact hi
  rw[hLget i hia,aQ4 ops.toList n [] aos hops i (by simpa using hi) hia]at hq
  simp only[List.mem_eraseDups,List.append_nil,bCZ,List.mem_flatMap,List.mem_filter,List.reverse_reverse]at hq
  obtain⟨e,⟨e1,e2⟩,e3⟩:=hq
  have e1':e∈ops[i].after:=by simpa using e1
  refine⟨e,e1',e2,?_⟩
  rcases List.mem_cons.1 e3 with e3 | e3
  ·exact .inl e3
  ·right
   have hon:=hedge i hi e e1' e2
   have hona:e.on<aos.length:=by omega
   rw[hLget e.on hona]
   have:((aos.take i).map (·.pre))[e.on]? = some (aos[e.on]).pre:=by
    rw[List.getElem?_map,List.getElem?_take_of_lt hon,List.getElem?_eq_getElem hona];rfl
   rw[this]at e3
   exact e3
 refine wp_region_any hm ?_
 refine aV2 hF hfo h5 hao hQ hh hpre hedge ops.size (Array.replicate ops.size false) rem s s' a _ hrl (by simp) r2 (.refl _) hsort ?_ (fun j hj=>⟨fun _=>hmem j hj,fun _=>by simp[Array.getD,hj]⟩) hlt (fun j hj hl=>by simp[Array.getD,hj]at hl) hi.drew
 -- free of each other,or in a fixed order
 have hp:rem.Pairwise fun x y=>x.1<y.1:=by
  rw[List.pairwise_map]at hsort;exact hsort
 refine (hp.and r4).imp_of_mem ?_
 intro x y hx hy ⟨h1,h2⟩
 have hxn:=hlt x hx
 have hyn:=hlt y hy
 rcases aJ6 aos 0 [] hslots x.1 y.1 (by simp;omega) h1 (by simp)with h3 | h3
 ·left
  simp only[List.reverse_nil,List.nil_append]at h3
  rw[hLget y.1 (by omega)];exact h3
 ·simp only[List.reverse_nil,List.nil_append]at h3
  rcases h2 with h2 | h2
  ·exact .inl h2
  ·exact .inr ⟨h2,by rw[hLget x.1 (by omega),hLget y.1 (by omega)];exact h3⟩
theorem bEB (hfo:∀ f,fo (vm f)=some f){T:Tab}(hT:TabOK P vm vmode fo T)(hm:P.follows .mixedOrders=true):aD0 P fo (aAo T):=aRQ hfo hT fun F hF=>bHL hF hfo hm
end
end Am
end Go.Proofs.YtkmbhgggpfbffaaGreatDoor
