/- Objects that are met, numbered anew. -/
import Derived.Test.YtkmbhgggpfbffaaGreatDoorAm17
set_option linter.unusedVariables false
set_option linter.unusedSimpArgs false
set_option linter.constructorNameAsVariable false
namespace Go.Proofs.YtkmbhgggpfbffaaGreatDoor
namespace Am
section
variable {P:Program} {fo:Fo} {vm:FuncId->Nat} {φ:Lay} {Im:Nat->Prop} {w:World} {h:aAR} {a:Act} {av:List Value} {e:Env} {F:Cf} {β:Type} {r:β×St}
def RepDs (fo:Fo)(φ:Lay)(Im:Nat->Prop)(w:World)(ds:List D)(vs:List Value):Prop:=ds.length=vs.length∧∀ i (hi:i<ds.length) (hi':i<vs.length),RepD fo φ Im w ds[i] vs[i]
theorem RepDs.mono {φ':Lay}{Im':Nat->Prop}{w':World}{ds:List D}{vs:List Value}(hr:RepDs fo φ Im w ds vs)(hφ:∀ k l,φ k=some l->φ' k=some l)(hI:∀ g,Im g->Im' g)(hw:∀ g,Im g->w'.heap[g]? = w.heap[g]?):RepDs fo φ' Im' w' ds vs:=
 ⟨hr.1,fun i hi hi'=>(hr.2 i hi hi').mono hφ hI hw⟩
theorem RepDs.ren {φ':Lay}{f:Nat->Nat}{ds:List D}{vs:List Value}(hr:RepDs fo φ Im w ds vs)(hf:∀ k,k∈D.refsL ds->φ' (f k)=φ k):RepDs fo φ' Im w (D.renL f ds) vs:=by
 rw[aCd]
 refine⟨by simpa using hr.1,fun i hi hi'=>?_⟩
 simp only[List.getElem_map]
 exact (hr.2 i (by simpa using hi) hi').ren (fun k hk=>hf k (refsL_mem.2 ⟨_,List.getElem_mem _,hk⟩))
theorem aHT {α:Type}:∀ {h:List (Nat×α)} {k:Nat} {o:α},lk h k=some o->(k,o)∈h
 | [],k,o,hk=>by cases hk
 | (k',o') :: h,k,o,hk=>by
  rw[aAV]at hk
  split at hk
  ·  rename_i e;injection hk with hk;subst e hk;exact List.mem_cons_self
  ·  exact List.mem_cons_of_mem _ (aHT hk)
theorem aUV {α:Type}:∀ {h:List (Nat×α)} {k:Nat},lk h k=none->∀ o,(k,o) ∉ h
 | [],k,hk,o,hm=>by cases hm
 | (k',o') :: h,k,hk,o,hm=>by
  rw[aAV]at hk
  split at hk
  ·  cases hk
  ·  rename_i e
     rcases List.mem_cons.1 hm with hm | hm
     ·injection hm with h1 h2;exact e h1.symm
     ·exact aUV hk o hm
theorem aJL:∀ (n:Nat) (ts seen ks:List Nat),aOp h n ts seen=some ks->seen.Nodup->(∀ k,k∈seen->∃ o,lk h k=some o∧∀ k',k'∈o.refs->k'∈seen∨k'∈ts) ->
  ks.Nodup∧(∀ k,k∈seen->k∈ks)∧(∀ k,k∈ts->k∈ks)∧∀ k,k∈ks->∃ o,lk h k=some o∧∀ k',k'∈o.refs->k'∈ks
 | 0,ts,seen,ks,hr,_,_=>by cases hr
 | n+1,[],seen,ks,hr,hn,hc=>by
  injection hr with hr;subst hr
  exact⟨hn,fun _ h=>h,(fun k hk=>by cases hk),fun k hk=>by
   obtain⟨o,h1,h2⟩:=hc k hk
   exact⟨o,h1,fun k' hk'=>(h2 k' hk').elim id (fun h=>by cases h)⟩⟩
 | n+1,k :: ts,seen,ks,hr,hn,hc=>by
  unfold aOp at hr
  split at hr
  ·rename_i hs
   have hks:k∈seen:=by simpa using hs
   obtain⟨h1,h2,h3,h4⟩:=aJL n ts seen ks hr hn (fun k' hk'=>by
    obtain⟨o,g1,g2⟩:=hc k' hk'
    refine⟨o,g1,fun k2 hk2=>(g2 k2 hk2).elim .inl (fun hm=>?_)⟩
    rcases List.mem_cons.1 hm with rfl | hm
    ·exact .inl hks
    ·exact .inr hm)
   exact⟨h1,h2,fun k' hk'=>(List.mem_cons.1 hk').elim (fun e=>e▸h2 k hks) (h3 k'),h4⟩
  ·rename_i hs
   have hks:k ∉ seen:=by simpa using hs
   obtain⟨o,ho,hr⟩:=Option.bind_eq_some_iff.1 hr
   obtain⟨h1,h2,h3,h4⟩:=aJL n (o.refs++ts) (seen++[k]) ks hr (by
    rw[List.nodup_append]
    exact⟨hn,by simp,fun a ha b hb e=>hks (by
      have:b=k:=by simpa using hb
      subst this;rw[<- e];exact ha)⟩) (fun k' hk'=>by
    rcases List.mem_append.1 hk' with hk' | hk'
    ·obtain⟨o',g1,g2⟩:=hc k' hk'
     refine⟨o',g1,fun k2 hk2=>?_⟩
     rcases g2 k2 hk2 with hm | hm
     ·exact .inl (List.mem_append_left _ hm)
     ·rcases List.mem_cons.1 hm with rfl | hm
      ·exact .inl (List.mem_append_right _ (by simp))
      ·exact .inr (List.mem_append_right _ hm)
    ·have:k'=k:=by simpa using hk'
     subst this
     exact⟨o,ho,fun k2 hk2=>.inr (List.mem_append_left _ hk2)⟩)
   exact⟨h1,fun k' hk'=>h2 k' (List.mem_append_left _ hk'),fun k' hk'=>(List.mem_cons.1 hk').elim (fun e=>e▸h2 k (List.mem_append_right _ (by simp))) (fun hm=>h3 k' (List.mem_append_right _ hm)),h4⟩
theorem aJq:∀ (ks all:List Nat) (j:Nat) (h':aAR),aIg h ks all j=some h' ->
  (∀ i (hi:i<ks.length),∃ o,lk h ks[i]=some o∧lk h' (j+i)=some (o.ren (idx all)))∧(∀ x,x∈h'->j<=x.1∧x.1<j+ks.length∧lk h' x.1=some x.2)
 | [],all,j,h',hr=>by
  injection hr with hr;subst hr
  exact⟨fun i hi=>absurd hi (by simp),fun x hx=>by cases hx⟩
 | k :: ks,all,j,h',hr=>by
  obtain⟨o,ho,hr⟩:=Option.bind_eq_some_iff.1 hr
  obtain⟨t,ht,hr⟩:=Option.bind_eq_some_iff.1 hr
  injection hr with hr;subst hr
  obtain⟨h1,h2⟩:=aJq ks all (j+1) t ht
  refine⟨fun i hi=>?_,fun x hx=>?_⟩
  · cases i with
    | zero=>exact⟨o,ho,by rw[aAV,if_pos (by omega)]⟩
    | succ i=>
     obtain⟨o',g1,g2⟩:=h1 i (by simpa using hi)
     refine⟨o',g1,?_⟩
     rw[aAV,if_neg (by omega),show j+(i+1)=j+1+i from by omega]
     exact g2
  · rcases List.mem_cons.1 hx with rfl | hx
    ·exact⟨Nat.le_refl _,by simp,by rw[aAV,if_pos rfl]⟩
    ·obtain⟨g1,g2,g3⟩:=h2 x hx
     exact⟨by omega,by simp at g2 ⊢;omega,by rw[aAV,if_neg (by omega)];exact g3⟩
theorem aQ5:∀ {ks:List Nat} {k:Nat},k∈ks->idx ks k<ks.length∧ks[idx ks k]? = some k
 | [],k,hk=>by cases hk
 | a :: ks,k,hk=>by
  unfold idx
  split
  ·rename_i e;subst e;simp
  ·rename_i e
   have:k∈ks:=(List.mem_cons.1 hk).resolve_left (fun h=>e h.symm)
   obtain⟨h1,h2⟩:=aQ5 this
   exact⟨by simp;omega,by simpa using h2⟩
def aLU (φ:Lay)(ks:List Nat):Lay:=fun i=>(ks[i]?).bind φ
theorem aF8 {ks:List Nat}{k:Nat}(hk:k∈ks):aLU φ ks (idx ks k)=φ k:=by
 unfold aLU
 rw[(aQ5 hk).2]
 rfl
theorem aJV {ds ds':List D}{h':aAR}(hc:canon ds h=some (ds',h')):∃ ks:List Nat,ks.Nodup∧(∀ k,k∈D.refsL ds->k∈ks)∧(∀ k,k∈ks->∃ o,lk h k=some o∧∀ k',k'∈o.refs->k'∈ks)∧ds'=D.renL (idx ks) ds ∧
  (∀ i (hi:i<ks.length),∃ o,lk h ks[i]=some o∧lk h' i=some (o.ren (idx ks)))∧(∀ x,x∈h'->x.1<ks.length∧lk h' x.1=some x.2):=by
 unfold canon at hc
 obtain⟨ks,h1,hc⟩:=Option.bind_eq_some_iff.1 hc
 unfold bLO at hc
 obtain⟨h2,h3,hc⟩:=Option.bind_eq_some_iff.1 hc
 injection hc with hc
 injection hc with e1 e2
 subst e1 e2
 obtain⟨g1,_,g3,g4⟩:=aJL _ _ _ _ h1 (by simp) (fun k hk=>by cases hk)
 obtain⟨r1,r2⟩:=aJq ks ks 0 h2 h3
 exact⟨ks,g1,g3,g4,rfl,fun i hi=>by simpa using r1 i hi,fun x hx=>by obtain⟨_,q2,q3⟩:=r2 x hx;exact⟨by simpa using q2,q3⟩⟩
theorem aIj (f:Nat->Nat)(o:Ob):(o.ren f).mut=o.mut:=by cases o <;> rfl
theorem RepOb.ren {φ':Lay}{f:Nat->Nat}{k k':Nat}{o:Ob}(hr:RepOb fo φ Im w k o)(hk:φ' k'=φ k)(hf:∀ q,q∈o.refs->φ' (f q)=φ q):RepOb fo φ' Im w k' (o.ren f):=by
 cases o with
 | box cs=>
  obtain⟨g,e,vs,h1,h2,h3,h4,h5⟩:=hr
  refine⟨g,e,vs,hk.trans h1,h2,by simpa[aCd]using h3,fun d hd=>?_,fun i hi hi'=>?_⟩
  ·rw[aCd]at hd
   obtain⟨d',q1,rfl⟩:=List.mem_map.1 hd
   rw[aM2];exact h4 d' q1
  ·have hi2:i<cs.length:=by simpa[aCd]using hi
   have he:(D.renL f cs)[i]=(cs[i]).ren f:=by simp[aCd]
   rw[he]
   exact (h5 i hi2 hi').ren (fun q hq=>hf q (refsL_mem.2 ⟨_,List.getElem_mem _,hq⟩))
 | arr sz xs=>
  obtain⟨l,h1,h2⟩:=hr
  exact⟨l,hk.trans h1,h2⟩
 | frz sz xs=>
  obtain⟨l,h1,h2⟩:=hr
  exact⟨l,hk.trans h1,h2⟩
 | fbx vs=>
  obtain⟨g,h1,h2⟩:=hr
  exact⟨g,hk.trans h1,h2⟩
 | mp c es=>
  obtain⟨g,es',h1,h2⟩:=hr
  exact⟨g,es',hk.trans h1,h2⟩
 | dead=>trivial
theorem RepOb.flat {Im':Nat->Prop}{k:Nat}{o:Ob}(hr:RepOb fo φ Im w k o)(hf:o.flat=true):RepOb fo φ Im' w k o:=by
 cases o with
 | box cs=>
  obtain⟨g,e,vs,h1,h2,h3,h4,h5⟩:=hr
  exact⟨g,e,vs,h1,h2,h3,h4,fun i hi hi'=>(h5 i hi hi').flat (flatL_mem.1 hf _ (List.getElem_mem _))⟩
 | arr sz xs=>
  obtain⟨l,h1,h2,h3,h4,h5,h6,h7⟩:=hr
  refine⟨l,h1,h2,h3,h4,h5,h6,fun hre=>?_⟩
  obtain⟨c,e,g1,g2,g3⟩:=h7 hre
  refine⟨c,e,g1,g2,fun i j hi hj=>?_⟩
  obtain⟨x,q1,q2⟩:=g3 i j hi hj
  refine⟨x,q1,q2.flat ?_⟩
  have:=List.all_eq_true.1 hf _ (List.getElem_mem hi)
  exact List.all_eq_true.1 this _ (List.getElem_mem hj)
 | frz sz xs=>cases hf
 | fbx vs=>cases hf
 | mp c es=>
  obtain⟨g,es',h1,h2,h3,h4⟩:=hr
  refine⟨g,es',h1,h2,h3,fun i hi hi'=>?_⟩
  have:=List.all_eq_true.1 hf _ (List.getElem_mem hi)
  rw[Bool.and_eq_true]at this
  exact⟨(h4 i hi hi').1.flat this.1,(h4 i hi hi').2.1,(h4 i hi hi').2.2.flat this.2⟩
 | dead=>trivial
theorem HS.canon (hs:HS fo φ Im w h){ks:List Nat}(hn:ks.Nodup)(hclo:∀ k,k∈ks->∃ o,lk h k=some o∧∀ k',k'∈o.refs->k'∈ks){h':aAR}
  (h1:∀ i (hi:i<ks.length),∃ o,lk h ks[i]=some o∧lk h' i=some (o.ren (idx ks))) (h2:∀ x,x∈h'->x.1<ks.length∧lk h' x.1=some x.2) :
  HS fo (aLU φ ks) Im w h'∧∀ g,Own (aLU φ ks) h' g->∃ k o l,k∈ks∧lk h k=some o∧o.mut=true∧φ k=some l∧l.real=true∧l.blk=g:=by
 have get:∀ i o,lk h' i=some o->∃ (hi:i<ks.length) (o':Ob),lk h ks[i]=some o'∧o=o'.ren (idx ks)∧aLU φ ks i=φ ks[i]:=by
  intro i o ho
  have hi:=(h2 _ (aHT ho)).1
  obtain⟨o',g1,g2⟩:=h1 i hi
  rw[ho]at g2
  injection g2 with g2
  exact⟨hi,o',g1,g2,by simp[aLU,List.getElem?_eq_getElem hi]⟩
 have own:∀ g,Own (aLU φ ks) h' g->∃ k o l,k∈ks∧lk h k=some o∧o.mut=true∧φ k=some l∧l.real=true∧l.blk=g:=by
  rintro g ⟨i,o,l,p1,p2,p3,p4,rfl⟩
  obtain⟨hi,o',q1,rfl,q3⟩:=get i o p1
  exact⟨ks[i],o',l,List.getElem_mem _,q1,by rw[aIj]at p2;exact p2,by rw[<- q3];exact p3,p4,rfl⟩
 refine⟨⟨fun i o ho=>?_,fun i j o o' l l' p1 p2 m1 m2 f1 f2 r1 r2 hne=>?_,(fun g hg=>by obtain⟨k,o,l,_,q⟩:=own g hg;exact hs.imm g ⟨k,o,l,q⟩),hs.imb,fun i hi=>?_,hs.tb⟩,own⟩
 ·obtain⟨hi,o',q1,rfl,q3⟩:=get i o ho
  refine (hs.rep _ _ q1).ren q3 (fun q hq=>?_)
  obtain⟨o2,z1,z2⟩:=hclo ks[i] (List.getElem_mem _)
  rw[q1]at z1;injection z1 with z1;subst z1
  exact aF8 (z2 q hq)
 ·obtain⟨hi,o1,q1,rfl,q3⟩:=get i o p1
  obtain⟨hj,o2,u1,rfl,u3⟩:=get j o' p2
  rw[aIj]at m1 m2
  refine hs.sep ks[i] ks[j] o1 o2 l l' q1 u1 m1 m2 (by rw[<- q3];exact f1) (by rw[<- u3];exact f2) r1 r2 (fun he=>hne ?_)
  exact (List.getElem_inj hn).1 he
 ·unfold aLU
  rcases Nat.lt_or_ge i ks.length with hlt | hge
  · obtain⟨o,_,g2⟩:=h1 i hlt
    rw[hi]at g2;cases g2
  · rw[List.getElem?_eq_none hge];rfl
theorem HS.imup (hs:HS fo φ Im w h){Im':Nat->Prop}(hI:∀ g,Im g->Im' g)(hown:∀ g,Own φ h g->¬Im' g)(hb:∀ g,Im' g->g<w.heap.size):HS fo φ Im' w h:=
 ⟨fun k o hk=>(hs.rep k o hk).keep (fun _ _ h=>h) hI (fun _ _=>rfl) (fun _ _ _ _=>rfl),hs.sep,hown,hb,hs.dom,fun g o ho=>aH4 (hs.tb g o ho) (hI g) (fun _=>rfl)⟩
theorem aJb:∀ (n:Nat) (ts:List Nat) (seen:aAR) {k:aAR->M β},(∀ x,x∈seen->lk h x.1=some x.2)->(∀ x,x∈seen->∀ k',k'∈x.2.refs->(∃ o,(k',o)∈seen)∨k'∈ts)->(gath n ts seen k).run F ⟨e,h⟩=some r ->
  ∃ sub,(k sub).run F ⟨e,h⟩=some r∧(∀ x,x∈sub->lk h x.1=some x.2)∧(∀ x,x∈seen->x∈sub)∧(∀ k',k'∈ts->∃ o,(k',o)∈sub)∧∀ x,x∈sub->∀ k',k'∈x.2.refs->∃ o,(k',o)∈sub
 | 0,ts,seen,k,h1,h2,hr=>by cases hr
 | n+1,[],seen,k,h1,h2,hr=>⟨seen,hr,h1,fun _ h=>h,(fun k' hk=>by cases hk),fun x hx k' hk'=>(h2 x hx k' hk').elim id (fun h=>by cases h)⟩
 | n+1,key :: ts,seen,k,h1,h2,hr=>by
  unfold gath at hr
  split at hr
  ·rename_i hs
   obtain⟨o,ho⟩:=Option.isSome_iff_exists.1 hs
   obtain⟨sub,g1,g2,g3,g4,g5⟩:=aJb n ts seen h1 (fun x hx k' hk'=>by
    rcases h2 x hx k' hk' with hm | hm
    ·exact .inl hm
    ·rcases List.mem_cons.1 hm with rfl | hm
     ·exact .inl ⟨o,aHT ho⟩
     ·exact .inr hm) hr
   exact⟨sub,g1,g2,g3,fun k' hk'=>(List.mem_cons.1 hk').elim (fun e=>e▸⟨o,g3 _ (aHT ho)⟩) (g4 k'),g5⟩
  ·obtain⟨o,ho,hr⟩:=aBN hr
   obtain⟨sub,g1,g2,g3,g4,g5⟩:=aJb n (o.refs++ts) (seen++[(key,o)]) (fun x hx=>by
    rcases List.mem_append.1 hx with hx | hx
    ·exact h1 x hx
    ·have:x=(key,o):=by simpa using hx
     subst this;exact ho) (fun x hx k' hk'=>by
    rcases List.mem_append.1 hx with hx | hx
    ·rcases h2 x hx k' hk' with⟨o',hm⟩ | hm
     ·exact .inl ⟨o',List.mem_append_left _ hm⟩
     ·rcases List.mem_cons.1 hm with rfl | hm
      ·exact .inl ⟨o,List.mem_append_right _ (by simp)⟩
      ·exact .inr (List.mem_append_right _ hm)
    ·have:x=(key,o):=by simpa using hx
     subst this;exact .inr (List.mem_append_left _ hk')) hr
   exact⟨sub,g1,g2,fun x hx=>g3 x (List.mem_append_left _ hx),fun k' hk'=>(List.mem_cons.1 hk').elim (fun e=>e▸⟨o,g3 _ (List.mem_append_right _ (by simp))⟩) (fun hm=>g4 k' (List.mem_append_right _ hm)),g5⟩
theorem aJO:∀ (sub:aAR) {m:M β} {h:aAR},(kills sub m).run F ⟨e,h⟩=some r ->
  ∃ h1,m.run F ⟨e,h1⟩=some r∧∀ k,(lk h1 k=some .dead∧(∃ o,(k,o)∈sub∧o.mut=true))∨(lk h1 k=lk h k∧∀ o,(k,o)∈sub->o.mut=false)
 | [],m,h,hr=>⟨h,hr,fun k=>.inr ⟨rfl,fun o ho=>by cases ho⟩⟩
 | (key,o) :: sub,m,h,hr=>by
  unfold kills aNR at hr
  split at hr
  ·  rename_i hm
     obtain⟨_,_,hr⟩:=aFf hr
     obtain⟨h1,g1,g2⟩:=aJO sub hr
     refine⟨h1,g1,fun k=>?_⟩
     rcases g2 k with⟨q1,o',q2,q3⟩ | ⟨q1,q2⟩
     ·exact .inl ⟨q1,o',List.mem_cons_of_mem _ q2,q3⟩
     ·rw[aAV]at q1
      split at q1
      ·rename_i he;subst he
       exact .inl ⟨q1,o,List.mem_cons_self,hm⟩
      ·rename_i he
       refine .inr ⟨q1,fun o' ho'=>?_⟩
       rcases List.mem_cons.1 ho' with h2 | h2
       ·injection h2 with h3 h4;exact absurd h3.symm he
       ·exact q2 o' h2
  ·  rename_i hm
     obtain⟨h1,g1,g2⟩:=aJO sub hr
     refine⟨h1,g1,fun k=>?_⟩
     rcases g2 k with⟨q1,o',q2,q3⟩ | ⟨q1,q2⟩
     ·exact .inl ⟨q1,o',List.mem_cons_of_mem _ q2,q3⟩
     ·refine .inr ⟨q1,fun o' ho'=>?_⟩
      rcases List.mem_cons.1 ho' with h2 | h2
      ·injection h2 with h3 h4;subst h4;simpa using hm
      ·exact q2 o' h2
mutual
theorem D.same_eq:∀ (a b:D),a.same b=true->a=b
 | .own k,b,h=>by cases b <;> simp only[D.same,beq_iff_eq,Bool.false_eq_true]at h;rw[h]
 | .ptr k o,b,h=>by cases b <;> simp only[D.same,Bool.and_eq_true,beq_iff_eq,Bool.false_eq_true]at h;rw[h.1,h.2]
 | .mp k,b,h=>by cases b <;> simp only[D.same,beq_iff_eq,Bool.false_eq_true]at h;rw[h]
 | .fn v cs,b,h=>by
  cases b <;> simp only[D.same,Bool.and_eq_true,beq_iff_eq,Bool.false_eq_true]at h
  rw[h.1,D.sameL_eq cs _ h.2]
 | .p _,b,h=>by cases b <;> simp only[D.same,Bool.false_eq_true]at h
 | .arr _ _ _ _,b,h=>by cases b <;> simp only[D.same,Bool.false_eq_true]at h
 | .ep _ _ _,b,h=>by cases b <;> simp only[D.same,Bool.false_eq_true]at h
 | .ifc _ _ _,b,h=>by cases b <;> simp only[D.same,Bool.false_eq_true]at h
 | .agg _,b,h=>by cases b <;> simp only[D.same,Bool.false_eq_true]at h
 | .tup _,b,h=>by cases b <;> simp only[D.same,Bool.false_eq_true]at h
 | .und,b,h=>by cases b <;> simp only[D.same,Bool.false_eq_true]at h
theorem D.sameL_eq:∀ (a b:List D),D.sameL a b=true->a=b
 | [],[],_=>rfl
 | a :: r,b :: q,h=>by
  simp only[D.sameL,Bool.and_eq_true]at h
  rw[D.same_eq a b h.1,D.sameL_eq r q h.2]
 | [],_ :: _,h=>by simp only[D.sameL,Bool.false_eq_true]at h
 | _ :: _,[],h=>by simp only[D.sameL,Bool.false_eq_true]at h
end
theorem aLE {key:Nat}:∀ (cs ds pre:List D) {k:M β} {h:aAR},lk h key=some (.box (pre++cs))->cs.length=ds.length->(cput key pre.length cs ds k).run F ⟨e,h⟩=some r ->
  ∃ h1,k.run F ⟨e,h1⟩=some r∧lk h1 key=some (.box (pre++ds))∧∀ k',k'≠key->lk h1 k'=lk h k'
 | [],ds,pre,k,h,hl,hlen,hr=>by
  have:ds=[]:=List.eq_nil_of_length_eq_zero hlen.symm
  subst this
  exact⟨h,hr,hl,fun _ _=>rfl⟩
 | c :: cs,[],pre,k,h,hl,hlen,hr=>by cases hlen
 | c :: cs,d :: ds,pre,k,h,hl,hlen,hr=>by
  unfold cput aNR at hr
  have hp:∀ x:D,(pre++[x]).length=pre.length+1:=fun x=>by simp
  have ha:∀ x:D,∀ l:List D,pre++x :: l=pre++[x]++l:=fun x l=>by simp
  split at hr
  ·rename_i hs
   have:=D.same_eq _ _ hs
   subst this
   rw[<- hp c]at hr
   obtain⟨h1,g1,g2,g3⟩:=aLE cs ds (pre++[c]) (by rw[<- ha];exact hl) (by simpa using hlen) hr
   exact⟨h1,g1,by rw[ha];exact g2,g3⟩
  ·have hr':((lk h key).bind fun o=>(aHR o pre.length d).bind fun o'=>(cput key (pre.length+1) cs ds k).run F ⟨e,(key,o') :: h⟩)=some r:=hr
   rw[hl]at hr'
   obtain⟨o0,q0,hr1⟩:=Option.bind_eq_some_iff.1 hr'
   injection q0 with q0
   subst q0
   obtain⟨o',q1,hr2⟩:=Option.bind_eq_some_iff.1 hr1
   have q2:o'=.box (pre++d :: cs):=by
    simp only[aHR]at q1
    ·split at q1
     ·split at q1
      ·injection q1 with q1
       rw[<- q1]
       congr 1
       simp
      ·cases q1
     ·cases q1
   subst q2
   rw[<- hp d]at hr2
   obtain⟨h1,g1,g2,g3⟩:=aLE cs ds (pre++[d]) (h:=(key,.box (pre++d :: cs)) :: h) (by rw[aAV,if_pos rfl,<- ha]) (by simpa using hlen) hr2
   exact⟨h1,g1,by rw[ha];exact g2,fun k' hk'=>by rw[g3 k' hk',aAV,if_neg (fun e=>hk' e.symm)]⟩
theorem bEb {old:Nat}{o:Ob}{k:M β}{h:aAR}(hr:(M.get old (wrK old o k)).run F ⟨e,h⟩=some r):∃ h1,k.run F ⟨e,h1⟩=some r∧∀ k',lk h1 k'=if old=k' then some o else lk h k':=by
 obtain⟨cur,hc,hr⟩:=aBN hr
 have whole:(M.set old o k).run F ⟨e,h⟩=some r->∃ h1,k.run F ⟨e,h1⟩=some r∧∀ k',lk h1 k'=if old=k' then some o else lk h k':=fun hr=>by
  obtain⟨_,_,hr⟩:=aFf hr
  exact⟨_,hr,fun k'=>aAV _ _ _ _⟩
 cases cur with
 | box cs=>
  cases o with
  | box ds=>
   have hr:(aNR (cs.length == ds.length) (cput old 0 cs ds k) (.set old (.box ds) k)).run F ⟨e,h⟩=some r:=hr
   unfold aNR at hr
   split at hr
   ·rename_i hl
    obtain⟨h1,g1,g2,g3⟩:=aLE cs ds [] hc (by simpa using hl) hr
    refine⟨h1,g1,fun k'=>?_⟩
    by_cases c:old=k'
    ·subst c;rw[if_pos rfl];exact g2
    ·rw[if_neg c];exact g3 k' (fun e=>c e.symm)
   ·exact whole hr
  | _=>exact whole hr
 | _=>exact whole hr
theorem aK0 {nm:Nat}{m:List (Nat×Nat)}{f:Nat->Nat}(hf:f=aFK nm m):∀ (hh:aAR) {k:M β} {h:aAR},(writes m f hh k).run F ⟨e,h⟩=some r ->
  ∃ h1,k.run F ⟨e,h1⟩=some r∧(∀ key,(lk h1 key=lk h key∧∀ x,x∈hh->f x.1≠key)∨∃ x,x∈hh∧f x.1=key∧lk h1 key=some (x.2.ren f))∧(∀ x,x∈hh->lkN m x.1=none->lk h (f x.1)=none)∧∀ x,x∈hh->(lk h1 (f x.1)).isSome=true
 | [],k,h,hr=>⟨h,hr,fun key=>.inl ⟨rfl,fun x hx=>by cases hx⟩,(fun x hx=>by cases hx),fun x hx=>by cases hx⟩
 | (key,o) :: hh,k,h,hr=>by
  unfold writes at hr
  have main:∀ (h0:aAR),(∀ k',lk h0 k'=if f key=k' then some (o.ren f)else lk h k')->(writes m f hh k).run F ⟨e,h0⟩=some r->(lkN m key=none->lk h (f key)=none) ->
      ∃ h1,k.run F ⟨e,h1⟩=some r∧(∀ key',(lk h1 key'=lk h key'∧∀ x,x∈(key,o) :: hh->f x.1≠key')∨∃ x,x∈(key,o) :: hh∧f x.1=key'∧lk h1 key'=some (x.2.ren f))∧(∀ x,x∈(key,o) :: hh->lkN m x.1=none->lk h (f x.1)=none)∧∀ x,x∈(key,o) :: hh->(lk h1 (f x.1)).isSome=true:=by
     intro h0 e0 hr hnew
     obtain⟨h1,g1,g2,g3,g4⟩:=aK0 hf hh hr
     refine⟨h1,g1,fun key'=>?_,fun x hx hxn=>?_,fun x hx=>?_⟩
     ·rcases g2 key' with⟨q1,q2⟩ | ⟨x,q1,q2,q3⟩
      ·rw[e0]at q1
       split at q1
       ·rename_i he
        exact .inr ⟨_,List.mem_cons_self,he,q1⟩
       ·rename_i he
        refine .inl ⟨q1,fun x hx=>?_⟩
        rcases List.mem_cons.1 hx with rfl | hx
        ·exact he
        ·exact q2 x hx
      ·exact .inr ⟨x,List.mem_cons_of_mem _ q1,q2,q3⟩
     ·rcases List.mem_cons.1 hx with rfl | hx
      ·exact hnew hxn
      ·have:=g3 x hx hxn
       rw[e0]at this
       split at this
       ·cases this
       ·exact this
     ·rcases List.mem_cons.1 hx with rfl | hx
      ·rcases g2 (f key)with⟨q1,_⟩ | ⟨x,_,_,q3⟩
       ·rw[q1,e0,if_pos rfl];rfl
       ·rw[q3];rfl
      ·exact g4 x hx
  split at hr
  ·  rename_i old hold
     obtain⟨h0,hr,e0⟩:=bEb hr
     have:f key=old:=by rw[hf];simp[aFK,hold]
     exact main h0 (by rw[this];exact e0) hr (fun hh=>by rw[hold]at hh;cases hh)
  ·  rename_i hnone
     obtain⟨hn,hr⟩:=aFd hr
     exact main _ (fun k'=>aAV _ _ _ _) hr (fun _=>hn)
end
end Am
end Go.Proofs.YtkmbhgggpfbffaaGreatDoor
