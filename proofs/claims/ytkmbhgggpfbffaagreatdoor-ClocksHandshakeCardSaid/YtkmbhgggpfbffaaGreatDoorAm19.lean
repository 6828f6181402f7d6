/- Calls. -/
import Derived.Test.YtkmbhgggpfbffaaGreatDoorAm18
set_option linter.unusedVariables false
set_option linter.unusedSimpArgs false
set_option linter.constructorNameAsVariable false
namespace Go.Proofs.YtkmbhgggpfbffaaGreatDoor
namespace Am
mutual
theorem aMW (f:Nat->Nat):∀ d:D,(d.ren f).refs=d.refs.map f
 | .p u=>rfl
 | .own k=>rfl
 | .arr k off len ap=>rfl
 | .ptr k off=>rfl
 | .ep k i off=>rfl
 | .mp k=>rfl
 | .fn v caps=>aE4 f caps
 | .ifc t a xs=>aE4 f xs
 | .agg xs=>aE4 f xs
 | .tup xs=>aE4 f xs
 | .und=>rfl
theorem aE4 (f:Nat->Nat):∀ ds:List D,D.refsL (D.renL f ds)=(D.refsL ds).map f
 | []=>rfl
 | d :: ds=>by simp only[D.renL,D.refsL,List.map_append,aMW f d,aE4 f ds]
end
mutual
theorem aXJ (f:Nat->Nat):∀ d:D,(d.ren f).boxy=d.boxy
 | .p u=>rfl
 | .own k=>rfl
 | .arr k off len ap=>rfl
 | .ptr k off=>rfl
 | .ep k i off=>rfl
 | .mp k=>rfl
 | .fn v caps=>aH2 f caps
 | .ifc t a xs=>aH2 f xs
 | .agg xs=>aH2 f xs
 | .tup xs=>aH2 f xs
 | .und=>rfl
theorem aH2 (f:Nat->Nat):∀ ds:List D,D.boxyL (D.renL f ds)=D.boxyL ds
 | []=>rfl
 | d :: ds=>by simp only[D.renL,D.boxyL,aXJ f d,aH2 f ds]
end
section
variable {P:Program} {fo:Fo} {vm:FuncId->Nat} {φ:Lay} {Im:Nat->Prop} {w:World} {h:aAR} {a:Act} {av:List Value} {e:Env} {F:Cf} {β:Type} {r:β×St}
def Lands (P:Program)(X:Sem Next)(w:World)(Post:Value->World->Prop):Prop:=
 match X.run P w with
 | .ok (.value v) w'=>Post v w'
 | .ok .skip w'=>Post undef w'
 | .ok (.enter f args) w'=>Calls P f args w' fun e w''=>∃ v,e=.returned v∧Post v w''
 | _=>False
theorem Lands.mono {X:Sem Next}{Post Post':Value->World->Prop}(hl:Lands P X w Post)(hp:∀ v w',Post v w'->Post' v w'):Lands P X w Post':=by
 unfold Lands at *
 split at hl
 ·exact hp _ _ hl
 ·exact hp _ _ hl
 ·exact hl.mono fun e w'' ⟨v,h1,h2⟩=>⟨v,h1,hp _ _ h2⟩
 ·exact hl.elim
theorem Lands.same {X Y:Sem Next}{Post:Value->World->Prop}(hl:Lands P X w Post)(he:Y.run P w=X.run P w):Lands P Y w Post:=by
 unfold Lands at *
 rw[he];exact hl
def Pst (fo:Fo)(φ:Lay)(Im:Nat->Prop)(w:World)(h:aAR)(e:Env)(F:Cf){β:Type}(r:β×St)(k:D->M β)(v:Value)(w':World):Prop:=
 ∃ d φ' Im' h',(k d).run F ⟨e,h'⟩=some r∧Stp fo φ Im w h φ' Im' w' h'∧RepD fo φ' Im' w' d v
theorem Good.lands {X:Sem Next}{k:D->M β}(g:Good P fo φ Im w h e F r X k):Lands P X w (Pst fo φ Im w h e F r k):=by
 obtain⟨d,φ',Im',w',h',v,h1,h2,h3,h4⟩:=g
 unfold Lands
 rcases h4 with h4 | ⟨h4,rfl⟩
 ·rw[h4];exact⟨d,φ',Im',h',h1,h2,h3⟩
 ·rw[h4];exact⟨d,φ',Im',h',h1,h2,h3⟩
def aC2 (fo:Fo)(φ:Lay)(Im:Nat->Prop)(w:World)(h:aAR)(ds:List D)(args:List Value)(roots:List Nat)(res:List D)(h2:aAR)(x:Value)(w':World):Prop:=
 ∃ φ2 Im2 g,Fr fo w (Own φ h) Im φ2 Im2 w' h2∧RepD fo φ2 Im2 w' (aId res) x∧roots=(D.refsL ds).map g∧RepDs fo φ2 Im2 w' (D.renL g ds) args∧(∀ x,x∈h2->lk h2 x.1=some x.2)∧∀ k,k∈D.refsL ds->∃ l,φ k=some l∧φ2 (g k)=some l
def aD0 (P:Program)(fo:Fo)(F:Cf):Prop:=∀ v f ds h roots res h2,fo v=some f->F v ds h=some (roots,res,h2) ->
 ∀ φ Im w args gv,HS fo φ Im w h->RepDs fo φ Im w ds args->RepDs fo φ Im w (aFi ds h) gv->Lands P (callFunc f args.toArray) w (aC2 fo φ Im w h (ds++aFi ds h) (args++gv) roots res h2)
theorem aLy {Im:Nat->Prop}{cs ds:List D}{us vs:List Value}(h1:RepDs fo φ Im w cs us)(h2:RepDs fo φ Im w ds vs):RepDs fo φ Im w (cs++ds) (us++vs):=by
 refine⟨by simp[h1.1,h2.1],fun i hi hi'=>?_⟩
 by_cases hlt:i<cs.length
 ·rw[List.getElem_append_left hlt,List.getElem_append_left (by rw[<- h1.1];exact hlt)]
  exact h1.2 i hlt _
 ·have h3:i-us.length<vs.length:=by rw[<- h2.1,<- h1.1];simp at hi;omega
  have hq:∀ (n:Nat),n=us.length->∀ (hi2:i-n<ds.length),RepD fo φ Im w ds[i-n] vs[i-us.length]:=fun n hn hi2=>by subst hn;exact h2.2 _ hi2 h3
  rw[List.getElem_append_right (by omega),List.getElem_append_right (by rw[<- h1.1];omega)]
  exact hq _ h1.1 _
theorem aQB {Im:Nat->Prop}(hs:HS fo φ Im w h)(ds:List D):∀ (s:aAR),(∀ x,x∈s->lk h x.1=some x.2)->∃ gv,RepDs fo φ Im w (aFi ds s) gv
 | [],_=>⟨[],rfl,fun i hi=>absurd hi (by simp[aFi])⟩
 | x :: r,hx=>by
  obtain⟨gv,hg⟩:=aQB hs ds r fun y hy=>hx y (List.mem_cons_of_mem _ hy)
  have h0:=hx x List.mem_cons_self
  obtain⟨k,o⟩:=x
  unfold aFi
  split
  ·exact⟨gv,hg⟩
  ·have one:∀ (d:D) (v:Value),RepD fo φ Im w d v->∃ gv',RepDs fo φ Im w ([d]++aFi ds r) gv':=fun d v hd=>⟨[v]++gv,aLy ⟨rfl,fun i hi hi'=>by
    have:i=0:=by simp at hi;omega
    subst this;exact hd⟩ hg⟩
   have hrp:=hs.rep k o h0
   cases o with
   | box cs=>obtain⟨g,_,_,h1,_⟩:=hrp;exact one _ _ (.ptr k 0 g h1)
   | mp c es=>obtain⟨g,_,h1,_⟩:=hrp;exact one _ _ (.mp k g h1)
   | _=>exact⟨gv,hg⟩
theorem aOr (ds:List D):∀ (s:aAR) (d:D),d∈aFi ds s->d.boxy=true
 | [],d,hd=>by cases hd
 | (k,o) :: r,d,hd=>by
  unfold aFi at hd
  split at hd
  ·  exact aOr ds r d hd
  ·  rcases List.mem_append.1 hd with hd | hd
     ·cases o <;> simp[bG6]at hd <;> subst hd <;> rfl
     ·exact aOr ds r d hd
theorem aJu:∀ {a b:List D},aLW a b=true->a=b
 | [],[],_=>rfl
 | .ptr k o :: r,.ptr k' o' :: q,h=>by
  simp only[aLW,Bool.and_eq_true,beq_iff_eq]at h
  rw[h.1.1,h.1.2,aJu h.2]
 | .mp k :: r,.mp k' :: q,h=>by
  simp only[aLW,Bool.and_eq_true,beq_iff_eq]at h
  rw[h.1,aJu h.2]
 | a,b,h=>by
  unfold aLW at h
  split at h
  ·rfl
  ·rename_i k o r k' o' q
   simp only[Bool.and_eq_true,beq_iff_eq]at h
   rw[h.1.1,h.1.2,aJu h.2]
  ·rename_i k r k' q
   simp only[Bool.and_eq_true,beq_iff_eq]at h
   rw[h.1,aJu h.2]
  ·cases h
inductive Rch (h:aAR) (ts:List Nat):Nat->Prop
 | base (k:Nat) (hk:k∈ts):Rch h ts k
 | step (k k':Nat) (o:Ob) (hr:Rch h ts k) (hk:lk h k=some o) (hm:k'∈o.refs):Rch h ts k'
theorem bCv (h:aAR)(ts:List Nat):Clo h (Rch h ts):=fun key o hk ho k' hm=>.step key k' o hk ho hm
theorem aNG {d:D}{v:Value}(hd:RepD fo φ Im w d v):∀ k,k∈d.refs->∃ l,φ k=some l:=by
 have list:∀ (xs:List D) (n:Nat),xs.length=n->(∀ i (hi:i<xs.length) (hi':i<n),∀ k,k∈xs[i].refs->∃ l,φ k=some l)->∀ k,k∈D.refsL xs->∃ l,φ k=some l:=by
  intro xs n hn ih k hk
  obtain⟨d,h1,h2⟩:=refsL_mem.1 hk
  obtain⟨i,hi,rfl⟩:=List.getElem_of_mem h1
  exact ih i hi (by omega) k h2
 induction hd with
 | p u x h=>intro k hk;simp[D.refs]at hk
 | own k l a0 h=>
   intro k' hk;have:k'=k:=by simpa[D.refs]using hk
   subst this;exact⟨l,h⟩
 | arr k off n ap l a c h h1 h2 h3 h4 h5=>
   intro k' hk;have:k'=k:=by simpa[D.refs]using hk
   subst this;exact⟨l,h⟩
 | ptr k off g h=>
   intro k' hk;have:k'=k:=by simpa[D.refs]using hk
   subst this;exact⟨_,h⟩
 | ep k i off l h hi hr=>
   intro k' hk;have:k'=k:=by simpa[D.refs]using hk
   subst this;exact⟨l,h⟩
 | mp k g h=>
   intro k' hk;have:k'=k:=by simpa[D.refs]using hk
   subst this;exact⟨_,h⟩
 | fn v f caps vs hf hl hr ih=>exact list caps vs.length hl ih
 | if1 t x v ho hr ih=>intro k hk;exact ih k (by simpa[D.refs,D.refsL]using hk)
 | if2 t xs vs hl ho hr ih=>exact list xs vs.length hl ih
 | agg xs vs hl ho hr ih=>exact list xs vs.length hl ih
 | tup xs vs hl hr ih=>exact list xs vs.length hl ih
 | und=>intro k hk;simp[D.refs]at hk
theorem aTn {k:Nat}{o:Ob}(hr:RepOb fo φ Im w k o):∀ q,q∈o.refs->∃ l,φ q=some l:=by
 cases o with
 | box cs=>
  obtain⟨g,e,vs,h1,h2,h3,h4,h5⟩:=hr
  intro q hq
  obtain⟨d,q1,q2⟩:=refsL_mem.1 hq
  obtain⟨i,hi,rfl⟩:=List.getElem_of_mem q1
  exact aNG (h5 i hi (by omega)) q q2
 | _=>intro q hq;simp[Ob.refs]at hq
theorem aWG:∀ {m:List (Nat×Nat)} {j old:Nat},lkN m j=some old->(j,old)∈m
 | [],j,old,hm=>by cases hm
 | (k,x) :: m,j,old,hm=>by
  unfold lkN at hm
  split at hm
  ·  rename_i he;injection hm with hm;subst he hm;exact List.mem_cons_self
  ·  exact List.mem_cons_of_mem _ (aWG hm)
theorem aSd {K:Nat->Prop}(hs:HS fo φ Im w h)(hclo:Clo h K){d:D}{v:Value}(hd:RepD fo φ Im w d v)(hK:∀ key,key∈d.refs->K key){k:D->M β}(hr:(aW2 false k d).run F ⟨e,h⟩=some r) :
  ∃ d',(k d').run F ⟨e,h⟩=some r∧RepD fo φ (fun g=>Im g∨Bl φ h K g) w d' v:=by
 unfold aW2 at hr
 split at hr
 ·rename_i xs
  cases hd with
  | agg xs vs hl ho hrr=>
   obtain⟨us,g1,g2,g3⟩:=aN2 hs hclo 300 xs _ vs hl hrr hK hr
   refine⟨_,g1,.agg _ vs (by simpa using g2) (fun d hd=>?_) (fun i hi hi'=>?_)⟩
   ·obtain⟨u,_,rfl⟩:=List.mem_map.1 hd;rfl
   ·simp only[List.getElem_map];exact .p _ _ (g3 i (by simpa using hi) hi')
 ·obtain⟨u,g1,g2⟩:=aX4 hs hclo 300 d _ v hd hK hr
  exact⟨_,g1,.p u v g2⟩
theorem aYg (hs:HS fo φ Im w h){d:D}{v:Value}(hd:RepD fo φ Im w d v){k:D->M β}(hr:(aW2 true k d).run F ⟨e,h⟩=some r) :
  ∃ d' Im' h',(k d').run F ⟨e,h'⟩=some r∧Stp fo φ Im w h φ Im' w h'∧RepD fo φ Im' w d' v:=by
 unfold aW2 at hr
 split at hr
 ·rename_i xs
  cases hd with
  | agg xs vs hl ho hrr=>
   obtain⟨us,Im',h',g1,s1,g2,g3,_⟩:=aJw 300 xs _ φ Im h vs hs hl hrr hr
   refine⟨_,Im',h',g1,s1,.agg _ vs (by simpa using g2) (fun d hd=>?_) (fun i hi hi'=>?_)⟩
   ·obtain⟨u,_,rfl⟩:=List.mem_map.1 hd;rfl
   ·simp only[List.getElem_map];exact .p _ _ (g3 i (by simpa using hi) hi')
 ·obtain⟨u,Im',h',g1,s1,g2,_⟩:=aNj 300 d _ φ Im h v hs hd hr
  exact⟨_,Im',h',g1,s1,.p u v g2⟩
theorem cells_refs {d:D}{key:Nat}:key∈D.refsL d.cells↔key∈d.refs:=by
 cases d <;> simp[D.cells,D.refsL,D.refs]
theorem aO8 {K:Nat->Prop}(hs:HS fo φ Im w h)(hclo:Clo h K):∀ (ds:List D) (ms:List Nat) (vs:List Value) {k:List D->M β},(∀ i,i<ds.length->ms.getD i 0≠1)->RepDs fo φ Im w ds vs->(∀ key,key∈D.refsL (aL3 ms ds)->K key)->(aJN ms ds k).run F ⟨e,h⟩=some r ->
  ∃ ds',(k ds').run F ⟨e,h⟩=some r∧RepDs fo φ (fun g=>Im g∨Bl φ h K g) w ds' vs
 | [],ms,vs,k,_,hrep,_,hr=>by
  have:vs=[]:=List.eq_nil_of_length_eq_zero hrep.1.symm
  subst this
  exact⟨[],hr,rfl,fun i hi=>absurd hi (by simp)⟩
 | d :: ds,ms,[],k,_,hrep,_,hr=>by have:=hrep.1;simp at this
 | d :: ds,ms,v :: vs,k,hm,hrep,hK,hr=>by
  have hh:ms.headD 0=ms.getD 0 0:=by cases ms <;> rfl
  have ht:∀ i,ms.tail.getD i 0=ms.getD (i+1) 0:=by intro i;cases ms <;> rfl
  have hm0:ms.headD 0≠1:=by rw[hh];exact hm 0 (by simp)
  have hm1:∀ i,i<ds.length->ms.tail.getD i 0≠1:=fun i hi=>by rw[ht];exact hm (i+1) (by simpa using hi)
  have hrep1:RepDs fo φ Im w ds vs:=⟨by have:=hrep.1;simpa using this,fun i hi hi'=>hrep.2 (i+1) (by simpa using hi) (by simpa using hi')⟩
  have hK1:∀ key,key∈D.refsL (aL3 ms.tail ds)->K key:=fun key hk=>hK key (by
   unfold aL3
   split
   ·exact hk
   ·obtain⟨d',h1,h2⟩:=refsL_mem.1 hk
    exact refsL_mem.2 ⟨d',List.mem_append_right _ h1,h2⟩)
  have fin:∀ d',RepD fo φ (fun g=>Im g∨Bl φ h K g) w d' v->(aJN ms.tail ds fun ds=>k (d' :: ds)).run F ⟨e,h⟩=some r->∃ ds',(k ds').run F ⟨e,h⟩=some r∧RepDs fo φ (fun g=>Im g∨Bl φ h K g) w ds' (v :: vs):=by
   intro d' hd' g
   obtain⟨ds',g2,g3,g4⟩:=aO8 hs hclo ds ms.tail vs hm1 hrep1 hK1 g
   refine⟨_,g2,by simp[g3],fun i hi hi'=>?_⟩
   cases i with
   | zero=>exact hd'
   | succ i=>exact g4 i (by simpa using hi) (by simpa using hi')
  have hd:RepD fo φ Im w d v:=hrep.2 0 (by simp) (by simp)
  unfold aJN bGw at hr
  split at hr
  ·exact fin d (hd.mono (fun _ _ h=>h) (fun _ h=>.inl h) (fun _ _=>rfl)) hr
  ·rename_i h1;exact absurd h1 hm0
  ·rename_i hn2 hn1
   obtain⟨d',g1,g2⟩:=aSd hs hclo hd (fun key hk=>hK key (by
    unfold aL3
    rw[if_neg (by
     rintro (h1 | h1 | h1)
     ·exact hn1 h1
     ·exact hn2 h1
     ·have:D.refs d=[]:=by simpa using h1
      rw[this]at hk;cases hk)]
    obtain⟨d2,q1,q2⟩:=refsL_mem.1 (cells_refs.2 hk)
    exact refsL_mem.2 ⟨d2,List.mem_append_left _ q1,q2⟩)) hr
   exact fin d' g2 g1
theorem aRc:∀ (ds:List D) (ms:List Nat) (vs:List Value) {Im:Nat->Prop} {h:aAR} {k:List D->M β},HS fo φ Im w h->(∀ i,i<ds.length->ms.getD i 0=1∨ms.getD i 0=2)->RepDs fo φ Im w ds vs->(aJN ms ds k).run F ⟨e,h⟩=some r ->
  ∃ ds' Im' h',(k ds').run F ⟨e,h'⟩=some r∧Stp fo φ Im w h φ Im' w h'∧RepDs fo φ Im' w ds' vs∧aL3 ms ds=[]
 | [],ms,vs,Im,h,k,hs,_,hrep,hr=>by
  have:vs=[]:=List.eq_nil_of_length_eq_zero hrep.1.symm
  subst this
  exact⟨[],Im,h,hr,.refl hs,⟨rfl,fun i hi=>absurd hi (by simp)⟩,rfl⟩
 | d :: ds,ms,[],Im,h,k,hs,_,hrep,hr=>by have:=hrep.1;simp at this
 | d :: ds,ms,v :: vs,Im,h,k,hs,hm,hrep,hr=>by
  have hh:ms.headD 0=ms.getD 0 0:=by cases ms <;> rfl
  have ht:∀ i,ms.tail.getD i 0=ms.getD (i+1) 0:=by intro i;cases ms <;> rfl
  have hm0:ms.headD 0=1∨ms.headD 0=2:=by rw[hh];exact hm 0 (by simp)
  have hm1:∀ i,i<ds.length->ms.tail.getD i 0=1∨ms.tail.getD i 0=2:=fun i hi=>by rw[ht];exact hm (i+1) (by simpa using hi)
  have hrep1:RepDs fo φ Im w ds vs:=⟨by have:=hrep.1;simpa using this,fun i hi hi'=>hrep.2 (i+1) (by simpa using hi) (by simpa using hi')⟩
  have hl:aL3 ms (d :: ds)=aL3 ms.tail ds:=by
   show (if _ then _ else _)=_
   rw[if_pos (hm0.elim .inl fun h=>.inr (.inl h))]
  have fin:∀ d' Im1 h1,HS fo φ Im1 w h1->RepD fo φ Im1 w d' v->Stp fo φ Im w h φ Im1 w h1->(aJN ms.tail ds fun ds=>k (d' :: ds)).run F ⟨e,h1⟩=some r ->
    ∃ ds' Im' h',(k ds').run F ⟨e,h'⟩=some r∧Stp fo φ Im w h φ Im' w h'∧RepDs fo φ Im' w ds' (v :: vs)∧aL3 ms (d :: ds)=[]:=by
   intro d' Im1 h1 hs1 hd' s1 g
   obtain⟨ds',Im2,h2,g2,s2,⟨g3,g4⟩,g5⟩:=aRc ds ms.tail vs hs1 hm1 ⟨hrep1.1,fun i hi hi'=>(hrep1.2 i hi hi').stp hs s1⟩ g
   refine⟨_,Im2,h2,g2,s1.trans s2,⟨by simp[g3],fun i hi hi'=>?_⟩,by rw[hl];exact g5⟩
   cases i with
   | zero=>exact hd'.stp hs1 s2
   | succ i=>exact g4 i (by simpa using hi) (by simpa using hi')
  have hd:RepD fo φ Im w d v:=hrep.2 0 (by simp) (by simp)
  unfold aJN bGw at hr
  split at hr
  ·exact fin d Im h hs hd (.refl hs) hr
  ·obtain⟨d',Im1,h1,g1,s1,g2⟩:=aYg hs hd hr
   exact fin d' Im1 h1 s1.fr.hs g2 s1 g1
  ·rename_i hn2 hn1
   rcases hm0 with h1 | h1
   ·exact absurd h1 hn1
   ·exact absurd h1 hn2
theorem aLc (hs:HS fo φ Im w h){ds:List D}{ms:List Nat}{vs:List Value}{k:List D->M β}(hm:okM ms ds.length=true)(hrep:RepDs fo φ Im w ds vs)(hr:(aJN ms ds k).run F ⟨e,h⟩=some r) :
  ∃ ds' Im' h',(k ds').run F ⟨e,h'⟩=some r∧Stp fo φ Im w h φ Im' w h'∧RepDs fo φ (fun g=>Im' g∨Bl φ h' (Rch h' (D.refsL (aL3 ms ds))) g) w ds' vs:=by
 unfold okM at hm
 rw[Bool.or_eq_true]at hm
 rcases hm with hm | hm
 ·obtain⟨ds',g1,g2⟩:=aO8 hs (bCv h (D.refsL (aL3 ms ds))) ds ms vs (fun i hi=>by
   have:=List.all_eq_true.1 hm i (List.mem_range.2 hi)
   simpa using this) hrep (fun key hk=>.base key hk) hr
  exact⟨ds',Im,h,g1,.refl hs,g2⟩
 ·obtain⟨ds',Im',h',g1,g2,g3,g4⟩:=aRc ds ms vs hs (fun i hi=>by
   have:=List.all_eq_true.1 hm i (List.mem_range.2 hi)
   simpa using this) hrep hr
  exact⟨ds',Im',h',g1,g2,g3.mono (fun _ _ h=>h) (fun _ h=>.inl h) (fun _ _=>rfl)⟩
theorem Ob.same_eq {a b:Ob}(h:a.same b=true):a=b:=by
 cases a <;> cases b <;> simp only[Ob.same,Bool.false_eq_true]at h
 rw[D.sameL_eq _ _ h]
theorem aVm {m:List (Nat×Nat)}{f:Nat->Nat}{sub:aAR}{x:Nat×Ob}(h:bKw m f sub x=true):∃ old,lkN m x.1=some old∧lk sub old=some (x.2.ren f):=by
 unfold bKw at h
 split at h
 ·rename_i old ho
  split at h
  ·rename_i o hl
   exact⟨old,ho,by rw[hl,Ob.same_eq h]⟩
  ·cases h
 ·cases h
theorem V.scq_eq:∀ {x y:V},x.scq y=true->x=y
 | .i k n,y,h=>by
  cases y <;> simp only[V.scq,Bool.and_eq_true,decide_eq_true_eq,Bool.false_eq_true]at h
  rw[h.1,h.2]
 | .b n,y,h=>by
  cases y <;> simp only[V.scq,beq_iff_eq,Bool.false_eq_true]at h
  rw[h]
 | .s n,y,h=>by
  cases y <;> simp only[V.scq,decide_eq_true_eq,Bool.false_eq_true]at h
  rw[h]
 | .sl _ _,y,h=>by cases y <;> cases h
 | .cp _,y,h=>by cases y <;> cases h
 | .fn _ _,y,h=>by cases y <;> cases h
 | .nl _,y,h=>by cases y <;> cases h
 | .ifc _ _ _,y,h=>by cases y <;> cases h
theorem aZL:∀ {a b:List (V×Nat×V)},mpq a b=true->a=b
 | [],[],_=>rfl
 | x :: r,y :: q,h=>by
  simp only[mpq,Bool.and_eq_true,beq_iff_eq]at h
  obtain⟨x1,x2,x3⟩:=x
  obtain⟨y1,y2,y3⟩:=y
  have e1:x1=y1:=V.scq_eq h.1
  have e2:x2=y2:=h.2.1
  have e3:x3=y3:=V.scq_eq h.2.2.1
  rw[aZL h.2.2.2,e1,e2,e3]
 | [],_ :: _,h=>by cases h
 | _ :: _,[],h=>by cases h
theorem aLn {kp:Bool}{m:List (Nat×Nat)}{sub:aAR}:∀ (hh:aAR) {k:M β} {s:St},(aXx kp m sub hh k).run F s=some r->k.run F s=some r∧∀ x,x∈hh->∀ o,bFP kp m sub x=some o->o=x.2
 | [],k,s,hr=>⟨hr,fun x hx=>by cases hx⟩
 | y :: hh,k,s,hr=>by
  unfold aXx at hr
  split at hr
  ·rename_i o ho
   obtain⟨h1,hr⟩:=aAU hr
   obtain⟨g1,g2⟩:=aLn hh hr
   refine⟨g1,fun x hx o' ho'=>?_⟩
   rcases List.mem_cons.1 hx with rfl | hx
   ·rw[ho]at ho'
    injection ho' with ho'
    subst ho'
    obtain⟨y1,y2⟩:=x
    cases o <;> cases y2 <;> simp only[Ob.mpSame,Bool.and_eq_true,beq_iff_eq,Bool.false_eq_true]at h1
    rw[h1.1,aZL h1.2]
   ·exact g2 x hx o' ho'
  ·rename_i hn
   obtain⟨g1,g2⟩:=aLn hh hr
   refine⟨g1,fun x hx o' ho'=>?_⟩
   rcases List.mem_cons.1 hx with rfl | hx
   ·rw[hn]at ho';cases ho'
   ·exact g2 x hx o' ho'
theorem aL4 {kp:Bool}{m:List (Nat×Nat)}{f:Nat->Nat}{sub:aAR}{x:Nat×Ob}(hk:∀ o,bFP kp m sub x=some o->o=x.2)(h:aPy kp m f sub x=true):∃ old,lkN m x.1=some old∧lk sub old=some (x.2.ren f):=by
 unfold aPy at h
 rw[Bool.or_eq_true]at h
 rcases h with h | h
 ·exact aVm h
 ·obtain⟨o,ho⟩:=Option.isSome_iff_exists.1 h
  have e:=hk o ho
  subst e
  unfold bFP at ho
  split at ho
  ·rename_i old hl
   split at ho
   ·rename_i o' ho'
    split at ho
    ·rename_i hm
     injection ho with ho
     refine⟨old,hl,?_⟩
     rw[ho',ho]
     obtain⟨x1,x2⟩:=x
     dsimp only at *
     subst ho
     cases o' with
     | mp c es=>rfl
     | _=>cases hm
    ·cases ho
   ·cases ho
  ·cases ho
theorem aIR (hF:aD0 P fo F)(hs:HS fo φ Im w h){kp:Bool}{nm v:Nat}{f:FuncId}(hv:fo v=some f){bs ds:List D}{args:List Value}(hrep:RepDs fo φ (fun g=>Im g∨Bl φ h (Rch h (D.refsL bs)) g) w ds args){k:D->M β}
  (hr:(callO kp nm v bs k ds).run F ⟨e,h⟩=some r):Lands P (callFunc f args.toArray) w (Pst fo φ Im w h e F r k):=by
 obtain⟨sub,hr1,s1,_,s3,s4⟩:=aJb 1000 (D.refsL ds) [] (fun x hx=>by cases hx) (fun x hx=>by cases hx) hr
 obtain⟨bsub,hr2,b1,_,b3,b4⟩:=aJb 1000 (D.refsL bs) [] (fun x hx=>by cases hx) (fun x hx=>by cases hx) hr1
 obtain⟨hdis,hr3⟩:=aAU hr2
 obtain⟨⟨dc,hc⟩,hcan,hr4⟩:=aBO hr3
 obtain⟨hsame,hr4⟩:=aAU hr4
 obtain⟨⟨roots,res,h2⟩,hcall,hr5⟩:=Option.bind_eq_some_iff.1 hr4
 have hsub0:∀ x,x∈sub->lk h x.1=some x.2:=fun x hx=>s1 x hx
 obtain⟨gv,hgv⟩:=aQB hs ds sub hsub0
 have hrep0:=hrep
 have hrep:RepDs fo φ (fun g=>Im g∨Bl φ h (Rch h (D.refsL bs)) g) w (ds++aFi ds sub) (args++gv):=aLy hrep0 ⟨hgv.1,fun i hi hi'=>(hgv.2 i hi hi').mono (fun _ _ h=>h) (fun _ h=>.inl h) (fun _ _=>rfl)⟩
 have hsame:=aJu hsame
 obtain⟨ks,hnd,kin,kclo,rfl,kget,khc⟩:=aJV hcan
 have hsub:∀ {k:Nat} {o:Ob},lk sub k=some o->lk h k=some o:=fun hk=>s1 _ (aHT hk)
 -- what is aL3 is not handed over
 have hrb:∀ k,Rch h (D.refsL bs) k->∃ o,(k,o)∈bsub:=by
  intro k hk
  induction hk with
  | base k hk=>exact b3 k hk
  | step k k' o _ ho hm ih=>
    obtain⟨o',h1⟩:=ih
    have:=b1 _ h1
    rw[ho]at this;injection this with this;subst this
    exact b4 _ h1 k' hm
 have hdisj:∀ k,k∈ks->¬Rch h (D.refsL bs) k:=by
  intro k hk hr'
  obtain⟨o,h1⟩:=hrb k hr'
  obtain⟨o',h2,_⟩:=kclo k hk
  have:=List.all_eq_true.1 hdis _ (aHT h2)
  simp only[Option.isNone_iff_eq_none]at this
  exact aUV this o h1
 obtain⟨hsc,hownc⟩:=HS.canon (h:=h) (h':=hc) hs hnd (fun k hk=>by obtain⟨o,h1,h2⟩:=kclo k hk;exact⟨o,hsub h1,h2⟩) (fun i hi=>by obtain⟨o,h1,h2⟩:=kget i hi;exact⟨o,hsub h1,h2⟩) khc
 let K:=Rch h (D.refsL bs)
 have hscI:HS fo (aLU φ ks) (fun g=>Im g∨Bl φ h K g) w hc:=by
  refine hsc.imup (fun _ h=>.inl h) (fun g hg=>?_) (fun g hg=>?_)
  · rintro (hi | ⟨key,o,l,q1,q2,q3,q4,q5,q6⟩)
    ·exact hsc.imm g hg hi
    ·obtain⟨k',o',l',p1,p2,p3,p4,p5,p6⟩:=hownc g hg
     have hne:key≠k':=fun he=>hdisj k' p1 (he▸q1)
     exact hs.sep key k' o o' l l' q2 p2 q3 p3 q4 p4 q5 p5 hne (q6.trans p6.symm)
  · rcases hg with hi | ⟨key,o,l,q1,q2,q3,q4,q5,rfl⟩
    ·exact hs.imb g hi
    ·exact aIx hs q2 q3 q4 q5
 have hrepc:RepDs fo (aLU φ ks) (fun g=>Im g∨Bl φ h K g) w (D.renL (idx ks) (ds++aFi ds sub)) (args++gv):=hrep.ren (fun k hk=>aF8 (kin k hk))
 have htk:(D.renL (idx ks) (ds++aFi ds sub)).take ds.length=D.renL (idx ks) ds:=by rw[aCd,aCd,List.map_append,List.take_left' (by simp)]
 have hdp:(D.renL (idx ks) (ds++aFi ds sub)).drop ds.length=D.renL (idx ks) (aFi ds sub):=by rw[aCd,aCd,List.map_append,List.drop_left' (by simp)]
 have hrepa:RepDs fo (aLU φ ks) (fun g=>Im g∨Bl φ h K g) w (D.renL (idx ks) ds) args:=hrep0.ren (fun k hk=>aF8 (kin k (by
  obtain⟨d,d1,d2⟩:=refsL_mem.1 hk
  exact refsL_mem.2 ⟨d,List.mem_append_left _ d1,d2⟩)))
 have hrepg:RepDs fo (aLU φ ks) (fun g=>Im g∨Bl φ h K g) w (D.renL (idx ks) (aFi ds sub)) gv:=by
  have hg2:RepDs fo φ (fun g=>Im g∨Bl φ h K g) w (aFi ds sub) gv:=⟨hgv.1,fun i hi hi'=>(hgv.2 i hi hi').mono (fun _ _ h=>h) (fun _ h=>.inl h) (fun _ _=>rfl)⟩
  exact hg2.ren (fun k hk=>aF8 (kin k (by
    obtain⟨d,d1,d2⟩:=refsL_mem.1 hk
    exact refsL_mem.2 ⟨d,List.mem_append_right _ d1,d2⟩)))
 rw[htk,hdp]at hsame
 rw[htk]at hcall
 have hcl:=hF v f _ hc roots res h2 hv hcall _ _ w args gv hscI hrepa (by rw[hsame];exact hrepg)
 have happ:D.renL (idx ks) ds++D.renL (idx ks) (aFi ds sub)=D.renL (idx ks) (ds++aFi ds sub):=by rw[aCd,aCd,aCd,List.map_append]
 rw[hsame,happ]at hcl
 refine hcl.mono fun x w' hp=>?_
 obtain⟨φ2,Im2,g,fr,rres,hroots,rargs,hnd2,hlay⟩:=hp
 -- the way back
 obtain⟨⟨hlen,hflat⟩,hr6⟩:=aAU hr5
 obtain⟨hr6,hkm⟩:=aLn _ hr6
 obtain⟨hk,hr7,hkl0⟩:=aJO _ hr6
 obtain⟨hN,hr8,hw1,hw2,hw3⟩:=aK0 rfl _ hr7
 have hm:roots.zip (D.refsL (ds++aFi ds sub))=(D.refsL (ds++aFi ds sub)).map fun k=>(g (idx ks k),k):=by
  rw[hroots,aE4,List.map_map,List.zip_map_left,List.zip_eq_zipWith,List.zipWith_self,List.map_map]
  rfl
 rw[hm]at hr8 hw1 hw2 hw3 hkl0 hkm
 generalize hmm:((D.refsL (ds++aFi ds sub)).map fun k=>(g (idx ks k),k))=m at hr8 hw1 hw2 hw3 hkl0 hkm
 have hkl:∀ k,(lk hk k=some .dead∧(∃ o,(k,o)∈sub∧o.mut=true))∨(lk hk k=lk h k∧((∀ o,(k,o)∈sub->o.mut=false)∨(∃ x,x∈h2∧aFK nm m x.1=k∧lk h k=some (x.2.ren (aFK nm m)))∨∃ x,x∈bJ5 kp m (aFK nm m) sub h2∧aFK nm m x.1=k)):=by
  intro k
  rcases hkl0 k with⟨q1,o,q2,q3⟩ | ⟨q1,q2⟩
  · exact .inl ⟨q1,o,(List.mem_filter.1 q2).1,q3⟩
  · refine .inr ⟨q1,?_⟩
    by_cases hex:∃ x,x∈h2∧aPy kp m (aFK nm m) sub x=true∧lkN m x.1=some k
    ·obtain⟨x,x1,x2,x3⟩:=hex
     obtain⟨old,y1,y2⟩:=aL4 (hkm x x1) x2
     rw[x3]at y1;injection y1 with y1;subst y1
     exact .inr (.inl ⟨x,x1,by simp[aFK,x3],hsub y2⟩)
    by_cases hex2:∃ x,x∈h2∧lkN m x.1=some k
    ·obtain⟨x,x1,x3⟩:=hex2
     refine .inr (.inr ⟨x,?_,by simp[aFK,x3]⟩)
     refine List.mem_filter.2 ⟨x1,?_⟩
     rw[Bool.not_eq_true',Bool.eq_false_iff]
     exact fun hu=>hex ⟨x,x1,hu,x3⟩
    ·refine .inl fun o ho=>q2 o (List.mem_filter.2 ⟨ho,?_⟩)
     rw[Bool.not_eq_true',Bool.eq_false_iff]
     intro hany
     obtain⟨x,x1,x2⟩:=List.any_eq_true.1 hany
     rw[Bool.and_eq_true]at x2
     exact hex2 ⟨x,x1,by simpa using x2.2⟩
 have hnew:∀ x,x∈h2->lkN m x.1=none->x∈bJ5 kp m (aFK nm m) sub h2:=by
  intro x hx hn
  refine List.mem_filter.2 ⟨hx,?_⟩
  rw[Bool.not_eq_true',Bool.eq_false_iff]
  intro hu
  obtain⟨old,y1,_⟩:=aL4 (hkm x hx) hu
  rw[hn]at y1;cases y1
 have hfa:∀ k,k∈D.refsL (ds++aFi ds sub)->∃ l,φ k=some l∧φ2 (g (idx ks k))=some l:=by
  intro k hk
  obtain⟨l,z1,z2⟩:=hlay (idx ks k) (by rw[aE4];exact List.mem_map.2 ⟨k,hk,rfl⟩)
  rw[aF8 (kin k hk)]at z1
  exact⟨l,z1,z2⟩
 have hfm:∀ j old,lkN m j=some old->∃ l,φ old=some l∧φ2 j=some l:=by
  intro j old hj
  have:=aWG hj
  rw[<- hmm]at this
  obtain⟨k,q1,q2⟩:=List.mem_map.1 this
  injection q2 with q2 q3
  subst q2 q3
  exact hfa k q1
 have hkn:∀ k,lk hk k=none->lk h k=none:=by
  intro k hkk
  rcases hkl k with⟨q1,_⟩ | ⟨q1,_⟩
  · rw[q1]at hkk;cases hkk
  · rw[<- q1];exact hkk
 let φN:Lay:=fun k=>match φ k with
  | some l=>some l
  | none=>if nm<=k∧(lk h2 (k-nm)).isSome=true∧lkN m (k-nm)=none then φ2 (k-nm)else none
 have hup:∀ k l,φ k=some l->φN k=some l:=by
  intro k l hl
  show (match φ k with | some l=>some l | none=>_)=some l
  rw[hl]
 have hfB:∀ x,x∈h2->φN (aFK nm m x.1)=φ2 x.1:=by
  intro x hx
  cases hj:lkN m x.1 with
  | some old=>
    obtain⟨b,q1,q2⟩:=hfm _ _ hj
    have:aFK nm m x.1=old:=by simp[aFK,hj]
    rw[this,hup _ _ q1,q2]
  | none=>
    have hb:aFK nm m x.1=nm+x.1:=by simp[aFK,hj]
    have hn:=hs.dom _ (hkn _ (hw2 x (hnew x hx hj) hj))
    rw[hb]at hn ⊢
    show (match φ (nm+x.1)with | some l=>some l | none=>_)=φ2 x.1
    rw[hn]
    simp only[Nat.add_sub_cancel_left,hj,and_true]
    rw[if_pos ⟨by omega,by rw[hnd2 x hx];rfl⟩]
 have hfR:∀ q l,φ2 q=some l->φN (aFK nm m q)=φ2 q:=by
  intro q l hq
  cases hlk:lk h2 q with
  | none=>rw[fr.hs.dom q hlk]at hq;cases hq
  | some o=>exact hfB (q,o) (aHT hlk)
 obtain⟨ImN,i1,i2,i3,i4,i5⟩:∃ ImN:Nat->Prop,(∀ g,Im g->ImN g)∧(∀ g,ImN g->Im2 g)∧(∀ x,x∈h2->RepOb fo φ2 ImN w' x.1 x.2)∧RepD fo φ2 ImN w' (aId res) x∧(∀ g,ImN g->Im g∨Own (aLU φ ks) hc g∨w.heap.size<=g):=by
  rw[Bool.or_eq_true,Bool.and_eq_true]at hflat
  rcases hflat with hb0 | ⟨hf1,hf2⟩
  · refine⟨Im2,fun g hg=>fr.im g (.inl hg),fun _ h=>h,fun x hx=>fr.hs.rep _ _ (hnd2 x hx),rres,fun g hg=>?_⟩
    rcases fr.imnew g hg with (h1 | ⟨key,o,l,q1,_⟩) | h1 | h1
    ·exact .inl h1
    ·have hbs:bs=[]:=by simpa using hb0
     subst hbs
     have:∀ k,¬Rch h (D.refsL []) k:=fun k hk=>by
      induction hk with
      | base k hk=>cases hk
      | step _ _ _ _ _ _ ih=>exact ih
     exact absurd q1 (this key)
    ·exact .inr (.inl h1)
    ·exact .inr (.inr h1)
  · refine⟨Im,fun _ h=>h,fun g hg=>fr.im g (.inl hg),fun x hx=>(fr.hs.rep _ _ (hnd2 x hx)).flat (List.all_eq_true.1 hf2 x hx),rres.flat ?_,fun g hg=>.inl hg⟩
    have:=flatL_mem.1 hf1
    unfold aId
    split
    ·exact this _ (by simp)
    ·exact hf1
 have himold:∀ g,Im g->w'.heap[g]? = w.heap[g]? := fun g hg=>fr.imold hscI.imb (fun g hg ho=>hscI.imm g ho hg) g (.inl hg)
 -- a thing that no call touched
 have hkeep:∀ key o l,lk h key=some o->(∀ o',(key,o')∈sub->o'.mut=false)->o.mut=true->φ key=some l->l.real=true->¬Own (aLU φ ks) hc l.blk:=by
  intro key o l q1 q2 q3 q4 q5 hg
  obtain⟨k',o',l',p1,p2,p3,p4,p5,p6⟩:=hownc _ hg
  have hne:key≠k':=by
    intro he
    subst he
    obtain⟨o2,z1,_⟩:=kclo key p1
    have:=q2 o2 (aHT z1)
    have z2:=hsub z1
    rw[p2]at z2;injection z2 with z2;subst z2
    rw[p3]at this;cases this
  exact hs.sep key k' o o' l l' q1 p2 q3 p3 q4 p4 q5 p5 hne p6.symm
 -- what lies under a key
 have hcase:∀ key o,lk hN key=some o->(∃ x,x∈h2∧aFK nm m x.1=key∧o=x.2.ren (aFK nm m))∨(lk h key=some o∧(∀ o',(key,o')∈sub->o'.mut=false))∨o=.dead:=by
  intro key o ho
  rcases hw1 key with⟨q1,q2'⟩ | ⟨x,q1,q2,q3⟩
  · rcases hkl key with⟨p1,_⟩ | ⟨p1,p2⟩
    ·rw[q1,p1]at ho;injection ho with ho;exact .inr (.inr ho.symm)
    ·rcases p2 with p2 | ⟨x,z1,z2,z3⟩ | ⟨x,z1,z2⟩
     ·exact .inr (.inl ⟨by rw[<- p1,<- q1];exact ho,p2⟩)
     ·refine .inl ⟨x,z1,z2,?_⟩
      rw[q1,p1,z3]at ho;injection ho with ho;exact ho.symm
     ·exact absurd z2 (q2' x z1)
  · rw[q3]at ho;injection ho with ho;exact .inl ⟨x,(List.mem_filter.1 q1).1,q2,ho.symm⟩
 have hownN:∀ g,Own φN hN g->(Own φ2 h2 g∨(Own φ h g∧¬Own (aLU φ ks) hc g)):=by
  rintro g ⟨key,o,l,q1,q2,q3,q4,rfl⟩
  rcases hcase key o q1 with⟨x,p1,p2,rfl⟩ | ⟨p1,p2⟩ | rfl
  · rw[aIj]at q2
    rw[<- p2,hfB x p1]at q3
    exact .inl ⟨x.1,x.2,l,hnd2 x p1,q2,q3,q4,rfl⟩
  · have hφk:φ key=some l:=by
     cases hφ:φ key with
     | some l'=>rw[hup _ _ hφ]at q3;exact q3
     | none=>
      have hrp:=hs.rep key o p1
      cases o with
      | box cs=>obtain⟨g,_,_,h1,_⟩:=hrp;rw[h1]at hφ;cases hφ
      | arr sz xs=>obtain⟨l,h1,_⟩:=hrp;rw[h1]at hφ;cases hφ
      | mp c es=>obtain⟨g,_,h1,_⟩:=hrp;rw[h1]at hφ;cases hφ
      | _=>cases q2
    exact .inr ⟨⟨key,o,l,p1,q2,hφk,q4,rfl⟩,hkeep key o l p1 p2 q2 hφk q4⟩
  · cases q2
 have hφold:∀ key o,lk h key=some o->o.mut=true->∀ l,φN key=some l->φ key=some l:=by
  intro key o p1 q2 l q3
  cases hφ:φ key with
  | some l'=>rw[hup _ _ hφ]at q3;exact q3
  | none=>
    have hrp:=hs.rep key o p1
    cases o with
    | box cs=>obtain⟨g,_,_,h1,_⟩:=hrp;rw[h1]at hφ;cases hφ
    | arr sz xs=>obtain⟨l,h1,_⟩:=hrp;rw[h1]at hφ;cases hφ
    | mp c es=>obtain⟨g,_,h1,_⟩:=hrp;rw[h1]at hφ;cases hφ
    | _=>cases q2
 have hsN:HS fo φN ImN w' hN:=by
  refine⟨fun key o ho=>?_,fun k1 k2 o1 o2 l1 l2 p1 p2 m1 m2 f1 f2 r1 r2 hne=>?_,fun g hg hi=>?_,fun g hg=>fr.hs.imb g (i2 g hg),fun key hkn'=>?_,fun g o ho=>aH4 (hs.tb g o ho) (i1 g) (himold g)⟩
  · rcases hcase key o ho with⟨x,p1,rfl,rfl⟩ | ⟨p1,p2⟩ | rfl
    ·exact (i3 x p1).ren (hfB x p1) (fun q hq=>by
      obtain⟨l,hl⟩:=aTn (i3 x p1) q hq
      exact hfR q l hl)
    ·exact (hs.rep key o p1).keep hup i1 himold (fun l hl hmt hre=>fr.frame _ (aIx hs p1 hmt hl hre) (hkeep key o l p1 p2 hmt hl hre))
    ·trivial
  · rcases hcase k1 o1 p1 with⟨x1,a1,rfl,rfl⟩ | ⟨a1,a2⟩ | rfl
    ·rw[aIj]at m1
     rw[hfB x1 a1]at f1
     rcases hcase k2 o2 p2 with⟨x2,c1,rfl,rfl⟩ | ⟨c1,c2⟩ | rfl
     ·rw[aIj]at m2
      rw[hfB x2 c1]at f2
      exact fr.hs.sep x1.1 x2.1 x1.2 x2.2 l1 l2 (hnd2 _ a1) (hnd2 _ c1) m1 m2 f1 f2 r1 r2 (fun he=>hne (by rw[he]))
     ·have f2':=hφold k2 o2 c1 m2 l2 f2
      rcases fr.own l1.blk ⟨x1.1,x1.2,l1,hnd2 _ a1,m1,f1,r1,rfl⟩with hg | hg
      ·exact fun he=>hkeep k2 o2 l2 c1 c2 m2 f2' r2 (he▸hg)
      ·have:=aIx hs c1 m2 f2' r2;omega
     ·cases m2
    ·have f1':=hφold k1 o1 a1 m1 l1 f1
     rcases hcase k2 o2 p2 with⟨x2,c1,rfl,rfl⟩ | ⟨c1,c2⟩ | rfl
     ·rw[aIj]at m2
      rw[hfB x2 c1]at f2
      rcases fr.own l2.blk ⟨x2.1,x2.2,l2,hnd2 _ c1,m2,f2,r2,rfl⟩with hg | hg
      ·exact fun he=>hkeep k1 o1 l1 a1 a2 m1 f1' r1 (he▸hg)
      ·have:=aIx hs a1 m1 f1' r1;omega
     ·exact hs.sep k1 k2 o1 o2 l1 l2 a1 c1 m1 m2 f1' (hφold k2 o2 c1 m2 l2 f2) r1 r2 hne
     ·cases m2
    ·cases m1
  · rcases hownN g hg with h1 | ⟨h1,h3⟩
    ·exact fr.hs.imm g h1 (i2 g hi)
    ·rcases i5 g hi with h4 | h4 | h4
     ·exact hs.imm g h1 h4
     ·exact h3 h4
     ·have:=aY2 hs h1;omega
  · rcases hw1 key with⟨q1,q2⟩ | ⟨x,q1,q2,q3⟩
    ·rw[q1]at hkn'
     have hn:=hs.dom key (hkn key hkn')
     show (match φ key with | some l=>some l | none=>_)=none
     rw[hn]
     simp only
     rw[if_neg]
     rintro ⟨z1,z2,z3⟩
     obtain⟨o,ho⟩:=Option.isSome_iff_exists.1 z2
     refine q2 (key-nm,o) (hnew _ (aHT ho) z3) ?_
     simp only[aFK,z3,Option.getD_none]
     omega
    ·rw[q3]at hkn';cases hkn'
 have hownc':∀ g,Own (aLU φ ks) hc g->Own φ h g:=fun g hg=>by obtain⟨k,o,l,_,q⟩:=hownc g hg;exact⟨k,o,l,q⟩
 refine⟨_,φN,ImN,hN,hr8,⟨⟨hsN,i1,fun g hg hno=>fr.frame g hg (fun ho=>hno (hownc' g ho)),fun g hg=>?_,fun g hg=>?_,fr.size,fr.os,fr.tape,fr.output⟩,hup⟩,?_⟩
 ·rcases hownN g hg with h1 | ⟨h1,_⟩
  · exact (fr.own g h1).elim (fun h=>.inl (hownc' g h)) .inr
  · exact .inl h1
 ·exact (i5 g hg).elim .inl (fun h=>h.elim (fun h=>.inr (.inl (hownc' g h))) (fun h=>.inr (.inr h)))
 ·have:aId (D.renL (aFK nm m) res)=(aId res).ren (aFK nm m):=by
    rw[aCd]
    match res with
    | []=>rfl
    | [d]=>rfl
    | d :: d' :: ds=>simp[aId,D.ren,aCd]
  rw[this]
  exact i4.ren (fun q hq=>by
    obtain⟨l,hl⟩:=aNG i4 q hq
    exact hfR q l hl)
end
end Am
end Go.Proofs.YtkmbhgggpfbffaaGreatDoor
