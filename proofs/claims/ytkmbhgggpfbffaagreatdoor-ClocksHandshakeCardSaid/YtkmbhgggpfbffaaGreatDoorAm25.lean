/- What operations touch: those that touch nothing in common may change places. -/
import Derived.Test.YtkmbhgggpfbffaaGreatDoorAm1
set_option linter.unusedVariables false
set_option linter.unusedSimpArgs false
set_option linter.constructorNameAsVariable false
namespace Go.Proofs.YtkmbhgggpfbffaaGreatDoor
namespace Am
def aCL {α:Type}(R W:Nat->Prop):M α->Prop
 | .ret _=>True
 | .fail=>True
 | .rd t k=>R t∧∀ d,aCL R W (k d)
 | .wr t _ k=>W t∧aCL R W k
 | .get _ k=>∀ o,aCL R W (k o)
 | .set _ _ k=>aCL R W k
 | .cget _ _ k=>∀ d,aCL R W (k d)
 | .cset _ _ _ k=>aCL R W k
 | .new _ _ k=>aCL R W k
 | .call _ _ _ k=>∀ a b c,aCL R W (k a b c)
inductive Pa where
 | whole (key:Nat) (o:Ob)
 | cell (key off:Nat) (d:D)
def aSf:Ob->Nat->D->Ob
 | .box cs,off,d=>.box (cs.set off d)
 | o,_,_=>o
abbrev HF:=Nat->Option Ob
def Pa.ap:Pa->HF->HF
 | .whole key o,H=>fun k=>if key=k then some o else H k
 | .cell key off d,H=>fun k=>if key=k then (H k).map fun o=>aSf o off d else H k
def aKp:List Pa->HF->HF
 | [],H=>H
 | p :: ps,H=>aKp ps (p.ap H)
def aNs:Ob->Bool
 | .box _=>true
 | _=>false
def agr (a:Acc)(H H':HF):Prop:=
 match a.off with
 | none=>H' a.key=H a.key
 | some off=>(H' a.key).bind (fun o=>aGQ o off)=(H a.key).bind (fun o=>aGQ o off)∧(H' a.key).map aNs=(H a.key).map aNs
def Pa.acc:Pa->Acc
 | .whole key _=>⟨key,none,true⟩
 | .cell key off _=>⟨key,some off,true⟩
theorem aQg (a:Acc)(H:HF):agr a H H:=by
 unfold agr
 split
 ·rfl
 ·exact⟨rfl,rfl⟩
theorem aYM {a:Acc}{H H':HF}(h:agr a H H'):agr a H' H:=by
 unfold agr at *
 split
 ·rename_i e;rw[e]at h;exact h.symm
 ·rename_i e;rw[e]at h;exact⟨h.1.symm,h.2.symm⟩
theorem agr_none {key:Nat}{wr:Bool}{H H':HF}:agr ⟨key,none,wr⟩ H H'↔H' key=H key:=Iff.rfl
theorem agr_some {key off:Nat}{wr:Bool}{H H':HF}:agr ⟨key,some off,wr⟩ H H'↔(H' key).bind (fun o=>aGQ o off)=(H key).bind (fun o=>aGQ o off)∧(H' key).map aNs=(H key).map aNs:=Iff.rfl
theorem aTR {o:Ob}(h:aNs o=true):∃ cs,o=.box cs:=by cases o <;> first | exact⟨_,rfl⟩ | cases h
theorem aV3 {o:Ob}(h:aNs o=false)(off:Nat)(d:D):aSf o off d=o:=by cases o <;> first | rfl | cases h
theorem aMU (o:Ob)(off:Nat)(d:D):aNs (aSf o off d)=aNs o:=by cases o <;> rfl
theorem aR3 {L:List Acc}{H H':HF}(h:∀ a,a∈L->agr a H H'){p:Pa}(hp:p.acc∈L):∀ a,a∈L->agr a (p.ap H) (p.ap H'):=by
 intro a ha
 have h1:=h a ha
 cases p with
 | whole key o=>
  obtain⟨ak,ao,aw⟩:=a
  by_cases he:key=ak
  ·subst he
   cases ao with
   | none=>rw[agr_none];simp[Pa.ap]
   | some off=>rw[agr_some];simp[Pa.ap]
  ·cases ao with
   | none=>rw[agr_none]at h1 ⊢;simpa[Pa.ap,he]using h1
   | some off=>rw[agr_some]at h1 ⊢;simpa[Pa.ap,he]using h1
 | cell key off d=>
  have h2:=h _ hp
  obtain⟨ak,ao,aw⟩:=a
  by_cases he:key=ak
  ·subst he
   cases ao with
   | none=>rw[agr_none]at h1 ⊢;simp only[Pa.ap,if_true];rw[h1]
   | some off'=>
    simp only[Pa.acc]at h2
    rw[agr_some]at h1 h2 ⊢
    simp only[Pa.ap,if_true]
    cases hH:H key with
    | none=>
     cases hH':H' key with
     | none=>simp
     | some o'=>rw[hH,hH']at h1;simp at h1
    | some o=>
     cases hH':H' key with
     | none=>rw[hH,hH']at h1;simp at h1
     | some o'=>
      rw[hH,hH']at h1 h2
      simp only[Option.bind_some,Option.map_some,Option.some.injEq]at h1 h2 ⊢
      refine⟨?_,by rw[aMU,aMU];exact h1.2⟩
      cases hb:aNs o with
      | false=>rw[aV3 hb,aV3 (by rw[h1.2,hb])];exact h1.1
      | true=>
       obtain⟨cs,rfl⟩:=aTR hb
       obtain⟨cs',rfl⟩:=aTR (h1.2.trans hb)
       simp only[aSf,aGQ]at h1 h2 ⊢
       by_cases ho:off=off'
       ·subst ho
        have hl:off<cs'.length↔off<cs.length:=by
         have:=h2.1
         constructor <;> intro hlt <;> rcases Nat.lt_or_ge off cs.length with q | q <;> rcases Nat.lt_or_ge off cs'.length with q' | q' <;> simp_all
        by_cases hlt:off<cs.length
        ·simp[List.getElem?_set_self,hlt,hl.2 hlt]
        ·rw[List.getElem?_eq_none (by simp;omega),List.getElem?_eq_none (by simp;have:=fun x=>hlt (hl.1 x);omega)]
       ·rw[List.getElem?_set_ne ho,List.getElem?_set_ne ho];exact h1.1
  ·cases ao with
   | none=>rw[agr_none]at h1 ⊢;simpa[Pa.ap,he]using h1
   | some off'=>rw[agr_some]at h1 ⊢;simpa[Pa.ap,he]using h1
theorem aHf (key:Nat)(o:Ob)(h:aAR):lk ((key,o) :: h)=(Pa.whole key o).ap (lk h):=by funext k;rfl
theorem eff {F:Cf}{R W:Nat->Prop}{α:Type}:∀ (m:M α) (s:St) (l0:List Acc) (x:α) (s1:St) (l:List Acc),aCL R W m->m.runA F s l0=some (x,s1,l) ->
  ∃ (l1:List Acc) (ps:List Pa) (ws:Env),l=l1++l0∧(∀ p,p∈ps->p.acc∈l1)∧(∀ y,y∈ws->W y.1)∧s1.env=ws++s.env∧lk s1.heap=aKp ps (lk s.heap) ∧
   ∀ (s':St) (l0':List Acc),(∀ t,R t->lk s'.env t=lk s.env t)->(∀ a,a∈l1->agr a (lk s.heap) (lk s'.heap)) ->
    ∃ s1',m.runA F s' l0'=some (x,s1',l1++l0')∧s1'.env=ws++s'.env∧lk s1'.heap=aKp ps (lk s'.heap):=by
 intro m
 induction m with
 | ret a=>
  intro s l0 x s1 l _ hr
  simp only[M.runA,Option.some.injEq,Prod.mk.injEq]at hr
  obtain⟨rfl,rfl,rfl⟩:=hr
  exact⟨[],[],[],rfl,(fun p hp=>by cases hp),(fun y hy=>by cases hy),rfl,rfl,fun s' l0' _ _=>⟨s',rfl,rfl,rfl⟩⟩
 | fail=>intro s l0 x s1 l _ hr;cases hr
 | rd t k ih=>
  intro s l0 x s1 l ho hr
  obtain⟨d,h1,hr⟩:=Option.bind_eq_some_iff.1 hr
  obtain⟨l1,ps,ws,e1,e2,e3,e4,e5,e6⟩:=ih d s l0 x s1 l (ho.2 d) hr
  refine⟨l1,ps,ws,e1,e2,e3,e4,e5,fun s' l0' hR hA=>?_⟩
  obtain⟨s1',q1,q2⟩:=e6 s' l0' hR hA
  exact⟨s1',by simp only[M.runA];rw[hR t ho.1,h1];exact q1,q2⟩
 | wr t d k ih=>
  intro s l0 x s1 l ho hr
  obtain⟨l1,ps,ws,e1,e2,e3,e4,e5,e6⟩:=ih _ l0 x s1 l ho.2 hr
  refine⟨l1,ps,ws++[(t,d)],e1,e2,fun y hy=>?_,by rw[e4];simp,e5,fun s' l0' hR hA=>?_⟩
  ·rcases List.mem_append.1 hy with hy | hy
   ·exact e3 y hy
   ·have:y=(t,d):=by simpa using hy
    subst this;exact ho.1
  ·obtain⟨s1',q1,q2,q3⟩:=e6 { s' with env:=(t,d) :: s'.env } l0' (fun t' ht'=>by
    show (if t=t' then some d else lk s'.env t')=(if t=t' then some d else lk s.env t')
    rw[hR t' ht']) hA
   exact⟨s1',q1,by rw[q2];simp,q3⟩
 | get key k ih=>
  intro s l0 x s1 l ho hr
  obtain⟨o,h1,hr⟩:=Option.bind_eq_some_iff.1 hr
  obtain⟨l1,ps,ws,e1,e2,e3,e4,e5,e6⟩:=ih o s _ x s1 l (ho o) hr
  refine⟨l1++[⟨key,none,false⟩],ps,ws,by rw[e1];simp,fun p hp=>List.mem_append_left _ (e2 p hp),e3,e4,e5,fun s' l0' hR hA=>?_⟩
  obtain⟨s1',q1,q2⟩:=e6 s' (⟨key,none,false⟩ :: l0') hR (fun a ha=>hA a (List.mem_append_left _ ha))
  have hk:=agr_none.1 (hA ⟨key,none,false⟩ (List.mem_append_right _ (by simp)))
  exact⟨s1',by simp only[M.runA];rw[hk,h1];simpa using q1,q2⟩
 | set key o k ih=>
  intro s l0 x s1 l ho hr
  obtain⟨o',h1,hr⟩:=Option.bind_eq_some_iff.1 hr
  obtain⟨l1,ps,ws,e1,e2,e3,e4,e5,e6⟩:=ih _ _ x s1 l ho hr
  refine⟨l1++[⟨key,none,true⟩],.whole key o :: ps,ws,by rw[e1];simp,fun p hp=>?_,e3,e4,by rw[e5,aHf];rfl,fun s' l0' hR hA=>?_⟩
  ·rcases List.mem_cons.1 hp with rfl | hp
   ·exact List.mem_append_right _ (by simp[Pa.acc])
   ·exact List.mem_append_left _ (e2 p hp)
  ·have hk:=agr_none.1 (hA ⟨key,none,true⟩ (List.mem_append_right _ (by simp)))
   have hA':=aR3 hA (p:=.whole key o) (List.mem_append_right _ (by simp[Pa.acc]))
   obtain⟨s1',q1,q2,q3⟩:=e6 { s' with heap:=(key,o) :: s'.heap } (⟨key,none,true⟩ :: l0') hR (fun a ha=>by
    show agr a (lk ((key,o) :: s.heap)) (lk ((key,o) :: s'.heap))
    rw[aHf,aHf];exact hA' a (List.mem_append_left _ ha))
   exact⟨s1',by simp only[M.runA];rw[hk,h1];simpa using q1,q2,by rw[q3,aHf];rfl⟩
 | cget key off k ih=>
  intro s l0 x s1 l ho hr
  obtain⟨o,h1,hr⟩:=Option.bind_eq_some_iff.1 hr
  obtain⟨d,h2,hr⟩:=Option.bind_eq_some_iff.1 hr
  obtain⟨l1,ps,ws,e1,e2,e3,e4,e5,e6⟩:=ih d s _ x s1 l (ho d) hr
  refine⟨l1++[⟨key,some off,false⟩],ps,ws,by rw[e1];simp,fun p hp=>List.mem_append_left _ (e2 p hp),e3,e4,e5,fun s' l0' hR hA=>?_⟩
  obtain⟨s1',q1,q2⟩:=e6 s' (⟨key,some off,false⟩ :: l0') hR (fun a ha=>hA a (List.mem_append_left _ ha))
  have hk:=(agr_some.1 (hA ⟨key,some off,false⟩ (List.mem_append_right _ (by simp)))).1
  rw[h1]at hk
  simp only[Option.bind_some,h2]at hk
  obtain⟨o',p1,p2⟩:=Option.bind_eq_some_iff.1 hk
  exact⟨s1',by simp only[M.runA];rw[p1];simp only[Option.bind_some];rw[p2];simpa using q1,q2⟩
 | cset key off d k ih=>
  intro s l0 x s1 l ho hr
  obtain⟨o,h1,hr⟩:=Option.bind_eq_some_iff.1 hr
  obtain⟨o',h2,hr⟩:=Option.bind_eq_some_iff.1 hr
  have hput:∃ cs,o=.box cs∧off<cs.length∧d.one=true∧o'=.box (cs.set off d):=by
   cases o with
   | box cs=>
    simp only[aHR]at h2
    split at h2
    ·rename_i hlt
     split at h2
     ·rename_i hone
      injection h2 with h2
      exact⟨cs,rfl,hlt,hone,h2.symm⟩
     ·cases h2
    ·cases h2
   | _=>cases h2
  obtain⟨cs,rfl,hlt,hone,rfl⟩:=hput
  obtain⟨l1,ps,ws,e1,e2,e3,e4,e5,e6⟩:=ih _ _ x s1 l ho hr
  have hap:∀ (h:aAR) (cs:List D),lk h key=some (.box cs)->lk ((key,Ob.box (cs.set off d)) :: h)=(Pa.cell key off d).ap (lk h):=by
   intro h cs hh
   funext k
   show (if key=k then some (Ob.box (cs.set off d))else lk h k)=(if key=k then (lk h k).map (fun o=>aSf o off d)else lk h k)
   split
   ·rename_i he;subst he;rw[hh];rfl
   ·rfl
  refine⟨l1++[⟨key,some off,true⟩],.cell key off d :: ps,ws,by rw[e1];simp,fun p hp=>?_,e3,e4,by rw[e5,hap _ _ h1];rfl,fun s' l0' hR hA=>?_⟩
  ·rcases List.mem_cons.1 hp with rfl | hp
   ·exact List.mem_append_right _ (by simp[Pa.acc])
   ·exact List.mem_append_left _ (e2 p hp)
  ·have hk:=agr_some.1 (hA ⟨key,some off,true⟩ (List.mem_append_right _ (by simp)))
   rw[h1]at hk
   have hA':=aR3 hA (p:=.cell key off d) (List.mem_append_right _ (by simp[Pa.acc]))
   cases hH:lk s'.heap key with
   | none=>rw[hH]at hk;simp at hk
   | some o'=>
    rw[hH]at hk
    simp only[Option.bind_some,Option.map_some,Option.some.injEq]at hk
    obtain⟨cs',rfl⟩:=aTR hk.2
    have hlt':off<cs'.length:=by
     have:=hk.1
     simp only[aGQ,List.getElem?_eq_getElem hlt]at this
     exact (List.getElem?_eq_some_iff.1 this).1
    obtain⟨s1',q1,q2,q3⟩:=e6 { s' with heap:=(key,.box (cs'.set off d)) :: s'.heap } (⟨key,some off,true⟩ :: l0') hR (fun a ha=>by
     show agr a (lk ((key,Ob.box (cs.set off d)) :: s.heap)) (lk ((key,Ob.box (cs'.set off d)) :: s'.heap))
     rw[hap _ _ h1,hap _ _ hH];exact hA' a (List.mem_append_left _ ha))
    exact⟨s1',by simp only[M.runA];rw[hH];simp only[Option.bind_some,aHR,if_pos hlt',if_pos hone];simpa using q1,q2,by rw[q3,hap _ _ hH];rfl⟩
 | new key o k ih=>
  intro s l0 x s1 l ho hr
  simp only[M.runA]at hr
  split at hr
  ·rename_i h1
   obtain⟨l1,ps,ws,e1,e2,e3,e4,e5,e6⟩:=ih _ _ x s1 l ho hr
   refine⟨l1++[⟨key,none,true⟩],.whole key o :: ps,ws,by rw[e1];simp,fun p hp=>?_,e3,e4,by rw[e5,aHf];rfl,fun s' l0' hR hA=>?_⟩
   ·rcases List.mem_cons.1 hp with rfl | hp
    ·exact List.mem_append_right _ (by simp[Pa.acc])
    ·exact List.mem_append_left _ (e2 p hp)
   ·have hk:=agr_none.1 (hA ⟨key,none,true⟩ (List.mem_append_right _ (by simp)))
    have hA':=aR3 hA (p:=.whole key o) (List.mem_append_right _ (by simp[Pa.acc]))
    obtain⟨s1',q1,q2,q3⟩:=e6 { s' with heap:=(key,o) :: s'.heap } (⟨key,none,true⟩ :: l0') hR (fun a ha=>by
     show agr a (lk ((key,o) :: s.heap)) (lk ((key,o) :: s'.heap))
     rw[aHf,aHf];exact hA' a (List.mem_append_left _ ha))
    exact⟨s1',by simp only[M.runA];rw[hk,h1];simpa using q1,q2,by rw[q3,aHf];rfl⟩
  ·cases hr
 | call v ds h k ih=>
  intro s l0 x s1 l ho hr
  obtain⟨y,h1,hr⟩:=Option.bind_eq_some_iff.1 hr
  obtain⟨l1,ps,ws,e1,e2,e3,e4,e5,e6⟩:=ih y.1 y.2.1 y.2.2 s l0 x s1 l (ho _ _ _) hr
  refine⟨l1,ps,ws,e1,e2,e3,e4,e5,fun s' l0' hR hA=>?_⟩
  obtain⟨s1',q1,q2⟩:=e6 s' l0' hR hA
  exact⟨s1',by simp only[M.runA];rw[h1];exact q1,q2⟩
def EQ (s s':St):Prop:=(∀ t,lk s.env t=lk s'.env t)∧lk s.heap=lk s'.heap
theorem EQ.refl (s:St):EQ s s:=⟨fun _=>rfl,rfl⟩
theorem EQ.symm {s s':St}(h:EQ s s'):EQ s' s:=⟨fun t=>(h.1 t).symm,h.2.symm⟩
theorem EQ.trans {s s' s'':St}(h:EQ s s')(h':EQ s' s''):EQ s s'':=⟨fun t=>(h.1 t).trans (h'.1 t),h.2.trans h'.2⟩
theorem aI4 {α:Type}:∀ (a b:List (Nat×α)) (t:Nat),lk (a++b) t=match lk a t with | some x=>some x | none=>lk b t
 | [],b,t=>rfl
 | (k,x) :: a,b,t=>by
  show (if k=t then some x else lk (a++b) t)=match (if k=t then some x else lk a t)with | some x=>some x | none=>lk b t
  split
  ·  rfl
  ·  exact aI4 a b t
theorem aQE {α:Type}{W:Nat->Prop}{a:List (Nat×α)}(ha:∀ y,y∈a->W y.1){t:Nat}(ht:¬W t):lk a t=none:=by
 induction a with
 | nil=>rfl
 | cons y a ih=>
  obtain⟨k,x⟩:=y
  show (if k=t then some x else lk a t)=none
  rw[if_neg (fun he:k=t=>ht (he▸ha (k,x) List.mem_cons_self))]
  exact ih (fun y hy=>ha y (List.mem_cons_of_mem _ hy))
theorem bHm {F:Cf}{R W:Nat->Prop}{α:Type}{m:M α}{s s' s1:St}{x:α}{l l0:List Acc}(ho:aCL R W m)(hr:m.runA F s l0=some (x,s1,l))(he:EQ s s'):∃ s1',m.runA F s' l0=some (x,s1',l)∧EQ s1 s1':=by
 obtain⟨l1,ps,ws,rfl,e2,e3,e4,e5,e6⟩:=eff m s l0 x s1 l ho hr
 obtain⟨s1',q1,q2,q3⟩:=e6 s' l0 (fun t _=>(he.1 t).symm) (fun a _=>by rw[he.2];exact aQg a _)
 refine⟨s1',q1,fun t=>?_,by rw[e5,q3,he.2]⟩
 rw[e4,q2,aI4,aI4,he.1]
theorem bD6 {a:Acc}{p:Pa}(h:Acc.meets a p.acc=false)(H:HF):agr a H (p.ap H):=by
 obtain⟨ak,ao,aw⟩:=a
 cases p with
 | whole key o=>
  have hne:¬key=ak:=by
   intro he;subst he
   cases ao <;> simp[Acc.meets,Pa.acc,aGG]at h
  cases ao with
  | none=>rw[agr_none];simp[Pa.ap,hne]
  | some off=>rw[agr_some];simp[Pa.ap,hne]
 | cell key off d=>
  by_cases he:key=ak
  ·subst he
   cases ao with
   | none=>simp[Acc.meets,Pa.acc,aGG]at h
   | some off'=>
    have hne:¬off'=off:=by
     intro he;subst he
     simp[Acc.meets,Pa.acc,aGG]at h
    rw[agr_some]
    simp only[Pa.ap,if_true]
    cases hH:H key with
    | none=>simp
    | some o=>
     simp only[Option.bind_some,Option.map_some,aMU,and_true]
     cases o with
     | box cs=>simp only[aSf,aGQ];rw[List.getElem?_set_ne (fun h=>hne h.symm)]
     | _=>rfl
  ·cases ao with
   | none=>rw[agr_none];simp[Pa.ap,he]
   | some off'=>rw[agr_some];simp[Pa.ap,he]
theorem aSJ {a:Acc}{H H' H'':HF}(h:agr a H H')(h':agr a H' H''):agr a H H'':=by
 unfold agr at *
 split
 ·rename_i e;rw[e]at h h';exact h'.trans h
 ·rename_i e;rw[e]at h h';exact⟨h'.1.trans h.1,h'.2.trans h.2⟩
theorem aNg {a:Acc}:∀ {ps:List Pa} (h:∀ p,p∈ps->Acc.meets a p.acc=false) (H:HF),agr a H (aKp ps H)
 | [],_,H=>aQg a H
 | p :: ps,h,H=>aSJ (bD6 (h p List.mem_cons_self) H) (aNg (fun q hq=>h q (List.mem_cons_of_mem _ hq)) _)
theorem aVB {o:Ob}{off off':Nat}{d d':D}(h:off≠off'):aSf (aSf o off d) off' d'=aSf (aSf o off' d') off d:=by
 cases o <;> first | rfl | (simp only[aSf];rw[List.set_comm _ _ h])
theorem bGd {p q:Pa}(h:Acc.meets p.acc q.acc=false)(H:HF):p.ap (q.ap H)=q.ap (p.ap H):=by
 funext k
 cases p with
 | whole key o=>
  cases q with
  | whole key' o'=>
   have hne:¬key=key':=by intro he;subst he;simp[Acc.meets,Pa.acc,aGG]at h
   simp only[Pa.ap]
   split
   ·rename_i he;subst he;rw[if_neg (fun h=>hne h.symm)]
   ·rfl
  | cell key' off' d'=>
   have hne:¬key=key':=by intro he;subst he;simp[Acc.meets,Pa.acc,aGG]at h
   simp only[Pa.ap]
   split
   ·rename_i he;subst he;rw[if_neg (fun h=>hne h.symm)]
   ·rfl
 | cell key off d=>
  cases q with
  | whole key' o'=>
   have hne:¬key=key':=by intro he;subst he;simp[Acc.meets,Pa.acc,aGG]at h
   simp only[Pa.ap]
   split
   ·rename_i he;subst he;rw[if_neg (fun h=>hne h.symm),if_neg (fun h=>hne h.symm)]
   ·rfl
  | cell key' off' d'=>
   simp only[Pa.ap]
   by_cases he:key=k
   ·subst he
    simp only[if_true]
    by_cases he':key'=key
    ·subst he'
     have hne:off'≠off:=by intro he;subst he;simp[Acc.meets,Pa.acc,aGG]at h
     simp only[if_true,Option.map_map]
     cases H key' with
     | none=>rfl
     | some o=>simp[aVB hne]
    ·simp[he']
   ·simp[he]
theorem aQt {p:Pa}:∀ {qs:List Pa} (h:∀ q,q∈qs->Acc.meets p.acc q.acc=false) (H:HF),p.ap (aKp qs H)=aKp qs (p.ap H)
 | [],_,H=>rfl
 | q :: qs,h,H=>by
  simp only[aKp]
  rw[aQt (fun q hq=>h q (List.mem_cons_of_mem _ hq)),bGd (h q List.mem_cons_self)]
theorem aMP:∀ {ps qs:List Pa} (h:∀ p,p∈ps->∀ q,q∈qs->Acc.meets p.acc q.acc=false) (H:HF),aKp ps (aKp qs H)=aKp qs (aKp ps H)
 | [],qs,_,H=>rfl
 | p :: ps,qs,h,H=>by
  simp only[aKp]
  rw[aQt (h p List.mem_cons_self),aMP (fun p hp=>h p (List.mem_cons_of_mem _ hp))]
theorem aRe (a b:Acc):Acc.meets a b=Acc.meets b a:=by
 obtain⟨ak,ao,aw⟩:=a
 obtain⟨bk,bo,bw⟩:=b
 simp only[Acc.meets,Bool.or_comm aw bw]
 congr 1
 ·congr 1
  exact BEq.comm
 ·cases ao <;> cases bo <;> simp only[aGG]
  exact BEq.comm
theorem aIY {a b:List Acc}(h:aOB a b=false){x y:Acc}(hx:x∈a)(hy:y∈b):Acc.meets x y=false:=by
 unfold aOB at h
 rw[List.any_eq_false]at h
 have h1:=h x hx
 simp only[List.any_eq_true,not_exists,not_and,Bool.not_eq_true]at h1
 exact h1 y hy
theorem bP4 {F:Cf}{R1 W1 R2 W2:Nat->Prop}{m1 m2:M Unit}(o1:aCL R1 W1 m1)(o2:aCL R2 W2 m2)(a1:∀ t,W1 t->¬R2 t)(a2:∀ t,W2 t->¬R1 t)(a3:∀ t,W1 t->¬W2 t){s t1 t2:St}{l1 l2:List Acc}
  (h1:m1.runA F s []=some ((),t1,l1)) (h2:m2.runA F t1 []=some ((),t2,l2)) (hm:aOB l2 l1=false) :
  ∃ t1' t2',m2.runA F s []=some ((),t1',l2)∧m1.runA F t1' []=some ((),t2',l1)∧EQ t2 t2':=by
 obtain⟨l1',ps1,ws1,e0,e2,e3,e4,e5,e6⟩:=eff m1 s [] () t1 l1 o1 h1
 obtain⟨l2',ps2,ws2,f0,f2,f3,f4,f5,f6⟩:=eff m2 t1 [] () t2 l2 o2 h2
 simp only[List.append_nil]at e0 f0
 subst e0 f0
 obtain⟨t1',q1,q2,q3⟩:=f6 s [] (fun t ht=>by rw[e4,aI4,aQE e3 (fun hw=>a1 t hw ht)]) (fun a ha=>by
  rw[e5]
  exact aYM (aNg (fun p hp=>aIY hm ha (e2 p hp)) _))
 obtain⟨t2',z1,z2,z3⟩:=e6 t1' [] (fun t ht=>by rw[q2,aI4,aQE f3 (fun hw=>a2 t hw ht)]) (fun a ha=>by
  rw[q3]
  exact aNg (fun p hp=>by rw[aRe];exact aIY hm (f2 p hp) ha) _)
 simp only[List.append_nil]at q1 z1
 refine⟨t1',t2',q1,z1,fun t=>?_,?_⟩
 ·rw[f4,e4,z2,q2,aI4,aI4,aI4,aI4]
  by_cases hw:W1 t
  · rw[aQE f3 (a3 t hw)]
  · rw[aQE e3 hw]
 ·rw[f5,e5,z3,q3]
  exact aMP (fun p hp q hq=>aIY hm (f2 p hp) (e2 q hq)) _
end Am
end Go.Proofs.YtkmbhgggpfbffaaGreatDoor
