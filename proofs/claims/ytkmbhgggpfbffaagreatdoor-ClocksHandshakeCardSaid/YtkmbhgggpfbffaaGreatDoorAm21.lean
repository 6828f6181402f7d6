/- One operation of a region; regions in their order; what is kept at a loop's head. -/
import Derived.Test.YtkmbhgggpfbffaaGreatDoorAm20
set_option linter.unusedVariables false
set_option linter.unusedSimpArgs false
set_option linter.constructorNameAsVariable false
namespace Go.Proofs.YtkmbhgggpfbffaaGreatDoor
namespace Am
mutual
theorem aP1 (f g:Nat->Nat):∀ d:D,(d.ren f).ren g=d.ren fun k=>g (f k)
 | .p u=>rfl
 | .own k=>rfl
 | .arr k off len ap=>rfl
 | .ptr k off=>rfl
 | .ep k i off=>rfl
 | .mp k=>rfl
 | .fn v caps=>by simp only[D.ren,aI3 f g caps]
 | .ifc t a xs=>by simp only[D.ren,aI3 f g xs]
 | .agg xs=>by simp only[D.ren,aI3 f g xs]
 | .tup xs=>by simp only[D.ren,aI3 f g xs]
 | .und=>rfl
theorem aI3 (f g:Nat->Nat):∀ ds:List D,D.renL g (D.renL f ds)=D.renL (fun k=>g (f k)) ds
 | []=>rfl
 | d :: ds=>by simp only[D.renL,aP1 f g d,aI3 f g ds]
end
structure AOof (P:Program) (vm:FuncId->Nat) (vmode:Nat->List Nat) (fo:Fo) (nt:Nat) (all:Array Oper) (o:Oper) (ao:AO):Prop where
 op:∃ hint,bJe P vm vmode fo hint ao.nm o=some ao.op
 dst:ao.dst=o.dst
 lt:∀ d,o.dst=some d->d<nt
 g:match o.guard with
  | none=>ao.g=none
  | some (j,want)=>∃ d,(all[j]?).bind (·.dst)=some d∧d<100000∧ao.g=some (d,want)
theorem aOF {P:Program}{vm:FuncId->Nat}{vmode:Nat->List Nat}{fo:Fo}{hint:Hint}{nt:Nat}{draw:Bool}{all:Array Oper}:∀ (l:List Oper) (n:Nat) (done:List (List Nat)) (aos:List AO),bFF P vm vmode fo hint nt draw all l n done=some aos ->
  aos.length=l.length∧∀ i (hi:i<l.length) (hi':i<aos.length),AOof P vm vmode fo nt all l[i] aos[i]
 | [],n,done,aos,hc=>by
  injection hc with hc;subst hc
  exact⟨rfl,fun i hi=>absurd hi (by simp)⟩
 | o :: l,n,done,aos,hc=>by
  unfold bFF at hc
  dsimp only at hc
  split at hc
  ·cases hc
  ·rename_i hd
   obtain⟨op,h1,hc⟩:=Option.bind_eq_some_iff.1 hc
   obtain⟨g,h2,hc⟩:=Option.bind_eq_some_iff.1 hc
   obtain⟨as,h3,rfl⟩:=Option.map_eq_some_iff.1 hc
   obtain⟨q1,q2⟩:=aOF l _ _ as h3
   refine⟨by simp[q1],fun i hi hi'=>?_⟩
   cases i with
   | zero=>
    refine⟨⟨_,h1⟩,rfl,fun d hdd=>?_,?_⟩
    ·have hdd':o.dst=some d:=hdd
     rw[hdd']at hd
     simpa using hd
    ·show match o.guard with
      | none=>_
      | some (j,want)=>_
     cases hg:o.guard with
     | none=>rw[hg]at h2;injection h2 with h2;exact h2.symm
     | some jw=>
      obtain⟨j,want⟩:=jw
      rw[hg]at h2
      obtain⟨d,e1,e2⟩:=Option.bind_eq_some_iff.1 h2
      split at e2
      ·rename_i hlt
       injection e2 with e2
       exact⟨d,e1,hlt,e2.symm⟩
      ·cases e2
   | succ i=>exact q2 i (by simpa using hi) (by simpa using hi')
def Hid (args:List D)(e:Env):Prop:=∃ g,aCD e=(aI1 0 args).map fun x=>(x.1,x.2.ren g)
theorem aHw:∀ (ds:List D) (i:Nat),D.refsL ((aI1 i ds).map (·.2))=D.refsL ds
 | [],i=>rfl
 | x :: ds,i=>by
  unfold aI1
  split
  ·rename_i he
   have:x.refs=[]:=by simpa using he
   simp only[D.refsL,this,List.nil_append]
   exact aHw ds (i+1)
  ·simp only[List.map_cons,D.refsL,aHw ds (i+1)]
theorem aQC (g:Nat->Nat)(L:Env):D.refsL ((L.map fun x=>(x.1,x.2.ren g)).map (·.2))=(D.refsL (L.map (·.2))).map g:=by
 have:(L.map fun x=>(x.1,x.2.ren g)).map (·.2)=D.renL g (L.map (·.2)):=by rw[aCd,List.map_map,List.map_map];rfl
 rw[this,aE4]
def HidL (φ0 φ:Lay)(args:List D)(e:Env):Prop:=∃ g,aCD e=(aI1 0 args).map (fun x=>(x.1,x.2.ren g))∧∀ k,k∈D.refsL args->∃ l,φ0 k=some l∧φ (g k)=some l
theorem HidL.up {φ0 φ φ':Lay}{args:List D}{e:Env}(h:HidL φ0 φ args e)(hu:∀ k l,φ k=some l->φ' k=some l):HidL φ0 φ' args e:=by
 obtain⟨g,h1,h2⟩:=h
 exact⟨g,h1,fun k hk=>by obtain⟨l,q1,q2⟩:=h2 k hk;exact⟨l,q1,hu _ _ q2⟩⟩
def Inv (fo:Fo)(w0:World)(Own0 Im0:Nat->Prop)(args:List D)(φ0:Lay)(av:List Value)(nt:Nat)(s:St)(a:Act)(w:World):Prop:=
 ∃ φ Im,Fr fo w0 Own0 Im0 φ Im w s.heap∧ER fo φ Im w a av s.env∧a.defers=[]∧nt<=a.tmps.size∧HidL φ0 φ args s.env
section
variable {P:Program} {fo:Fo} {vm:FuncId->Nat} {vmode:Nat->List Nat} {φ:Lay} {Im:Nat->Prop} {w:World} {h:aAR} {a:Act} {av:List Value} {e:Env} {F:Cf} {β:Type} {r:β×St} {w0:World} {Own0 Im0:Nat->Prop} {nt:Nat} {args:List D} {φ0:Lay}
theorem ER.put {t:Nat}{d:D}{v:Value}(he:ER fo φ Im w a av e)(ht:t<a.tmps.size)(h5:t<100000)(hd:RepD fo φ Im w d v):ER fo φ Im w (a.put (some t) v) av ((t,d) :: e):=by
 intro t' d' hl
 rw[aAV]at hl
 split at hl
 ·rename_i he'
  subst he'
  injection hl with hl
  subst hl
  refine⟨v,?_,hd⟩
  rw[if_pos h5]
  simp[Act.put,ht]
 ·rename_i hne
  obtain⟨v',h1,h2⟩:=he t' d' hl
  refine⟨v',?_,h2⟩
  rw[<- h1]
  split
  ·simp[Act.put,Array.getElem?_setIfInBounds_ne hne]
  ·rfl
theorem Inv.put (hfr:Fr fo w0 Own0 Im0 φ Im w h)(he:ER fo φ Im w a av e)(hd0:a.defers=[])(hsz:nt<=a.tmps.size)(hh:HidL φ0 φ args e)(h5:nt<=100000){dst:Option Nat}(hlt:∀ d,dst=some d->d<nt){d:D}{v:Value}(hd:RepD fo φ Im w d v){k:M β}(hr:(aRf dst k d).run F ⟨e,h⟩=some r) :
  ∃ s',k.run F s'=some r∧Inv fo w0 Own0 Im0 args φ0 av nt s' (a.put dst v) w:=by
 cases dst with
 | none=>exact⟨⟨e,h⟩,hr,φ,Im,hfr,he,hd0,hsz,hh⟩
 | some t=>
  have h1:=hlt t rfl
  refine⟨⟨(t,d) :: e,h⟩,hr,φ,Im,hfr,he.put (by omega) (by omega) hd,hd0,by simpa[Act.put]using hsz,?_⟩
  obtain⟨g,hg,hφ⟩:=hh
  refine⟨g,?_,hφ⟩
  rw[<- hg]
  show List.filter _ ((t,d) :: e)=_
  rw[List.filter_cons,if_neg (by simp;omega)]
  rfl
theorem aNZ (hF:aD0 P fo F)(hfo:∀ f,fo (vm f)=some f){all:Array Oper}{o:Oper}{ao:AO}(hao:AOof P vm vmode fo nt all o ao)(h5:nt<=100000){s:St}(hi:Inv fo w0 Own0 Im0 args φ0 av nt s a w){k:M β}(hr:(exO ao k).run F s=some r) :
  if Region.wanted o (yielded all a.tmps)=true then Lands P (execOp a.eval o) w fun v w'=>∃ s',k.run F s'=some r∧Inv fo w0 Own0 Im0 args φ0 av nt s' (a.put o.dst v) w'
  else ∃ s',k.run F s'=some r∧Inv fo w0 Own0 Im0 args φ0 av nt s' (a.put o.dst undef) w:=by
 obtain⟨e,h⟩:=s
 obtain⟨φ,Im,hfr,he,hd0,hsz,hh⟩:=hi
 obtain⟨⟨hint,hop⟩,hdst,hlt,hg⟩:=hao
 have go:(evO ao.nm (aRf ao.dst k) ao.op).run F ⟨e,h⟩=some r->Lands P (execOp a.eval o) w fun v w'=>∃ s',k.run F s'=some r∧Inv fo w0 Own0 Im0 args φ0 av nt s' (a.put o.dst v) w':=by
  intro hr
  refine (aRr hF hfo hfr.hs he hop hr).mono fun v w' hp=>?_
  obtain⟨d,φ',Im',h',g1,g2,g3⟩:=hp
  rw[hdst]at g1
  exact Inv.put (hfr.trans g2.fr) (he.stp hfr.hs g2) hd0 hsz (hh.up g2.up) h5 hlt g3 g1
 have no:(aRf ao.dst k .und).run F ⟨e,h⟩=some r->∃ s',k.run F s'=some r∧Inv fo w0 Own0 Im0 args φ0 av nt s' (a.put o.dst undef) w:=by
  intro hr
  rw[hdst]at hr
  exact Inv.put hfr he hd0 hsz hh h5 hlt .und hr
 unfold Region.wanted
 unfold exO at hr
 cases hgd:o.guard with
 | none=>
  rw[hgd]at hg
  simp only[hg]at hr
  simp only[if_true]
  exact go hr
 | some jw=>
  obtain⟨j,want⟩:=jw
  rw[hgd]at hg
  obtain⟨d,g1,g2,g3⟩:=hg
  simp only[g3]at hr
  obtain⟨x,hx,hr1⟩:=Option.bind_eq_some_iff.1 hr
  obtain⟨v,v1,v2⟩:=he d x hx
  rw[if_pos g2]at v1
  have hyb:∀ b,v=.bool b->yielded all a.tmps j=some b:=by
   intro b hb
   unfold yielded
   rw[g1]
   simp only[Option.bind_some,v1]
   subst hb;rfl
  have hyu:v=undef->yielded all a.tmps j=none:=by
   intro hb
   unfold yielded
   rw[g1]
   simp only[Option.bind_some,v1]
   subst hb;rfl
  show if (yielded all a.tmps j == some want)=true then _ else _
  unfold guO at hr1
  split at hr1
  ·rename_i b
   rw[hyb b v2.p_inv.b_inv]
   unfold aNR at hr1
   split at hr1
   ·rename_i hb
    have hb':b=want:=by simpa using hb
    subst hb'
    simp only[beq_self_eq_true,if_true]
    exact go hr1
   ·rename_i hb
    have hb':¬b=want:=by simpa using hb
    rw[if_neg (by simpa using hb')]
    exact no hr1
  ·cases v2
   rw[hyu rfl,if_neg (by simp)]
   exact no hr1
  ·cases hr1
theorem Lands.wp {o:Oper}{Q:Exit->Act->World->Prop}{K:Act->World->Prop}(hl:Lands P (execOp a.eval o) w fun v w'=>K (a.put o.dst v) w'):o.wp P a w K Q:=by
 unfold Lands at hl
 unfold Oper.wp
 split at hl
 ·rename_i he;rw[he];exact hl
 ·rename_i he;rw[he];exact hl
 ·rename_i f args w' he
  rw[he]
  refine Calls.mono hl fun e w'' ⟨v,h1,h2⟩=>?_
  subst h1;exact h2
 ·exact hl.elim
theorem aMg (hF:aD0 P fo F)(hfo:∀ f,fo (vm f)=some f)(h5:nt<=100000){all:Array Oper}{Q:Exit->Act->World->Prop}{s':St}(hQ:∀ a w,Inv fo w0 Own0 Im0 args φ0 av nt s' a w->Q .normal a w):∀ (l:List Oper) (aos:List AO) (s:St) (a:Act) (w:World),aos.length=l.length ->
  (∀ i (hi:i<l.length) (hi':i<aos.length),AOof P vm vmode fo nt all l[i] aos[i])->Inv fo w0 Own0 Im0 args φ0 av nt s a w->(bGq aos (.ret ())).run F s=some ((),s')->wpList P all Q l a w
 | [],aos,s,a,w,hl,_,hi,hr=>by
  have:aos=[]:=List.eq_nil_of_length_eq_zero hl
  subst this
  injection hr with hr
  injection hr with _ hr
  subst hr
  exact hQ a w hi
 | o :: l,[],s,a,w,hl,_,hi,hr=>by simp at hl
 | o :: l,ao :: aos,s,a,w,hl,hall,hi,hr=>by
  have hrest:=aMg hF hfo h5 (all:=all) hQ l aos
  have h1:=aNZ hF hfo (hall 0 (by simp) (by simp)) h5 hi hr
  unfold wpList
  simp only[List.getElem_cons_zero]at h1
  split
  · rename_i hw
    rw[if_pos hw]at h1
    refine .inl (Lands.wp (h1.mono fun v w' ⟨s1,g1,g2⟩=>?_))
    exact hrest s1 _ w' (by simpa using hl) (fun i hi hi'=>hall (i+1) (by simpa using hi) (by simpa using hi')) g2 g1
  · rename_i hw
    rw[if_neg hw]at h1
    obtain⟨s1,g1,g2⟩:=h1
    exact hrest s1 _ w (by simpa using hl) (fun i hi hi'=>hall (i+1) (by simpa using hi) (by simpa using hi')) g2 g1
theorem aJo {p:Nat->Bool}:∀ {e:Env} {t:Nat} {d:D},lk (e.filter fun x=>p x.1) t=some d->lk e t=some d
 | [],t,d,hl=>by cases hl
 | (k,x) :: e,t,d,hl=>by
  rw[List.filter_cons]at hl
  split at hl
  ·  rw[aAV]at hl ⊢
     split at hl
     ·rename_i he;rw[if_pos he];exact hl
     ·rename_i he;rw[if_neg he];exact aJo hl
  ·  rename_i hp
     have:=aJo hl
     rw[aAV]
     split
     ·rename_i he
      subst he
      have hm:=aHT hl
      have hm2:=(List.mem_filter.1 hm).2
      exact absurd hm2 hp
     ·exact this
theorem aPF:∀ {ks:List Nat} {e:Env} {t:Nat} {d:D},lk (kept ks e) t=some d->lk e t=some d
 | [],e,t,d,hl=>aJo (p:=fun k=>decide (100000<=k)) hl
 | k :: ks,e,t,d,hl=>by
  unfold kept at hl
  split at hl
  ·rename_i d' hd'
   rw[aAV]at hl
   split at hl
   ·rename_i he;subst he;injection hl with hl;subst hl;exact hd'
   ·exact aPF hl
  ·exact aPF hl
theorem aIU:∀ {ks:List Nat} {e:Env},(∀ t,t∈ks->t<100000)->aCD (kept ks e)=aCD e
 | [],e,_=>by simp[kept,aCD]
 | k :: ks,e,hk=>by
  unfold kept
  have ih:=aIU (ks:=ks) (e:=e) (fun t ht=>hk t (List.mem_cons_of_mem _ ht))
  split
  ·rename_i d' hd'
   have:=hk k List.mem_cons_self
   unfold aCD at ih ⊢
   rw[List.filter_cons,if_neg (by simp;omega)]
   exact ih
  ·exact ih
theorem aMy (f:Nat->Nat):∀ (L:Env) (t:Nat),lk ((L.map (·.1)).zip (D.renL f (L.map (·.2)))) t=(lk L t).map (D.ren f)
 | [],t=>rfl
 | (k,d) :: L,t=>by
  simp only[List.map_cons,D.renL,List.zip_cons_cons,aAV]
  split
  ·  rfl
  ·  exact aMy f L t
theorem aIr (f:Nat->Nat):∀ (L:Env),aCD ((L.map (·.1)).zip (D.renL f (L.map (·.2))))=(aCD L).map fun x=>(x.1,x.2.ren f)
 | []=>rfl
 | (k,d) :: L=>by
  have ih:=aIr f L
  unfold aCD at ih ⊢
  simp only[List.map_cons,D.renL,List.zip_cons_cons,List.filter_cons]
  split
  ·  rw[ih];rfl
  ·  exact ih
theorem aGg {keep:List Nat}{s s0:St}(hkp:∀ t,t∈keep->t<100000)(hk:aHy keep s=some s0)(hi:Inv fo w0 Own0 Im0 args φ0 av nt s a w):Inv fo w0 Own0 Im0 args φ0 av nt s0 a w:=by
 obtain⟨φ,Im,hfr,he,hd0,hsz,hh⟩:=hi
 obtain⟨⟨ds',h'⟩,hcan,hk⟩:=Option.bind_eq_some_iff.1 hk
 injection hk with hk
 subst hk
 obtain⟨ks,hnd,kin,kclo,rfl,kget,khc⟩:=aJV hcan
 obtain⟨hsc,hown⟩:=HS.canon hfr.hs hnd kclo kget khc
 refine⟨aLU φ ks,Im,⟨hsc,hfr.im,hfr.frame,fun g hg=>hfr.own g ?_,hfr.imnew,hfr.size,hfr.os,hfr.tape,hfr.output⟩,fun t d hl=>?_,hd0,hsz,?_⟩
 ·obtain⟨k,o,l,_,q⟩:=hown g hg
  exact⟨k,o,l,q⟩
 ·rw[aMy]at hl
  obtain⟨d0,h1,rfl⟩:=Option.map_eq_some_iff.1 hl
  obtain⟨v,h2,h3⟩:=he t d0 (aPF h1)
  refine⟨v,h2,h3.ren fun q hq=>aF8 (kin q ?_)⟩
  exact refsL_mem.2 ⟨d0,List.mem_map.2 ⟨_,aHT h1,rfl⟩,hq⟩
 ·obtain⟨g,hg,hφ⟩:=hh
  refine⟨fun k=>idx ks (g k),?_,fun k hk=>?_⟩
  rotate_left
  ·obtain⟨l,q1,q2⟩:=hφ k hk
   refine⟨l,q1,?_⟩
   show aLU φ ks (idx ks (g k))=some l
   rw[aF8 (kin (g k) ?_)]
   ·exact q2
   ·have hm:g k∈D.refsL ((aCD (kept keep s.env)).map (·.2)):=by
     rw[aIU hkp,hg,aQC,aHw]
     exact List.mem_map.2 ⟨k,hk,rfl⟩
    obtain⟨d,d1,d2⟩:=refsL_mem.1 hm
    obtain⟨x,x1,rfl⟩:=List.mem_map.1 d1
    exact refsL_mem.2 ⟨x.2,List.mem_map.2 ⟨x,(List.mem_filter.1 x1).1,rfl⟩,d2⟩
  show aCD ((List.map (·.1) (kept keep s.env)).zip (D.renL (idx ks) (List.map (·.2) (kept keep s.env))))=_
  rw[aIr,aIU hkp,hg,List.map_map]
  refine List.map_congr_left fun x _=>?_
  simp only[Function.comp,aP1]
end
end Am
end Go.Proofs.YtkmbhgggpfbffaaGreatDoor
