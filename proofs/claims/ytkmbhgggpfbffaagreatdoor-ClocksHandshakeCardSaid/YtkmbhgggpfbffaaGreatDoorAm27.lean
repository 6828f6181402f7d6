/- Regions whose order is open. -/
import Derived.Test.YtkmbhgggpfbffaaGreatDoorAm26
import Derived.Test.YtkmbhgggpfbffaaGreatDoorAm24
set_option linter.unusedVariables false
set_option linter.unusedSimpArgs false
set_option linter.constructorNameAsVariable false
namespace Go.Proofs.YtkmbhgggpfbffaaGreatDoor
namespace Am
theorem aNy {F:Cf}{α:Type}:∀ (m:M α) (s:St) (l:List Acc) (x:α) (s1:St) (l1:List Acc),m.runA F s l=some (x,s1,l1)->m.run F s=some (x,s1):=by
 intro m
 induction m with
 | ret a=>intro s l x s1 l1 h;simp only[M.runA,Option.some.injEq,Prod.mk.injEq]at h;obtain⟨rfl,rfl,_⟩:=h;rfl
 | fail=>intro s l x s1 l1 h;cases h
 | rd t k ih=>intro s l x s1 l1 h;obtain⟨d,h1,h2⟩:=Option.bind_eq_some_iff.1 h;exact Option.bind_eq_some_iff.2 ⟨d,h1,ih _ _ _ _ _ _ h2⟩
 | wr t d k ih=>intro s l x s1 l1 h;exact ih _ _ _ _ _ h
 | get key k ih=>intro s l x s1 l1 h;obtain⟨d,h1,h2⟩:=Option.bind_eq_some_iff.1 h;exact Option.bind_eq_some_iff.2 ⟨d,h1,ih _ _ _ _ _ _ h2⟩
 | set key o k ih=>intro s l x s1 l1 h;obtain⟨d,h1,h2⟩:=Option.bind_eq_some_iff.1 h;exact Option.bind_eq_some_iff.2 ⟨d,h1,ih _ _ _ _ _ h2⟩
 | cget key off k ih=>intro s l x s1 l1 h;obtain⟨d,h1,h2⟩:=Option.bind_eq_some_iff.1 h;obtain⟨d',h3,h4⟩:=Option.bind_eq_some_iff.1 h2;exact Option.bind_eq_some_iff.2 ⟨d,h1,Option.bind_eq_some_iff.2 ⟨d',h3,ih _ _ _ _ _ _ h4⟩⟩
 | cset key off d k ih=>intro s l x s1 l1 h;obtain⟨d,h1,h2⟩:=Option.bind_eq_some_iff.1 h;obtain⟨d',h3,h4⟩:=Option.bind_eq_some_iff.1 h2;exact Option.bind_eq_some_iff.2 ⟨d,h1,Option.bind_eq_some_iff.2 ⟨d',h3,ih _ _ _ _ _ h4⟩⟩
 | new key o k ih=>
  intro s l x s1 l1 h
  simp only[M.runA]at h
  simp only[M.run]
  split at h
  ·exact ih _ _ _ _ _ h
  ·cases h
 | call v ds h k ih=>intro s l x s1 l1 h;obtain⟨d,h1,h2⟩:=Option.bind_eq_some_iff.1 h;exact Option.bind_eq_some_iff.2 ⟨d,h1,ih _ _ _ _ _ _ _ _ h2⟩
inductive RunS (F:Cf) (L:Nat->AO):List (Nat×List Acc)->St->St->Prop
 | nil (s:St):RunS F L [] s s
 | cons (i:Nat) (l:List Acc) (r:List (Nat×List Acc)) (s s1 s2:St) (h:(exO (L i) (.ret ())).runA F s []=some ((),s1,l)) (hr:RunS F L r s1 s2):RunS F L ((i,l) :: r) s s2
theorem aMZ (o:AO):aCL (fun t=>t∈AO.rds o) (fun t=>o.dst=some t) (exO o (.ret ():M Unit)):=aYH (fun _ h=>h) (fun _ h=>h) trivial
theorem RunS.congr {F:Cf}{L:Nat->AO}{rem:List (Nat×List Acc)}{s r:St}(h:RunS F L rem s r):∀ {s':St},EQ s s'->∃ r',RunS F L rem s' r'∧EQ r r':=by
 induction h with
 | nil s=>intro s' he;exact⟨s',.nil s',he⟩
 | cons i l r s s1 s2 h hr ih=>
  intro s' he
  obtain⟨s1',q1,q2⟩:=bHm (aMZ (L i)) h he
  obtain⟨r',z1,z2⟩:=ih q2
  exact⟨r',.cons i l r s' s1' r' q1 z1,z2⟩
def bDA (L:Nat->AO)(x y:Nat×List Acc):Prop:=aOB y.2 x.2=false∧aHA (L x.1) (L y.1)=true
theorem aRA {a b:AO}(h:aHA a b=true):(∀ d,a.dst=some d->d ∉ b.rds)∧(∀ d,a.dst=some d->b.dst≠some d)∧∀ d,b.dst=some d->d ∉ a.rds:=by
 unfold aHA at h
 rw[Bool.and_eq_true]at h
 refine⟨fun d hd=>?_,fun d hd=>?_,fun d hd=>?_⟩
 ·have:=h.1;rw[hd]at this;simp at this;exact this.1
 ·have:=h.1;rw[hd]at this;simp at this;exact this.2
 ·have:=h.2;rw[hd]at this;simpa using this
theorem RunS.front {F:Cf}{L:Nat->AO}{j:Nat}{lj:List Acc}{B:List (Nat×List Acc)}:∀ {A:List (Nat×List Acc)} {s r:St},RunS F L (A++(j,lj) :: B) s r->(∀ x,x∈A->bDA L x (j,lj)) ->
  ∃ s1 r',(exO (L j) (.ret ())).runA F s []=some ((),s1,lj)∧RunS F L (A++B) s1 r'∧EQ r r'
 | [],s,r,h,_=>by
  cases h with
  | cons _ _ _ _ s1 _ h hr=>exact⟨s1,r,h,hr,.refl r⟩
 | (x,lx) :: A,s,r,h,hf=>by
  cases h with
  | cons _ _ _ _ s1 _ h hr=>
     obtain⟨t,r',q1,q2,q3⟩:=RunS.front hr (fun y hy=>hf y (List.mem_cons_of_mem _ hy))
     obtain⟨f1,f2⟩:=hf (x,lx) List.mem_cons_self
     obtain⟨a1,a2,a3⟩:=aRA f2
     obtain⟨t1',t2',z1,z2,z3⟩:=bP4 (aMZ (L x)) (aMZ (L j)) (fun t h=>a1 t h) (fun t h=>a3 t h) (fun t h=>a2 t h) h q1 f1
     obtain⟨r'',y1,y2⟩:=q2.congr z3
     exact⟨t1',r'',z1,.cons x lx _ _ _ _ z2 y1,q3.trans y2⟩
theorem RunS.hid {F:Cf}{L:Nat->AO}{rem:List (Nat×List Acc)}{s r:St}(h:RunS F L rem s r)(hd:∀ i d,(L i).dst=some d->d<100000):aCD r.env=aCD s.env:=by
 induction h with
 | nil s=>rfl
 | cons i l r s s1 s2 h hr ih=>
  rw[ih]
  obtain⟨l1,ps,ws,_,_,e3,e4,_,_⟩:=eff _ _ _ _ _ _ (aMZ (L i)) h
  rw[e4]
  unfold aCD
  rw[List.filter_append]
  have:ws.filter (fun x=>decide (100000<=x.1))=[]:=by
   rw[List.filter_eq_nil_iff]
   intro y hy
   have:=hd i _ (e3 y hy)
   simp;omega
  rw[this,List.nil_append]
theorem aPc {F:Cf}{L:Nat->AO}:∀ (ops:List AO) (i:Nat) (done:List (Nat×List Acc)) (s s':St),(∀ k (hk:k<ops.length),L (i+k)=ops[k])->aJj F i ops done s=some s' ->
  ∃ rem:List (Nat×List Acc),rem.map (·.1)=List.range' i ops.length∧RunS F L rem s s'∧(∀ x,x∈done->∀ y,y∈rem->x.1∈(L y.1).pre∨aOB y.2 x.2=false)∧rem.Pairwise fun x y=>x.1∈(L y.1).pre∨aOB y.2 x.2=false
 | [],i,done,s,s',_,h=>by
  injection h with h;subst h
  exact⟨[],rfl,.nil s,(fun x _ y hy=>by cases hy),.nil⟩
 | o :: ops,i,done,s,s',hL,h=>by
  have h0:L i=o:=hL 0 (by simp)
  unfold aJj at h
  obtain⟨⟨u,s1,l⟩,h1,h⟩:=Option.bind_eq_some_iff.1 h
  simp only at h
  split at h
  ·rename_i hf
   obtain⟨rem,q1,q2,q3,q4⟩:=aPc ops (i+1) ((i,l) :: done) s1 s' (fun k hk=>by rw[show i+1+k=i+(k+1)from by omega];exact hL (k+1) (by simpa using hk)) h
   have free:∀ (dn:List (Nat×List Acc)),aKI i o l dn=true->∀ x,x∈dn->x.1∈o.pre∨aOB l x.2=false:=by
    intro dn
    induction dn with
    | nil=>intro _ x hx;cases hx
    | cons y dn ih=>
     intro hf x hx
     obtain⟨j,acc'⟩:=y
     simp only[aKI,Bool.and_eq_true,Bool.or_eq_true,Bool.not_eq_true']at hf
     rcases List.mem_cons.1 hx with rfl | hx
     ·exact hf.1.imp (fun h=>by simpa using h) id
     ·exact ih hf.2 x hx
   refine⟨(i,l) :: rem,by simp[q1,List.range'_succ],.cons i l rem s s1 s' (by rw[h0];exact h1) q2,fun x hx y hy=>?_,List.Pairwise.cons (fun y hy=>q3 (i,l) List.mem_cons_self y hy) q4⟩
   rcases List.mem_cons.1 hy with rfl | hy
   ·show x.1∈(L i).pre∨_
    rw[h0];exact free done hf x hx
   ·exact q3 x (List.mem_cons_of_mem _ hx) y hy
  ·cases h
theorem aJ6:∀ (r:List AO) (i:Nat) (done:List AO),aLk r i done=true->∀ (p q:Nat) (hq:q<(done.reverse++r).length) (hp:p<q),done.length<=q->p∈(done.reverse++r)[q].pre∨aHA ((done.reverse++r)[p]'(by omega)) (done.reverse++r)[q]=true
 | [],i,done,_,p,q,hq,hp,hd=>by simp at hq;omega
 | o :: r,i,done,h,p,q,hq,hp,hd=>by
  unfold aLk at h
  rw[Bool.and_eq_true]at h
  have he:done.reverse++o :: r=(o :: done).reverse++r:=by simp
  by_cases hqd:q=done.length
  ·have hqo:(done.reverse++o :: r)[q]=o:=by
    subst hqd
    rw[List.getElem_append_right (by simp)]
    simp
   have hpd:p<done.reverse.length:=by simp;omega
   have hpp:(done.reverse++o :: r)[p]'(by omega)=done.reverse[p]:=List.getElem_append_left hpd
   rw[hqo,hpp]
   have:=List.all_eq_true.1 h.1 (done.reverse[p],p) (by
    rw[List.mem_zipIdx_iff_getElem?]
    simp[List.getElem?_eq_getElem hpd])
   simpa[Bool.or_eq_true]using this
  ·have hq2:q<((o :: done).reverse++r).length:=by rw[<- he];exact hq
   have:=aJ6 r (i+1) (o :: done) h.2 p q hq2 hp (by simp;omega)
   have e1:∀ (n:Nat) (h1:n<(done.reverse++o :: r).length) (h2:n<((o :: done).reverse++r).length),(done.reverse++o :: r)[n]=((o :: done).reverse++r)[n]:=by
    intro n h1 h2;simp only[he]
   rw[e1 q hq hq2,e1 p (by omega) (by omega)]
   exact this
theorem aQ4 {P:Program}{vm:FuncId->Nat}{vmode:Nat->List Nat}{fo:Fo}{hint:Hint}{nt:Nat}{all:Array Oper}:∀ (l:List Oper) (n:Nat) (done:List (List Nat)) (aos:List AO),bFF P vm vmode fo hint nt true all l n done=some aos ->
  ∀ i (hi:i<l.length) (hi':i<aos.length),aos[i].pre=(bCZ (((aos.take i).map (·.pre)).reverse++done) l[i].after.toList).eraseDups
 | [],n,done,aos,hc,i,hi,_=>absurd hi (by simp)
 | o :: l,n,done,aos,hc,i,hi,hi'=>by
  unfold bFF at hc
  dsimp only at hc
  split at hc
  ·cases hc
  ·obtain⟨op,h1,hc⟩:=Option.bind_eq_some_iff.1 hc
   obtain⟨g,h2,hc⟩:=Option.bind_eq_some_iff.1 hc
   obtain⟨as,h3,rfl⟩:=Option.map_eq_some_iff.1 hc
   cases i with
   | zero=>simp
   | succ i=>
    have:=aQ4 l _ _ as h3 i (by simpa using hi) (by simpa using hi')
    simp only[List.getElem_cons_succ,List.take_succ_cons,List.map_cons,List.reverse_cons,List.append_assoc,List.singleton_append]
    simpa using this
theorem aMj:∀ (l:List Oper) (i:Nat),aLh l i=true->∀ k (hk:k<l.length),∀ e,e∈l[k].after->Region.binds .any e=true->e.on<i+k
 | [],i,_,k,hk,_,_,_=>absurd hk (by simp)
 | o :: l,i,h,k,hk,e,he,hb=>by
  unfold aLh at h
  rw[Bool.and_eq_true]at h
  cases k with
  | zero=>
   have:=List.all_eq_true.1 h.1 e (by simpa using he)
   simpa[hb]using this
  | succ k=>
   have:=aMj l (i+1) h.2 k (by simpa using hk) e (by simpa using he) hb
   omega
end Am
end Go.Proofs.YtkmbhgggpfbffaaGreatDoor
