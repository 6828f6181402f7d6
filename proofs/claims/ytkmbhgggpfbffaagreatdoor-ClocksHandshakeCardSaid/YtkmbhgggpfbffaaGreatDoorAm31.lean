/- Maps; bytes of strings. -/
import Derived.Test.YtkmbhgggpfbffaaGreatDoorAm15
import Derived.MapKept
import Derived.Lib.ConvBytes
import Derived.Laws.BytesString
import Derived.Laws.IdiomStrings
set_option linter.unusedVariables false
set_option linter.unusedSimpArgs false
set_option linter.constructorNameAsVariable false
namespace Go.Proofs.YtkmbhgggpfbffaaGreatDoor
namespace Am
section
variable {P:Program} {fo:Fo} {vm:FuncId->Nat} {φ:Lay} {Im:Nat->Prop} {w:World} {h:aAR} {a:Act} {av:List Value} {e:Env} {F:Cf} {β:Type} {r:β×St}
theorem aMo (a b:ByteArray):(a == b)=true↔a=b:=by
 obtain⟨x⟩:=a
 obtain⟨y⟩:=b
 constructor
 ·intro h
  have e:x=y:=by simpa using (show (x == y)=true from h)
  rw[e]
 ·intro h
  cases h
  show (x == x)=true
  simp
theorem aSA {w:World}{r:Nat}{o o':Obj}(hb:w.heap[r]? = some o):(w.heap.setIfInBounds r o')[r]? = some o'∧∀ r',r'≠r->(w.heap.setIfInBounds r o')[r']? = w.heap[r']? := by
 have hlt:r<w.heap.size:=(Array.getElem?_eq_some_iff.1 hb).1
 exact⟨by simp[hlt],fun r' hne=>by simp[Ne.symm hne]⟩
theorem aJC {t:TypeId}{kd:Nat}{z:V}(hm:aRY P t=some (kd,z)):∃ k e d i zv,P.underlying t=some (.map k e)∧P.underlying k=some d∧aF2 P k=some kd∧P.info? e=some i∧i.zero=some zv∧aL5 z zv=true:=by
 unfold aRY at hm
 split at hm
 ·rename_i k e ht
  obtain⟨kd',hk,hm⟩:=Option.bind_eq_some_iff.1 hm
  split at hm
  ·rename_i z' zv h1 h2
   split at hm
   ·rename_i h3
    injection hm with hm
    injection hm with e1 e2
    subst e1 e2
    obtain⟨i,hi,hz⟩:=Option.bind_eq_some_iff.1 h2
    have hd:∃ d,P.underlying k=some d:=by
     unfold aF2 at hk
     split at hk <;> first | exact⟨_,by assumption⟩ | cases hk
    obtain⟨d,hd⟩:=hd
    exact⟨k,e,d,i,zv,ht,hd,hk,hi,hz,h3⟩
   ·cases hm
  ·cases hm
 ·cases hm
theorem aHJ {v:V}{x:Value}(hz:aL5 v x=true):RepV fo Im w v x:=by
 rcases aMG hz with⟨sz,rfl,rfl⟩ | ⟨_,h⟩
 ·exact .sl sz [] none 0 0 (fun _ _=>.bool false) rfl (Nat.le_refl _) (fun i hi=>absurd hi (by simp)) (fun h=>absurd rfl h) (fun i j hi=>absurd hi (by simp))
 ·exact h fo Im w
theorem aKL {k:TypeId}{d:TypeDesc}{kd:Nat}(hk:aF2 P k=some kd)(hd:P.underlying k=some d):(kd=0∧∃ q,d=.int q)∨(kd=1∧d=.bool)∨(kd=2∧d=.string):=by
 unfold aF2 at hk
 rw[hd]at hk
 split at hk
 ·rename_i q hq;injection hk with hk;injection hq with hq;exact .inl ⟨hk.symm,q,hq⟩
 ·rename_i hq;injection hk with hk;injection hq with hq;exact .inr (.inl ⟨hk.symm,hq⟩)
 ·rename_i hq;injection hk with hk;injection hq with hq;exact .inr (.inr ⟨hk.symm,hq⟩)
 ·cases hk
theorem aDw {kt:TypeId}{d:TypeDesc}{kd:Nat}(hk:aF2 P kt=some kd)(hd:P.underlying kt=some d)(x:Value)(b:Bool)(n:Nat):(Instr.checkKey b (n+1) kt x).run P w=.ok () w:=by
 unfold Instr.checkKey
 simp only[Sem.run_bind,run_underlying hd,Result.andThen]
 rcases aKL hk hd with⟨_,q,rfl⟩ | ⟨_,rfl⟩ | ⟨_,rfl⟩ <;> rfl
theorem aUO {k:TypeId}{d:TypeDesc}{kd:Nat}(hk:aF2 P k=some kd)(hd:P.underlying k=some d){u v:V}{x y:Value}{b:Bool}(hb:eqV kd u v=some b)(hx:RepV fo Im w u x)(hy:RepV fo Im w v y) :
  Instr.sameNow d x y=some b∧(b=true->∀ n,Instr.sameBits n y x=true):=by
 rcases aKL hk hd with⟨rfl,q,rfl⟩ | ⟨rfl,rfl⟩ | ⟨rfl,rfl⟩
 ·unfold eqV at hb
  split at hb
  ·rename_i hq;rw[RepV.i_inv hx,RepV.i_inv hy]
   split at hb
   ·rename_i hkk;subst hkk
    injection hb with hb;subst hb
    refine⟨?_,fun ht n=>?_⟩
    ·simp only[Instr.sameNow,if_true,Option.some.injEq];rw[Bool.eq_iff_iff,beq_iff_eq,decide_eq_true_iff]
    ·rw[of_decide_eq_true ht];cases n <;> simp[Instr.sameBits]
   ·cases hb
  ·rename_i hq;cases hq
  ·rename_i hq;cases hq
  ·cases hb
 ·unfold eqV at hb
  split at hb
  ·rename_i hq;cases hq
  ·rw[RepV.b_inv hx,RepV.b_inv hy]
   injection hb with hb;subst hb
   refine⟨rfl,fun ht n=>?_⟩
   rw[beq_iff_eq]at ht;subst ht;cases n <;> simp[Instr.sameBits]
  ·rename_i hq;cases hq
  ·cases hb
 ·unfold eqV at hb
  split at hb
  ·rename_i hq;cases hq
  ·rename_i hq;cases hq
  ·rw[RepV.s_inv hx,RepV.s_inv hy]
   injection hb with hb;subst hb
   refine⟨?_,fun ht n=>?_⟩
   ·rename_i aa bb _
    show some (aa == bb)=_
    congr 1
    rw[Bool.eq_iff_iff,aMo,decide_eq_true_iff]
   ·rw[of_decide_eq_true ht];cases n <;> simp[Instr.sameBits,aMo]
  ·cases hb
def MRep (fo:Fo)(Im:Nat->Prop)(w:World)(es:List (V×Nat×V))(es':List MapEntry):Prop:=
 es.length=es'.length∧∀ i (h:i<es.length) (h':i<es'.length),RepV fo Im w es[i].1 es'[i].key∧es[i].2.1=es'[i].born∧RepV fo Im w es[i].2.2 es'[i].val
theorem MRep.tail {x:V×Nat×V}{es:List (V×Nat×V)}{y:MapEntry}{es':List MapEntry}(hm:MRep fo Im w (x :: es) (y :: es')):MRep fo Im w es es':=
 ⟨by simpa using hm.1,fun i hi hi'=>hm.2 (i+1) (by simpa using hi) (by simpa using hi')⟩
theorem MRep.head {x:V×Nat×V}{es:List (V×Nat×V)}{y:MapEntry}{es':List MapEntry}(hm:MRep fo Im w (x :: es) (y :: es')):RepV fo Im w x.1 y.key∧x.2.1=y.born∧RepV fo Im w x.2.2 y.val:=hm.2 0 (by simp) (by simp)
theorem aHX {k:TypeId}{d:TypeDesc}{kd:Nat}(hk:aF2 P k=some kd)(hd:P.underlying k=some d){u:V}{x:Value}(hx:RepV fo Im w u x):∀ (es:List (V×Nat×V)) (es':List MapEntry) (i:Nat) (j:Option Nat),MRep fo Im w es es'->mix kd u es=some j ->
  (j=none∧Instr.findNow d x es' i=some none)∨∃ q,j=some q∧∃ (h1:q<es.length) (h2:q<es'.length),Instr.findNow d x es' i=some (some (i+q,es'[q].val))∧∀ n,Instr.sameBits n es'[q].key x=true
 | [],[],i,j,hm,h=>by injection h with h;exact .inl ⟨h.symm,rfl⟩
 | [],_ :: _,i,j,hm,h=>by have:=hm.1;simp at this
 | _ :: _,[],i,j,hm,h=>by have:=hm.1;simp at this
 | e :: es,y :: es',i,j,hm,h=>by
  unfold mix at h
  obtain⟨b,hb,h⟩:=Option.bind_eq_some_iff.1 h
  obtain⟨s1,s2⟩:=aUO hk hd hb hx hm.head.1
  cases b with
  | true=>
    simp only[if_true,Option.some.injEq]at h;subst h
    exact .inr ⟨0,rfl,by simp,by simp,by simp[Instr.findNow,s1],fun n=>s2 rfl n⟩
  | false=>
    simp only[Bool.false_eq_true,if_false]at h
    obtain⟨j',h1,rfl⟩:=Option.map_eq_some_iff.1 h
    rcases aHX hk hd hx es es' (i+1) j' hm.tail h1 with⟨rfl,h2⟩ | ⟨q,rfl,q1,q2,h2,h3⟩
    ·exact .inl ⟨rfl,by simp[Instr.findNow,s1,h2]⟩
    ·exact .inr ⟨q+1,rfl,by simpa using q1,by simpa using q2,by simp[Instr.findNow,s1,h2];omega,by simpa using h3⟩
theorem aLe {k:Nat->Nat->List (V×Nat×V)->M β}{d:D}(hr:(mpO k d).run F ⟨e,h⟩=some r):∃ key c es,d=.mp key∧lk h key=some (.mp c es)∧(k key c es).run F ⟨e,h⟩=some r:=by
 unfold mpO at hr
 split at hr
 ·obtain⟨o,hk,g⟩:=aBN hr
  unfold mpK at g
  split at g
  ·exact⟨_,_,_,rfl,hk,g⟩
  ·cases g
 ·cases hr
theorem aMO (hs:HS fo φ Im w h){key c:Nat}{es:List (V×Nat×V)}(hk:lk h key=some (.mp c es)){x:Value}(hd:RepD fo φ Im w (.mp key) x):∃ g es',φ key=some (RL.box g)∧x=.map (some g)∧w.heap[g]? = some (.map (List.toArray es') c)∧MRep fo Im w es es':=by
 obtain⟨g,es',h1,h2,h3,h4⟩:=hs.rep key _ hk
 cases hd with
 | mp _ g' hφ=>
  rw[h1]at hφ;injection hφ with hφ
  have:g=g':=by injection hφ
  subst this
  exact⟨g,es',h1,rfl,h2,h3,h4⟩
theorem aI0 (hs:HS fo φ Im w h){key c c':Nat}{es es2:List (V×Nat×V)}(hk:lk h key=some (.mp c es)){g:Nat}(hφ:φ key=some (RL.box g)){es' es2':List MapEntry}(hg:w.heap[g]? = some (.map (List.toArray es') c))(hm:MRep fo Im w es2 es2') :
  Stp fo φ Im w h φ Im { w with heap:=w.heap.setIfInBounds g (.map (List.toArray es2') c') } ((key,.mp c' es2) :: h):=by
 have hh:=aSA (w:=w) (o':=.map (List.toArray es2') c') hg
 have hni:∀ g',Im g'->g'≠g:=fun g' hi he=>hs.imm g' ⟨key,_,_,hk,rfl,hφ,rfl,he.symm⟩ hi
 refine aJi hs hk rfl hφ rfl (fun g' hne=>hh.2 g' hne) (by simp) rfl rfl rfl ⟨g,es2',hφ,hh.1,hm.1,fun i hi hi'=>?_⟩
 obtain⟨q1,q2,q3⟩:=hm.2 i hi hi'
 exact⟨q1.mono (fun _ h=>h) (fun g' hi=>hh.2 g' (hni g' hi)),q2,q3.mono (fun _ h=>h) (fun g' hi=>hh.2 g' (hni g' hi))⟩
theorem MRep.mono {Im':Nat->Prop}{w':World}{es:List (V×Nat×V)}{es':List MapEntry}(hm:MRep fo Im w es es')(hI:∀ g,Im g->Im' g)(hw:∀ g,Im g->w'.heap[g]? = w.heap[g]?):MRep fo Im' w' es es':=
 ⟨hm.1,fun i a b=>⟨(hm.2 i a b).1.mono hI hw,(hm.2 i a b).2.1,(hm.2 i a b).2.2.mono hI hw⟩⟩
theorem MRep.push {es:List (V×Nat×V)}{es':List MapEntry}(hm:MRep fo Im w es es'){u y:V}{c:Nat}{x:MapEntry}(h1:RepV fo Im w u x.key)(h2:c=x.born)(h3:RepV fo Im w y x.val):MRep fo Im w (es++[(u,c,y)]) (es'++[x]):=by
 refine⟨by simp[hm.1],fun i hi hi'=>?_⟩
 by_cases hlt:i<es.length
 ·rw[List.getElem_append_left hlt,List.getElem_append_left (by rw[<- hm.1];exact hlt)]
  exact hm.2 i hlt _
 ·have e1:i=es.length:=by simp at hi;omega
  subst e1
  have e2:=hm.1
  rw[List.getElem_append_right (by omega),List.getElem_append_right (by omega)]
  simp only[List.getElem_singleton]
  exact⟨h1,h2,h3⟩
theorem MRep.modify {es:List (V×Nat×V)}{es':List MapEntry}(hm:MRep fo Im w es es'){j:Nat}{f:V×Nat×V->V×Nat×V}{f':MapEntry->MapEntry}(hf:∀ (h1:j<es.length) (h2:j<es'.length),RepV fo Im w (f es[j]).1 (f' es'[j]).key∧(f es[j]).2.1=(f' es'[j]).born∧RepV fo Im w (f es[j]).2.2 (f' es'[j]).val) :
  MRep fo Im w (es.modify j f) (es'.modify j f'):=by
 refine⟨by simp[hm.1],fun i hi hi'=>?_⟩
 simp only[List.length_modify]at hi hi'
 rw[List.getElem_modify,List.getElem_modify]
 by_cases hj:j=i
 ·subst hj;rw[if_pos rfl,if_pos rfl];exact hf hi hi'
 ·rw[if_neg hj,if_neg hj];exact hm.2 i hi hi'
theorem MRep.erase:∀ {es:List (V×Nat×V)} {es':List MapEntry} (_:MRep fo Im w es es') (j:Nat),MRep fo Im w (es.eraseIdx j) (es'.eraseIdx j)
 | [],[],hm,j=>hm
 | [],_ :: _,hm,j=>by have:=hm.1;simp at this
 | _ :: _,[],hm,j=>by have:=hm.1;simp at this
 | e :: es,y :: es',hm,0=>hm.tail
 | e :: es,y :: es',hm,j+1=>by
  have:=MRep.erase hm.tail j
  refine⟨by simpa using this.1,fun i hi hi'=>?_⟩
  cases i with
  | zero=>exact hm.head
  | succ i=>exact this.2 i (by simpa using hi) (by simpa using hi')
theorem bF6 (hs:HS fo φ Im w h){t:TypeId}{nm:Nat}{k:D->M β}(hr:(evO nm k .mk).run F ⟨e,h⟩=some r):GivesW P fo φ Im w h e F r (Instr.makeMap t none) k:=by
 obtain⟨hn,g⟩:=aFd hr
 exact⟨_,_,Im,_,_,_,g,aP3 hs hn (l:=RL.box w.heap.size) rfl (.map #[] 0) ⟨w.heap.size,[],if_pos rfl,by rw[heap_alloc,if_pos rfl],rfl,fun i hi=>absurd hi (by simp)⟩,.mp nm w.heap.size (if_pos rfl),by simp[Instr.makeMap,Result.andThen]⟩
theorem aNt (hfo:∀ f,fo (vm f)=some f)(hs:HS fo φ Im w h)(he:ER fo φ Im w a av e){k1 k2:Nat}{t1 t2:Option TypeId}{x y:Operand}{x' y':Od}(hx:cOd P vm t1 k1 x=some x')(hy:cOd P vm t2 k2 y=some y'){k:D->V->M β}
  (hr:(vl x' fun d=>vl y' (asP fun u=>k d u)).run F ⟨e,h⟩=some r):∃ d u φ' h',(k d u).run F ⟨e,h'⟩=some r∧Stp fo φ Im w h φ' Im w h'∧RepD fo φ' Im w d (a.eval x)∧RepV fo Im w u (a.eval y):=by
 obtain⟨d,φ1,h1,g1,s1,r1⟩:=aAH hfo hs he hx hr
 obtain⟨d2,φ2,h2,g2,s2,r2⟩:=aAH hfo s1.fr.hs (he.stp hs s1) hy g1
 obtain⟨u,rfl,g3⟩:=aNa g2
 exact⟨d,u,φ2,h2,g3,s1.trans s2,r1.stp s1.fr.hs s2,r2.p_inv⟩
theorem aTf {es:List (V×Nat×V)}{q:Nat}(hq:q<es.length):bAs es (some q)=some es[q].2.2:=by
 simp[bAs,List.getElem?_eq_getElem hq]
theorem bEA (hfo:∀ f,fo (vm f)=some f)(hs:HS fo φ Im w h)(he:ER fo φ Im w a av e){k1 k2 nm:Nat}{t1 t2:Option TypeId}{x y:Operand}{x' y':Od}(hx:cOd P vm t1 k1 x=some x')(hy:cOd P vm t2 k2 y=some y'){t:TypeId}{kd:Nat}{z:V}(hm:aRY P t=some (kd,z)){ok:Bool}{k:D->M β}
  (hr:(evO nm k (.mq kd z ok x' y')).run F ⟨e,h⟩=some r):Gives P fo φ Im w h e F r (Instr.lookup t (a.eval x) (a.eval y) ok) k:=by
 obtain⟨kt,et,d,i,zv,q1,q2,q3,q4,q5,q6⟩:=aJC hm
 obtain⟨dm,u,φ1,h1,g1,s1,r1,r2⟩:=aNt (k:=fun d u=>mpO (fun _ _ es=>oret (mix kd u es) fun j=>k (mqR ok z (bAs es j))) d) hfo hs he hx hy hr
 obtain⟨key,c,es,rfl,hk,g2⟩:=aLe g1
 obtain⟨j,hj,g3⟩:=aBO g2
 obtain⟨g,es',hφ,ev,hg,hrep⟩:=aMO s1.fr.hs hk r1
 rw[ev]
 have hz:(zeroValue et).run P w=.ok zv w:=by simp[zeroValue,typeInfo,q4,q5,Result.andThen]
 rcases aHX q3 q2 r2 es es' 0 j hrep hj with⟨rfl,hf⟩ | ⟨q,rfl,p1,p2,hf,_⟩
 ·have hrun:(Instr.lookup t (.map (some g)) (a.eval y) ok).run P w=.ok (if ok then .tuple #[zv,.bool false]else zv) w:=by
    simp[Instr.lookup,run_underlying q1,MapKept.run_getObj_map hg,aDw q3 q2,MapKept.run_findKey q2 hf,hz,Result.andThen]
  refine⟨_,φ1,h1,_,g3,s1,?_,hrun⟩
  cases ok with
  | true=>exact .tup [.p z,.p (.b false)] [zv,.bool false] rfl (fun i hi hi'=>by
     match i,hi with
     | 0,_=>exact .p _ _ (aHJ q6)
     | 1,_=>exact .p _ _ (.b _))
  | false=>exact .p _ _ (aHJ q6)
 ·rw[Nat.zero_add]at hf
  have hrun:(Instr.lookup t (.map (some g)) (a.eval y) ok).run P w=.ok (if ok then .tuple #[es'[q].val,.bool true]else es'[q].val) w:=by
    simp[Instr.lookup,run_underlying q1,MapKept.run_getObj_map hg,aDw q3 q2,MapKept.run_findKey q2 hf,Result.andThen]
  have hv:=(hrep.2 q p1 p2).2.2
  rw[aTf p1]at g3
  refine⟨_,φ1,h1,_,g3,s1,?_,hrun⟩
  cases ok with
  | true=>exact .tup [.p es[q].2.2,.p (.b true)] [es'[q].val,.bool true] rfl (fun i hi hi'=>by
     match i,hi with
     | 0,_=>exact .p _ _ hv
     | 1,_=>exact .p _ _ (.b _))
  | false=>exact .p _ _ hv
theorem bBl {α:Type}(l:List α)(i:Nat)(f:α->α):(List.toArray l).modify i f=(l.modify i f).toArray:=by simp
theorem aOO {o n:Value}(h:∀ m,Instr.sameBits m o n=true):(Instr.keyThatStays o n).run P w=.ok n w:=by simp[Instr.keyThatStays,h]
theorem bEw (hfo:∀ f,fo (vm f)=some f)(hs:HS fo φ Im w h)(he:ER fo φ Im w a av e){k1 k2 k3 nm:Nat}{t1 t2 t3:Option TypeId}{x y v:Operand}{x' y' v':Od}(hx:cOd P vm t1 k1 x=some x')(hy:cOd P vm t2 k2 y=some y')(hv:cOd P vm t3 k3 v=some v'){t:TypeId}{kd:Nat}{z:V}(hm:aRY P t=some (kd,z)){o:Oper}(ho:o.op=.mapUpdate t x y v∨o.op=.insert t x y v){k:D->M β}
  (hr:(evO nm k (.mu kd x' y' v')).run F ⟨e,h⟩=some r):Good P fo φ Im w h e F r (execOp a.eval o) k:=by
 obtain⟨kt,et,d,i,zv,q1,q2,q3,q4,q5,q6⟩:=aJC hm
 obtain⟨dm,u,φ1,h1,g1,s1,r1,r2⟩:=aNt (k:=fun d u=>vl v' fun dv=>toV true 300 dv fun y=>mpO (fun key c es=>oret (mix kd u es) fun j=>.set key (.mp (bAq u y c es j).1 (bAq u y c es j).2) (k .und)) d) hfo hs he hx hy hr
 obtain⟨dv,φ2,h2,g2,s2,r3⟩:=aAH hfo s1.fr.hs (he.stp hs s1) hv g1
 obtain⟨yv,Im3,h3,g3,s3,r4,f3⟩:=aNj 300 dv _ φ2 Im h2 _ s2.fr.hs r3 g2
 obtain⟨key,c,es,rfl,hk,g4⟩:=aLe g3
 obtain⟨j,hj,g5⟩:=aBO g4
 obtain⟨_,_,g6⟩:=aFf g5
 have s123:=(s1.trans s2).trans s3
 have rr1:=(r1.stp s1.fr.hs (s2.trans s3))
 have rr2:RepV fo Im3 w u (a.eval y):=r2.mono s3.fr.im (fun _ _=>rfl)
 obtain⟨g,es',hφ,ev,hg,hrep⟩:=aMO s3.fr.hs hk rr1
 have hex:∀ w',(Instr.mapUpdate t (.map (some g)) (a.eval y) (a.eval v)).run P w=.ok () w'->(execOp a.eval o).run P w=.ok .skip w':=by
  intro w' hw'
  rcases ho with ho | ho <;> simp[execOp,ho,ev,hw',Result.andThen]
 rcases aHX q3 q2 rr2 es es' 0 j hrep hj with⟨rfl,hf⟩ | ⟨q,rfl,p1,p2,hf,hsb⟩
 ·have s4:=aI0 (c':=c+1) s3.fr.hs hk hφ hg (hrep.push (y:=yv) (c:=c) (x:={ key:=a.eval y,val:=a.eval v,born:=c }) rr2 rfl r4)
  refine⟨_,_,_,_,_,undef,g6,s123.trans s4,.und,.inr ⟨hex _ ?_,rfl⟩⟩
  simp[Instr.mapUpdate,run_underlying q1,MapKept.run_getObj_map hg,aDw q3 q2,MapKept.run_findKey q2 hf,MapKept.run_setObj_map _ hg,Result.andThen]
 ·rw[Nat.zero_add]at hf
  have s4:=aI0 (c':=c) s3.fr.hs hk hφ hg (hrep.modify (j:=q) (f:=fun e=>(u,e.2.1,yv)) (f':=fun e=>{ e with key:=a.eval y,val:=a.eval v }) fun h1 h2=>⟨rr2,(hrep.2 q h1 h2).2.1,r4⟩)
  refine⟨_,_,_,_,_,undef,g6,s123.trans s4,.und,.inr ⟨hex _ ?_,rfl⟩⟩
  simp[Instr.mapUpdate,run_underlying q1,MapKept.run_getObj_map hg,aDw q3 q2,MapKept.run_findKey q2 hf,MapKept.run_setObj_map _ hg,Result.andThen,p2,aOO hsb]
theorem bBv (hfo:∀ f,fo (vm f)=some f)(hs:HS fo φ Im w h)(he:ER fo φ Im w a av e){k1 k2 nm:Nat}{t1 t2:Option TypeId}{x y:Operand}{x' y':Od}(hx:cOd P vm t1 k1 x=some x')(hy:cOd P vm t2 k2 y=some y'){t:TypeId}{kd:Nat}{z:V}(hm:aRY P t=some (kd,z)){k:D->M β}
  (hr:(evO nm k (.me kd z x' y')).run F ⟨e,h⟩=some r):GivesW P fo φ Im w h e F r (Instr.mapEntry t (a.eval x) (a.eval y)) k:=by
 obtain⟨kt,et,d,i,zv,q1,q2,q3,q4,q5,q6⟩:=aJC hm
 obtain⟨dm,u,φ1,h1,g1,s1,r1,r2⟩:=aNt (k:=fun d u=>mpO (fun key c es=>oret (mix kd u es) fun j=>.set key (.mp (aLS u z c es j).1 (aLS u z c es j).2.1) (k (.tup [.p (aLS u z c es j).2.2.1,.p (.i .i64 (aLS u z c es j).2.2.2)]))) d) hfo hs he hx hy hr
 obtain⟨key,c,es,rfl,hk,g2⟩:=aLe g1
 obtain⟨j,hj,g3⟩:=aBO g2
 obtain⟨_,_,g4⟩:=aFf g3
 obtain⟨g,es',hφ,ev,hg,hrep⟩:=aMO s1.fr.hs hk r1
 rw[ev]
 have hz:(zeroValue et).run P w=.ok zv w:=by simp[zeroValue,typeInfo,q4,q5,Result.andThen]
 have tup:∀ {Im':Nat->Prop} {w':World} {p:V} {v:Value} {n:Nat},RepV fo Im' w' p v->RepD fo φ1 Im' w' (.tup [.p p,.p (.i .i64 n)]) (.tuple #[v,goInt n]):=fun hp=>.tup [_,_] [_,_] rfl (fun i hi hi'=>by
  match i,hi with
  | 0,_=>exact .p _ _ hp
  | 1,_=>exact .p _ _ (.i _ _))
 rcases aHX q3 q2 r2 es es' 0 j hrep hj with⟨rfl,hf⟩ | ⟨q,rfl,p1,p2,hf,hsb⟩
 ·have s4:=aI0 (c':=c+1) s1.fr.hs hk hφ hg (hrep.push (y:=z) (c:=c) (x:={ key:=a.eval y,val:=zv,born:=c }) r2 rfl (aHJ q6))
  refine⟨_,_,_,_,_,_,g4,s1.trans s4,tup (aHJ q6),?_⟩
  simp[Instr.mapEntry,run_underlying q1,MapKept.run_getObj_map hg,aDw q3 q2,MapKept.run_findKey q2 hf,MapKept.run_setObj_map _ hg,hz,Result.andThen]
  rfl
 ·rw[Nat.zero_add]at hf
  have s4:=aI0 (c':=c) s1.fr.hs hk hφ hg (hrep.modify (j:=q) (f:=fun e=>(u,e.2.1,e.2.2)) (f':=fun e=>{ e with key:=a.eval y }) fun h1 h2=>⟨r2,(hrep.2 q h1 h2).2.1,(hrep.2 q h1 h2).2.2⟩)
  have hb:=(hrep.2 q p1 p2).2.1
  have hv:=(hrep.2 q p1 p2).2.2
  have e1:(aLS u z c es (some q)).2.2.1=es[q].2.2:=by simp[aLS,List.getElem?_eq_getElem p1]
  have e2:(aLS u z c es (some q)).2.2.2=es'[q].born:=by simp[aLS,List.getElem?_eq_getElem p1,hb]
  rw[e1,e2]at g4
  have hrun:(Instr.mapEntry t (.map (some g)) (a.eval y)).run P w=.ok (.tuple #[es'[q].val,goInt es'[q].born]) { w with heap:=w.heap.setIfInBounds g (.map (List.toArray (es'.modify q fun e=>{ e with key:=a.eval y })) c) }:=by
    simp[Instr.mapEntry,run_underlying q1,MapKept.run_getObj_map hg,aDw q3 q2,MapKept.run_findKey q2 hf,MapKept.run_setObj_map _ hg,Result.andThen,p2,aOO hsb]
  exact⟨_,_,_,_,_,_,g4,s1.trans s4,tup (hv.mono (fun _ h=>h) (s4.imold s1.fr.hs)),hrun⟩
theorem aKP {n:Int}:∀ {es:List (V×Nat×V)} {es':List MapEntry},MRep fo Im w es es'->(es.findIdx? fun e=>(e.2.1:Int) == n)=(es'.findIdx? fun e=>(e.born:Int) == n)
 | [],[],_=>rfl
 | [],_ :: _,hm=>by have:=hm.1;simp at this
 | _ :: _,[],hm=>by have:=hm.1;simp at this
 | e :: es,y :: es',hm=>by
  rw[List.findIdx?_cons,List.findIdx?_cons,hm.head.2.1,aKP hm.tail]
theorem bFS (hfo:∀ f,fo (vm f)=some f)(hs:HS fo φ Im w h)(he:ER fo φ Im w a av e){k1 k2 k3 nm:Nat}{t1 t2 t3:Option TypeId}{x y v:Operand}{x' y' v':Od}(hx:cOd P vm t1 k1 x=some x')(hy:cOd P vm t2 k2 y=some y')(hv:cOd P vm t3 k3 v=some v'){t:TypeId}{o:Oper}(ho:o.op=.entryStore t x y v){k:D->M β}
  (hr:(evO nm k (.mt x' y' v')).run F ⟨e,h⟩=some r):Good P fo φ Im w h e F r (execOp a.eval o) k:=by
 obtain⟨dm,φ0,h0,g0,s0,r0⟩:=aAH hfo hs he hx hr
 obtain⟨kd,n,φ1,h1,g1,s1',ev2⟩:=vlI hfo s0.fr.hs (he.stp hs s0) hy g0
 have s1:=s0.trans s1'
 have r1:=r0.stp s0.fr.hs s1'
 obtain⟨dv,φ2,h2,g2,s2,r3⟩:=aAH hfo s1.fr.hs (he.stp hs s1) hv g1
 obtain⟨yv,Im3,h3,g3,s3,r4,f3⟩:=aNj 300 dv _ φ2 Im h2 _ s2.fr.hs r3 g2
 obtain⟨key,c,es,rfl,hk,g4⟩:=aLe g3
 obtain⟨j,hj,g5⟩:=aBO g4
 obtain⟨_,_,g6⟩:=aFf g5
 have s123:=(s1.trans s2).trans s3
 have rr1:=(r1.stp s1.fr.hs (s2.trans s3))
 obtain⟨g,es',hφ,ev,hg,hrep⟩:=aMO s3.fr.hs hk rr1
 have s4:=aI0 (c':=c) s3.fr.hs hk hφ hg (hrep.modify (j:=j) (f:=fun e=>(e.1,e.2.1,yv)) (f':=fun e=>{ e with val:=a.eval v }) fun h1 h2=>⟨(hrep.2 j h1 h2).1,(hrep.2 j h1 h2).2.1,r4⟩)
 refine⟨_,_,_,_,_,undef,g6,s123.trans s4,.und,.inr ⟨?_,rfl⟩⟩
 rw[aKP hrep]at hj
 have hj':(List.toArray es').findIdx? (fun e=>(e.born:Int) == n)=some j:=by simpa using hj
 simp[execOp,ho,ev,ev2,Instr.entryStore,asInt,asIntOf,MapKept.run_getObj_map hg,MapKept.run_setObj_map _ hg,hj',Result.andThen]
theorem bEg (hfo:∀ f,fo (vm f)=some f)(hs:HS fo φ Im w h)(he:ER fo φ Im w a av e){k1 k2 nm:Nat}{t1 t2:Option TypeId}{x y:Operand}{x' y':Od}(hx:cOd P vm t1 k1 x=some x')(hy:cOd P vm t2 k2 y=some y'){t:TypeId}{kd:Nat}{z:V}(hm:aRY P t=some (kd,z)){ts:Array TypeId}(hts:ts[0]? = some t){ty:TypeId}{k:D->M β}
  (hr:(evO nm k (.md kd x' y')).run F ⟨e,h⟩=some r):GivesW P fo φ Im w h e F r (Builtin.delete_ ts ty #[a.eval x,a.eval y]) k:=by
 obtain⟨kt,et,d,i,zv,q1,q2,q3,q4,q5,q6⟩:=aJC hm
 obtain⟨dm,u,φ1,h1,g1,s1,r1,r2⟩:=aNt (k:=fun d u=>mpO (fun key c es=>oret (mix kd u es) fun j=>.set key (.mp c (bHN es j)) (k (.tup []))) d) hfo hs he hx hy hr
 obtain⟨key,c,es,rfl,hk,g2⟩:=aLe g1
 obtain⟨j,hj,g3⟩:=aBO g2
 obtain⟨_,_,g4⟩:=aFf g3
 obtain⟨g,es',hφ,ev,hg,hrep⟩:=aMO s1.fr.hs hk r1
 have tup:∀ {Im':Nat->Prop} {w':World},RepD fo φ1 Im' w' (.tup []) (.tuple #[]):=.tup [] [] rfl (fun i hi=>absurd hi (by simp))
 rcases aHX q3 q2 r2 es es' 0 j hrep hj with⟨rfl,hf⟩ | ⟨q,rfl,p1,p2,hf,hsb⟩
 ·have s4:=aI0 (c':=c) s1.fr.hs hk hφ hg hrep
  refine⟨_,_,_,_,_,_,g4,s1.trans s4,tup,?_⟩
  simp[Builtin.delete_,hts,ev,run_underlying q1,MapKept.run_getObj_map hg,aDw q3 q2,MapKept.run_findKey q2 hf,MapKept.run_setObj_map _ hg,Result.andThen]
 ·rw[Nat.zero_add]at hf
  have s4:=aI0 (c':=c) s1.fr.hs hk hφ hg (hrep.erase q)
  refine⟨_,_,_,_,_,_,g4,s1.trans s4,tup,?_⟩
  simp[Builtin.delete_,hts,ev,run_underlying q1,MapKept.run_getObj_map hg,aDw q3 q2,MapKept.run_findKey q2 hf,MapKept.run_setObj_map _ hg,Result.andThen,p2]
theorem aUd (hs:HS fo φ Im w h){w':World}(hold:∀ g,g<w.heap.size->w'.heap[g]? = w.heap[g]?)(hsz:w.heap.size<w'.heap.size)(hos:w'.os=w.os)(htape:w'.tape=w.tape)(cBc:w'.output=w.output) :
  Stp fo φ Im w h φ (fun g=>Im g∨g=w.heap.size) w' h:=by
 have hI:∀ g,Im g->w'.heap[g]? = w.heap[g]? := fun g hg=>hold g (hs.imb g hg)
 refine⟨⟨⟨?_,hs.sep,?_,?_,hs.dom,fun g cs hg=>aH4 (Im':=fun g=>Im g∨g=w.heap.size) (hs.tb g cs hg) (fun hi=>Or.inl hi) (hI g)⟩,fun g hg=>.inl hg,fun g hg _=>hold g hg,fun g hg=>.inl hg,?_,by omega,hos,htape,cBc⟩,fun _ _ h=>h⟩
 ·intro k o hk
  refine (hs.rep k o hk).keep (fun _ _ h=>h) (fun g hg=>.inl hg) hI fun l hl hm hr=>hold _ (aIx hs hk hm hl hr)
 ·rintro g hg (hi | rfl)
  ·exact hs.imm g hg hi
  ·have:=aY2 hs hg;omega
 ·rintro g (hi | rfl)
  ·have:=hs.imb g hi;omega
  ·exact hsz
 ·rintro g (hi | rfl)
  ·exact .inl hi
  ·exact .inr (.inr (Nat.le_refl _))
theorem aXY (hfo:∀ f,fo (vm f)=some f)(hs:HS fo φ Im w h)(he:ER fo φ Im w a av e){t1:Option TypeId}{k1 nm:Nat}{x:Operand}{x':Od}(hx:cOd P vm t1 k1 x=some x'){src dst el:TypeId}(hsrc:P.underlying src=some .string)(hdst:P.underlying dst=some (.slice el))(hel:P.underlying el=some (.int .u8)){k:D->M β}
  (hr:(evO nm k (.s2b x')).run F ⟨e,h⟩=some r):GivesW P fo φ Im w h e F r (convert src dst (a.eval x)) k:=by
 obtain⟨d,φ1,h1,g1,s1,r1⟩:=aAH hfo hs he hx hr
 unfold asS at g1
 split at g1
 ·rename_i s
  have ev:=r1.p_inv.s_inv
  rw[ev]
  have hb:=Lib.bytesWorld_at_new w el s
  have s2:=aUd s1.fr.hs (w':=Lib.bytesWorld w el s) (fun g hg=>Lib.bytesWorld_at_old w el s g hg) (by rw[Lib.bytesWorld_size];omega) (by unfold Lib.bytesWorld World.freeze;split <;> rfl) (by unfold Lib.bytesWorld World.freeze;split <;> rfl) (by unfold Lib.bytesWorld World.freeze;split <;> rfl)
  refine⟨_,_,_,_,_,_,g1,s1.trans s2,.p _ _ (.sl 1 (aIw s) (some ⟨w.heap.size,0,none⟩) s.size (Go.grownCap w s.size 0 el) (fun i j=>.int .u8 (s.data.toList.getD i 0).toNat) (by simp[aIw]) ?_ ?_ ?_ ?_),Lib.run_convert_string_bytes w src dst el s hsrc hdst hel⟩
  · exact Go.grownCap_ge w s.size 0 el
  · intro i hi;simp[aIw]
  · intro _
    refine⟨w.heap.size,0,rfl,.inr rfl,fun i j hi hj=>?_⟩
    have:j=0:=by omega
    subst this
    have:=Lib.bytesWorld_cell w el s i hi
    simpa using this
  · intro i j hi hj
    have hj0:j=0:=by simp[aIw]at hj;exact hj
    subst hj0
    have hi':i<s.data.toList.length:=by simpa[aIw]using hi
    have e1:(aIw s)[i][0]=.i .u8 (s.data.toList[i]).toNat:=by simp[aIw]
    rw[e1,List.getD_eq_getElem?_getD,List.getElem?_eq_getElem hi']
    exact .i _ _
 ·cases g1
theorem aLq:∀ {xs:List (List V)} {l:List UInt8},aKX xs=some l->xs.length=l.length∧∀ i (h:i<xs.length) (h':i<l.length),xs[i]=[.i .u8 (l[i].toNat:Int)]
 | [],l,h=>by injection h with h;subst h;exact⟨rfl,fun i hi=>absurd hi (by simp)⟩
 | x :: xs,l,h=>by
  unfold aKX at h
  split at h
  ·rename_i heq;cases heq
  ·rename_i n r heq
   injection heq with h1 h2
   subst h1 h2
   split at h
   ·rename_i hn
    obtain⟨l',q1,rfl⟩:=Option.map_eq_some_iff.1 h
    obtain⟨p1,p2⟩:=aLq q1
    refine⟨by simp[p1],fun i hi hi'=>?_⟩
    cases i with
    | zero=>
     have:((UInt8.ofNat n.toNat).toNat:Int)=n:=by
      rw[UInt8.toNat_ofNat'];omega
     show [V.i .u8 n]=[V.i .u8 ((UInt8.ofNat n.toNat).toNat:Int)]
     rw[this]
    | succ i=>simpa using p2 i (by simpa using hi) (by simpa using hi')
   ·cases h
  ·cases h
theorem aYl (hfo:∀ f,fo (vm f)=some f)(hs:HS fo φ Im w h)(he:ER fo φ Im w a av e){t1:Option TypeId}{k1 nm:Nat}{x:Operand}{x':Od}(hx:cOd P vm t1 k1 x=some x'){src dst el:TypeId}(hsrc:P.underlying src=some (.slice el))(hdst:P.underlying dst=some .string)(hel:P.underlying el=some (.int .u8)){k:D->M β}
  (hr:(evO nm k (.b2s x')).run F ⟨e,h⟩=some r):Gives P fo φ Im w h e F r (convert src dst (a.eval x)) k:=by
 obtain⟨d,φ1,h1,g1,s1,r1⟩:=aAH hfo hs he hx hr
 obtain⟨sz,xs,ad,c,g2,ev,hlen,hel2⟩:=aHI s1.fr.hs r1 g1
 obtain⟨l,hl,g3⟩:=aBO g2
 obtain⟨p1,p2⟩:=aLq hl
 rw[ev]
 refine⟨_,φ1,h1,_,g3,s1,.p _ _ (.s _),?_⟩
 by_cases hne:xs=[]
 ·subst hne
  have:l=[]:=by simpa using p1.symm
  subst this
  cases ad with
  | none=>simp[convert,run_underlying hsrc,run_underlying hdst,run_underlying hel,Conv.bytesToString,Result.andThen];rfl
  | some ad=>exact Go.run_convert_bytes_back w src dst el ad c [] hsrc hel hdst (fun j hj=>absurd hj (by simp))
 ·obtain⟨g,o,rfl,hc⟩:=hel2 hne
  have:=Go.run_convert_bytes_back (P:=P) w src dst el ⟨g,o,none⟩ c l hsrc hel hdst (fun j hj=>by
    have hj':j<xs.length:=by omega
    have h1:=p2 j hj' hj
    have hsz:=hlen j hj'
    rw[h1]at hsz
    have hsz:sz=1:=by simpa using hsz.symm
    subst hsz
    obtain⟨x,q1,q2⟩:=hc j 0 hj' (by rw[h1];simp)
    have e1:xs[j][0]'(by rw[h1];simp)=.i .u8 (l[j].toNat:Int):=by simp[h1]
    rw[e1]at q2
    have:=q2.i_inv
    subst this
    have e2:(⟨g,o,none⟩:Addr).add j=⟨g,o+j,none⟩:=by
     unfold Addr.add;split <;> simp_all
    rw[e2];simpa using q1)
  rw[p1];exact this
theorem aPv {t:TypeId}{x:Operand}{p:O}(hp:aVe P vm t x=some p):∃ sz x',sz≠0∧cOd P vm none 0 x=some x'∧p=.sl x' sz none none none:=by
 unfold aVe at hp
 split at hp
 ·split at hp
  ·cases hp
  ·rename_i h
   obtain⟨x',h1,rfl⟩:=Option.map_eq_some_iff.1 hp
   exact⟨_,x',fun h0=>h (.inl h0),h1,rfl⟩
 ·cases hp
theorem aMK {φ1:Lay}{h1:aAR}(hs1:HS fo φ1 Im w h1){sz:Nat}(hsz:sz≠0){d:D}{x:Value}(r1:RepD fo φ1 Im w d x){k:D->M β}
  (g1:(slO sz none none none k d).run F ⟨e,h1⟩=some r):∃ d',(k d').run F ⟨e,h1⟩=some r∧RepD fo φ1 Im w d' x:=by
 have fin:∀ d',(k d').run F ⟨e,h1⟩=some r->RepD fo φ1 Im w d' x->∃ d',(k d').run F ⟨e,h1⟩=some r∧RepD fo φ1 Im w d' x:=fun d' g r'=>⟨d',g,r'⟩
 unfold slO at g1
 split at g1
 ·obtain⟨hc,g⟩:=aAU g1
  exact absurd hc.2.1 hsz
 ·rename_i s xs
  obtain⟨hc,g⟩:=aAU g1
  have e1:(xs.drop (0:Int).toNat).take ((xs.length:Int).toNat-(0:Int).toNat)=xs:=by simp
  rw[e1]at g
  exact fin _ g r1
 ·rename_i key
  obtain⟨o,hk,g2⟩:=aBN g1
  have main:∀ fz s xs,(∃ l:RL,φ1 key=some l∧xs.length=l.len∧l.len<=l.cap∧(l.real=false->l.cap=0))->(slA sz key 0 xs.length s (!fz) xs none 0 xs.length k xs.length).run F ⟨e,h1⟩=some r->(∃ d',(k d').run F ⟨e,h1⟩=some r∧RepD fo φ1 Im w d' x):=by
    intro fz s xs ⟨l,q1,q2,q3,q4⟩ g3
    obtain⟨hc,g4⟩:=aAU g3
    simp only[Int.toNat_zero,Nat.add_zero,Nat.sub_zero,Int.toNat_natCast,Option.isNone_none,Bool.and_true]at g4
    refine fin _ g4 ?_
    cases r1 with
    | own _ l' a0 hφ=>
     rw[q1]at hφ;injection hφ with hφ;subst hφ
     split
     ·rename_i hre
      rw[<- q2]
      exact .arr key 0 xs.length _ l _ l.cap q1 (by omega) (by omega) (by omega) (fun _=>by omega) (fun _=>⟨hre,by simp⟩)
     ·rename_i hre
      have hc0:=q4 (by simpa using hre)
      have e0:xs.length=0:=by omega
      rw[e0]
      exact .arr key 0 0 _ l a0 0 q1 (by omega) (by omega) (by omega) (fun _=>by omega) (fun h=>absurd rfl h)
  rcases aCI g2 with⟨s,xs,rfl,g3⟩ | ⟨s,xs,rfl,g3⟩
  · obtain⟨l,q1,q2,q3,q4,q5,q6,_⟩:=hs1.rep key _ hk
    exact main false s xs ⟨l,q1,q3,q4,q6⟩ g3
  · obtain⟨l,q1,q2,q3,q4,q5,q6,_⟩:=hs1.rep key _ hk
    exact main true s xs ⟨l,q1,q3,q4,q6⟩ g3
 ·rename_i key off len ap
  obtain⟨o,hk,g2⟩:=aBN g1
  have main:∀ fz s xs,(slA sz key off len s (ap&&!fz) xs none 0 len k len).run F ⟨e,h1⟩=some r->(∃ d',(k d').run F ⟨e,h1⟩=some r∧RepD fo φ1 Im w d' x):=by
    intro fz s xs g3
    obtain⟨hc,g4⟩:=aAU g3
    simp only[Int.toNat_zero,Nat.add_zero,Nat.sub_zero,Int.toNat_natCast,Option.isNone_none,Bool.and_true]at g4
    refine fin _ g4 ?_
    cases r1 with
    | arr _ _ _ _ l ad c hφ h1 h2 h3 h4 h5=>exact .arr key off len _ l ad c hφ h1 h2 h3 (fun hap=>h4 (by simp at hap;exact hap.1)) h5
  rcases aCI g2 with⟨s,xs,rfl,g3⟩ | ⟨s,xs,rfl,g3⟩
  · exact main false s xs g3
  · exact main true s xs g3
 ·cases g1
theorem aR9 (hfo:∀ f,fo (vm f)=some f)(hs:HS fo φ Im w h)(he:ER fo φ Im w a av e){nm sz:Nat}{x:Operand}{x':Od}(hsz:sz≠0)(hx:cOd P vm none 0 x=some x'){k:D->M β}
  (hr:(evO nm k (.sl x' sz none none none)).run F ⟨e,h⟩=some r):Gives P fo φ Im w h e F r (pure (a.eval x)) k:=by
 obtain⟨d,φ1,h1,g1,s1,r1⟩:=aAH hfo hs he hx hr
 obtain⟨d',g2,r2⟩:=aMK s1.fr.hs hsz r1 g1
 exact⟨d',φ1,h1,_,g2,s1,r2,rfl⟩
theorem aSR {e:TypeId}(h:bLW P e=true):P.underlying e=some (.int .u8):=by
 unfold bLW at h
 split at h
 ·assumption
 ·cases h
end
end Am
end Go.Proofs.YtkmbhgggpfbffaaGreatDoor
