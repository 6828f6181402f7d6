/- New memory; data that are frozen or lent. -/
import Derived.Test.YtkmbhgggpfbffaaGreatDoorAm9
set_option linter.unusedVariables false
set_option linter.unusedSimpArgs false
set_option linter.constructorNameAsVariable false
namespace Go.Proofs.YtkmbhgggpfbffaaGreatDoor
namespace Am
section
variable {P:Program} {fo:Fo} {vm:FuncId->Nat} {φ:Lay} {Im:Nat->Prop} {w:World} {h:aAR} {a:Act} {av:List Value} {e:Env} {F:Cf} {β:Type} {r:β×St}
theorem heap_alloc (w:World)(o:Obj)(g:Nat):(w.alloc o).heap[g]? = if g=w.heap.size then some o else w.heap[g]? := by
 show (w.heap.push o)[g]? = _
 rw[Array.getElem?_push]
theorem aD1 (w:World)(o:Obj){g:Nat}(hg:g<w.heap.size):(w.alloc o).heap[g]? = w.heap[g]? := by
 rw[heap_alloc,if_neg (by omega)]
theorem aP3 (hs:HS fo φ Im w h){nm:Nat}(hn:lk h nm=none){o:Ob}{l:RL}(hl:l.blk=w.heap.size)(b:Obj)
  (ho:RepOb fo (fun k=>if k=nm then some l else φ k) Im (w.alloc b) nm o) :
  Stp fo φ Im w h (fun k=>if k=nm then some l else φ k) Im (w.alloc b) ((nm,o) :: h):=by
 have hup:∀ k l',φ k=some l'->(if k=nm then some l else φ k)=some l':=by
  intro k l' hl'
  by_cases e:k=nm
  · subst e;rw[hs.dom k hn]at hl';cases hl'
  · rw[if_neg e];exact hl'
 have hdom:∀ k',k'≠nm->(if k'=nm then some l else φ k')=φ k':=fun k' e=>if_neg e
 have hsz:w.heap.size<=(w.alloc b).heap.size:=by simp
 refine⟨⟨hs.update (φ':=fun k=>if k=nm then some l else φ k) hup hdom (fun _ h=>h) (fun g hg=>aD1 _ _ (hs.imb g hg)) (fun k' o' l' _ h1 h2 h3 h4=>aD1 _ _ (aIx hs h1 h2 h3 h4)) ho ?_ ?_ (fun g hg=>Nat.lt_of_lt_of_le (hs.imb g hg) hsz),fun _ h=>h,fun g hg _=>aD1 _ _ hg,?_,fun _ h=>.inl h,hsz,rfl,rfl,rfl⟩,hup⟩
 ·intro l' hl' hm hr
  rw[if_pos rfl]at hl'
  injection hl' with hl'
  subst hl'
  refine⟨fun hi=>?_,fun k' o' l2 _ h1 h2 h3 h4 he=>?_⟩
  · have:=hs.imb _ hi;omega
  · have:=aIx hs h1 h2 h3 h4;omega
 ·intro k' o' l' hk h1 h2 h3 h4
  exact hs.imm _ ⟨k',o',l',h1,h2,h3,h4,rfl⟩
 ·rintro g ⟨k,o',l',h1,h2,h3,h4,rfl⟩
  rw[aAV]at h1
  by_cases e:k=nm
  · subst e
    simp only[if_true]at h3
    injection h3 with h3
    subst h3
    exact .inr (by omega)
  · rw[if_neg (fun x=>e x.symm)]at h1
    simp only[if_neg e]at h3
    exact .inl ⟨k,o',l',h1,h2,h3,h4,rfl⟩
theorem aSI (hs:HS fo φ Im w h){nm:Nat}(hn:lk h nm=none){ds:List D}{vs:List Value}(hl:ds.length=vs.length)(ho:∀ d,d∈ds->d.one=true)(hr:∀ i (hi:i<ds.length) (hi':i<vs.length),RepD fo φ Im w ds[i] vs[i])(t:TypeId) :
  Stp fo φ Im w h (fun k=>if k=nm then some (RL.box w.heap.size)else φ k) Im (w.alloc (.cells vs.toArray t)) ((nm,.box ds) :: h):=by
 refine aP3 hs hn (l:=RL.box w.heap.size) rfl _ ⟨w.heap.size,t,vs,if_pos rfl,by rw[heap_alloc,if_pos rfl],hl,ho,fun i hi hi'=>?_⟩
 refine (hr i hi hi').mono (fun k l hk=>?_) (fun _ h=>h) (fun g hg=>aD1 _ _ (hs.imb g hg))
 by_cases e:k=nm
 ·subst e;rw[hs.dom k hn]at hk;cases hk
 ·rw[if_neg e];exact hk
theorem aNF (hs:HS fo φ Im w h){nm:Nat}(hn:lk h nm=none){sz cap:Nat}{xs:List (List V)}(hx:∀ i (hi:i<xs.length),xs[i].length=sz)(hc:xs.length<=cap){c:Array Value}(hsz:cap*sz<=c.size)
  (hr:∀ i j (hi:i<xs.length) (hj:j<xs[i].length),∃ x,c[i*sz+j]? = some x∧RepV fo Im w xs[i][j] x) (t:TypeId) :
  Stp fo φ Im w h (fun k=>if k=nm then some ⟨w.heap.size,0,xs.length,cap,sz,true⟩else φ k) Im (w.alloc (.cells c t)) ((nm,.arr sz xs) :: h):=by
 refine aP3 hs hn (l:=⟨w.heap.size,0,xs.length,cap,sz,true⟩) rfl _ ⟨_,if_pos rfl,rfl,rfl,hc,hx,(fun h=>by cases h),fun _=>⟨c,t,by rw[heap_alloc,if_pos rfl],by simpa using hsz,fun i j hi hj=>?_⟩⟩
 obtain⟨x,e1,e2⟩:=hr i j hi hj
 exact⟨x,by simpa using e1,e2.mono (fun _ h=>h) (fun g hg=>aD1 _ _ (hs.imb g hg))⟩
theorem aOq {d:D}{v:Value}(hd:RepD fo φ Im w d v)(ho:d.cells.all (·.one)=true) :
  ∃ vs:List Value,v.cells=vs.toArray∧d.cells.length=vs.length∧(∀ x,x∈d.cells->x.one=true)∧∀ i (hi:i<d.cells.length) (hi':i<vs.length),RepD fo φ Im w d.cells[i] vs[i]:=by
 have hall:∀ x,x∈d.cells->x.one=true:=by simpa[List.all_eq_true]using ho
 have one:d.one=true->d.cells=[d]->∃ vs:List Value,v.cells=vs.toArray∧d.cells.length=vs.length∧(∀ x,x∈d.cells->x.one=true)∧∀ i (hi:i<d.cells.length) (hi':i<vs.length),RepD fo φ Im w d.cells[i] vs[i]:=by
  intro h1 h2
  have hv:=hd.one h1
  refine⟨[v],by cases v <;> first | rfl | (simp[Value.oneCell']at hv),by simp[h2],hall,fun i hi hi'=>?_⟩
  have:i=0:=by simp at hi';exact hi'
  subst this
  simp only[h2,List.getElem_cons_zero]
  exact hd
 cases hd with
 | agg xs vs hl ho' hr=>exact⟨vs,rfl,hl,hall,hr⟩
 | tup xs vs hl hr=>simp[D.cells,D.one]at ho
 | und=>simp[D.cells,D.one]at ho
 | _=>exact one rfl rfl
theorem bB8 (hfo:∀ f,fo (vm f)=some f)(hs:HS fo φ Im w h)(he:ER fo φ Im w a av e){t1:Option TypeId}{k1 nm:Nat}{x:Operand}{x':Od}(hx:cOd P vm t1 k1 x=some x'){o:Oper}{t:TypeId}(ho:o.op=.box t x){k:D->M β}
  (hr:(evO nm k (.bx x')).run F ⟨e,h⟩=some r):Good P fo φ Im w h e F r (execOp a.eval o) k:=by
 obtain⟨d,φ1,h1,g1,s1,r1⟩:=aAH hfo hs he hx hr
 obtain⟨hone,g2⟩:=aAU g1
 obtain⟨hn,g3⟩:=aFd g2
 obtain⟨vs,e1,e2,e3,e4⟩:=aOq r1 hone
 have s2:=aSI s1.fr.hs hn e2 e3 e4 t
 refine⟨_,_,_,_,_,.pointer (some ⟨w.heap.size,0,none⟩),g3,s1.trans s2,?_,.inl ?_⟩
 ·exact RepD.ptr nm 0 w.heap.size (if_pos rfl)
 ·simp[execOp,ho,Instr.box,newVar,newRow,e1]
theorem aHH {c:Bool}{key:Nat}{o:Ob}{m:M β}(hr:(frz c key o m).run F ⟨e,h⟩=some r):(c=true∧∃ o',lk h key=some o'∧m.run F ⟨e,(key,o) :: h⟩=some r)∨(c=false∧m.run F ⟨e,h⟩=some r):=by
 cases c with
 | true=>exact .inl ⟨rfl,aFf hr⟩
 | false=>exact .inr ⟨rfl,hr⟩
theorem aIm (hs:HS fo φ Im w h){key:Nat}{o o':Ob}(hk:lk h key=some o)(hm:o.mut=true)(hm':o'.mut=false){l:RL}(hφ:φ key=some l)
  (ho:RepOb fo φ (fun g=>Im g∨(l.real=true∧g=l.blk)) w key o'):Stp fo φ Im w h φ (fun g=>Im g∨(l.real=true∧g=l.blk)) w ((key,o') :: h):=by
 refine⟨⟨hs.update (fun _ _ h=>h) (fun _ _=>rfl) (fun _ h=>.inl h) (fun _ _=>rfl) (fun _ _ _ _ _ _ _ _=>rfl) ho ?_ ?_ ?_,fun _ h=>.inl h,fun _ _ _=>rfl,?_,?_,Nat.le_refl _,rfl,rfl,rfl⟩,fun _ _ h=>h⟩
 ·intro l' _ hmm;rw[hm']at hmm;cases hmm
 ·intro k' o2 l' hne h1 h2 h3 h4 hi
  rcases hi with hi | ⟨hre,hb⟩
  · exact hs.imm _ ⟨k',o2,l',h1,h2,h3,h4,rfl⟩ hi
  · exact hs.sep k' key o2 o l' l h1 hk h2 hm h3 hφ h4 hre hne hb
 ·rintro g (hg | ⟨hre,rfl⟩)
  · exact hs.imb g hg
  · exact aIx hs hk hm hφ hre
 ·rintro g ⟨k',o2,l',h1,h2,h3,h4,rfl⟩
  rw[aAV]at h1
  split at h1
  · injection h1 with h1;subst h1;rw[hm']at h2;cases h2
  · exact .inl ⟨k',o2,l',h1,h2,h3,h4,rfl⟩
 ·rintro g (hg | ⟨hre,rfl⟩)
  · exact .inl hg
  · exact .inr (.inl ⟨key,o,l,hk,hm,hφ,hre,rfl⟩)
theorem aMd {Im':Nat->Prop}{sz:Nat}{xs:List (List V)}{g o:Nat}(hx:∀ i (hi:i<xs.length),xs[i].length=sz)(hI:xs≠[]->Im' g)
  (hr:∀ i j (hi:i<xs.length) (hj:j<xs[i].length),∃ x,w.cell? ⟨g,o+i*sz+j,none⟩=some x∧RepV fo Im' w xs[i][j] x) {ad:Option Addr} {c:Nat} (hc:xs.length<=c) (had:xs≠[]->ad=some ⟨g,o,none⟩):RepV fo Im' w (.sl sz xs) (.slice ad xs.length c):=by
 have hv:∀ i j:Nat,∃ x,∀ (hi:i<xs.length) (hj:j<xs[i].length),w.cell? ⟨g,o+i*sz+j,none⟩=some x∧RepV fo Im' w xs[i][j] x:=by
  intro i j
  by_cases hi:i<xs.length
  · by_cases hj:j<xs[i].length
    ·obtain⟨x,e1⟩:=hr i j hi hj;exact⟨x,fun _ _=>e1⟩
    ·exact⟨undef,fun _ h=>absurd h hj⟩
  · exact⟨undef,fun h=>absurd h hi⟩
 refine .sl sz xs ad xs.length c (fun i j=>Classical.choose (hv i j)) rfl hc hx (fun h0=>?_) (fun i j hi hj=>(Classical.choose_spec (hv i j) hi hj).2)
 have hne:xs≠[]:=by intro h;subst h;exact h0 rfl
 exact⟨g,o,had hne,hI hne,fun i j hi hj=>(Classical.choose_spec (hv i j) hi (by rw[hx i hi];exact hj)).1⟩
theorem aJs (l:RL)(a0:Option Addr)(xs:List (List V))(h2:xs.length=l.len)(h3:l.len<=l.cap)(h6:l.real=false->l.cap=0) :
  ∃ ad c,(if l.real=true then Value.slice (some ⟨l.blk,l.off,none⟩) l.len l.cap else .slice a0 0 0)=.slice ad xs.length c∧xs.length<=c∧(xs≠[]->ad=some ⟨l.blk,l.off,none⟩∧l.real=true):=by
 cases hre:l.real with
 | false=>
  have:=h6 hre
  have h0:xs.length=0:=by omega
  exact⟨a0,0,by simp[h0],by omega,fun hne=>absurd (List.eq_nil_of_length_eq_zero h0) hne⟩
 | true=>exact⟨some ⟨l.blk,l.off,none⟩,l.cap,by simp[h2],by omega,fun _=>⟨rfl,rfl⟩⟩
theorem aRI (hs:HS fo φ Im w h){key:Nat}{o':Ob}(hm':o'.mut=false)(hk:∃ o,lk h key=some o)(ho:RepOb fo φ Im w key o'):Stp fo φ Im w h φ Im w ((key,o') :: h):=by
 refine⟨⟨hs.update (fun _ _ h=>h) (fun _ _=>rfl) (fun _ h=>h) (fun _ _=>rfl) (fun _ _ _ _ _ _ _ _=>rfl) ho ?_ ?_ hs.imb,fun _ h=>h,fun _ _ _=>rfl,?_,fun _ h=>.inl h,Nat.le_refl _,rfl,rfl,rfl⟩,fun _ _ h=>h⟩
 ·intro l' _ hmm;rw[hm']at hmm;cases hmm
 ·intro k' o2 l' hne h1 h2 h3 h4 hi
  exact hs.imm _ ⟨k',o2,l',h1,h2,h3,h4,rfl⟩ hi
 ·rintro g ⟨k',o2,l',h1,h2,h3,h4,rfl⟩
  rw[aAV]at h1
  split at h1
  ·injection h1 with h1;subst h1;rw[hm']at h2;cases h2
  ·exact .inl ⟨k',o2,l',h1,h2,h3,h4,rfl⟩
def Frz (φ:Lay)(h:aAR)(Im':Nat->Prop)(h':aAR):Prop:=
 ∀ key o,lk h key=some o->∃ o',lk h' key=some o'∧(o'=o∨(o'.mut=false∧∀ l,φ key=some l->l.real=true->o.mut=true->Im' l.blk))
theorem Frz.refl (φ:Lay)(h:aAR)(Im:Nat->Prop):Frz φ h Im h:=fun key o hk=>⟨o,hk,.inl rfl⟩
theorem Frz.trans {φ:Lay}{h h1 h2:aAR}{Im1 Im2:Nat->Prop}(a:Frz φ h Im1 h1)(b:Frz φ h1 Im2 h2)(hI:∀ g,Im1 g->Im2 g):Frz φ h Im2 h2:=by
 intro key o hk
 obtain⟨o1,h1',c1⟩:=a key o hk
 obtain⟨o2,h2',c2⟩:=b key o1 h1'
 refine⟨o2,h2',?_⟩
 rcases c1 with rfl | ⟨m1,i1⟩
 ·exact c2
 ·rcases c2 with rfl | ⟨m2,i2⟩
  ·exact .inr ⟨m1,fun l hl hr hm=>hI _ (i1 l hl hr hm)⟩
  ·exact .inr ⟨m2,fun l hl hr hm=>hI _ (i1 l hl hr hm)⟩
theorem Frz.one {φ:Lay}{h:aAR}{key:Nat}{o o':Ob}{Im':Nat->Prop}(hk:lk h key=some o)(hm:o'.mut=false)(hi:∀ l,φ key=some l->l.real=true->o.mut=true->Im' l.blk):Frz φ h Im' ((key,o') :: h):=by
 intro k1 o1 h1
 by_cases e:key=k1
 ·subst e
  rw[hk]at h1;injection h1 with h1;subst h1
  exact⟨o',by rw[aAV,if_pos rfl],.inr ⟨hm,hi⟩⟩
 ·exact⟨o1,by rw[aAV,if_neg e];exact h1,.inl rfl⟩
def TV (fo:Fo)(w:World)(e:Env)(F:Cf)(β:Type)(r:β×St)(n:Nat):Prop:=
 ∀ (d:D) (k:V->M β) (φ:Lay) (Im:Nat->Prop) (h:aAR) (v:Value),HS fo φ Im w h->RepD fo φ Im w d v->(toV true n d k).run F ⟨e,h⟩=some r ->
  ∃ u Im' h',(k u).run F ⟨e,h'⟩=some r∧Stp fo φ Im w h φ Im' w h'∧RepV fo Im' w u v∧Frz φ h Im' h'
def TVs (fo:Fo)(w:World)(e:Env)(F:Cf)(β:Type)(r:β×St)(n:Nat):Prop:=
 ∀ (ds:List D) (k:List V->M β) (φ:Lay) (Im:Nat->Prop) (h:aAR) (vs:List Value),HS fo φ Im w h->ds.length=vs.length->(∀ i (hi:i<ds.length) (hi':i<vs.length),RepD fo φ Im w ds[i] vs[i])->(aRE true n ds k).run F ⟨e,h⟩=some r ->
  ∃ us Im' h',(k us).run F ⟨e,h'⟩=some r∧Stp fo φ Im w h φ Im' w h'∧us.length=vs.length∧(∀ i (hi:i<us.length) (hi':i<vs.length),RepV fo Im' w us[i] vs[i])∧Frz φ h Im' h'
theorem bEX (n:Nat)(ht:TV fo w e F β r n)(hts:TVs fo w e F β r n):TVs fo w e F β r (n+1):=by
 intro ds k φ Im h vs hs hl hrep hr
 cases ds with
 | nil=>
  have:vs=[]:=by cases vs with | nil=>rfl | cons _ _=>simp at hl
  subst this
  exact⟨[],Im,h,hr,.refl hs,rfl,(fun i hi=>absurd hi (by simp)),.refl _ _ _⟩
 | cons d ds=>
  cases vs with
  | nil=>simp at hl
  | cons v vs=>
   obtain⟨u,Im1,h1,g1,s1,r1,f1⟩:=ht d _ φ Im h v hs (hrep 0 (by simp) (by simp)) hr
   obtain⟨us,Im2,h2,g2,s2,hl2,r2,f2⟩:=hts ds _ φ Im1 h1 vs s1.fr.hs (by simpa using hl) (fun i hi hi'=>(hrep (i+1) (by simpa using hi) (by simpa using hi')).stp hs s1) g1
   refine⟨u :: us,Im2,h2,g2,s1.trans s2,by simp[hl2],fun i hi hi'=>?_,f1.trans f2 s2.fr.im⟩
   cases i with
   | zero=>exact r1.stp s1.fr.hs s2
   | succ i=>exact r2 i (by simpa using hi) (by simpa using hi')
theorem bAw (n:Nat)(hts:∀ m,m<=n->TVs fo w e F β r m):TV fo w e F β r (n+1):=by
 intro d k φ Im h v hs hd hr
 cases d with
 | p u=>exact⟨u,Im,h,hr,.refl hs,hd.p_inv,.refl _ _ _⟩
 | own key=>
  obtain⟨o,hk,g1⟩:=aBN hr
  cases hd with
  | own _ l a0 hφ=>
   rcases aCI g1 with⟨sz,xs,rfl,g⟩ | ⟨sz,xs,rfl,g⟩
   ·obtain⟨e1,e2,e3,e4,e5,e6⟩:=aCG hs hk (.inl rfl) hφ
    rcases aHH g with⟨_,o',_,g2⟩ | ⟨hc,_⟩
    ·have hro:RepOb fo φ (fun g=>Im g∨(l.real=true∧g=l.blk)) w key (.frz sz xs):=
       ⟨l,hφ,e1,e2,e3,e4,e5,fun hre=>⟨.inr ⟨hre,rfl⟩,fun i j hi hj=>by obtain⟨x,q1,q2⟩:=e6 hre i j hi hj;exact⟨x,q1,q2.mono (fun _ h=>.inl h) (fun _ _=>rfl)⟩⟩⟩
     refine⟨_,_,_,g2,aIm hs hk rfl rfl hφ hro,?_,.one hk rfl (fun l' hl' hre _=>by rw[hφ]at hl';injection hl' with hl';subst hl';exact .inr ⟨hre,rfl⟩)⟩
     obtain⟨ad,c,q1,q2,q3⟩:=aJs l a0 xs e2 e3 e5
     rw[q1]
     refine aMd (g:=l.blk) (o:=l.off) e4 (fun hne=>.inr ⟨(q3 hne).2,rfl⟩) (fun i j hi hj=>?_) q2 (fun hne=>(q3 hne).1)
     have hne:xs≠[]:=by intro h0;subst h0;simp at hi
     obtain⟨x,p1,p2⟩:=e6 (q3 hne).2 i j hi hj
     exact⟨x,p1,p2.mono (fun _ h=>.inl h) (fun _ _=>rfl)⟩
    ·cases hc
   ·obtain⟨e1,e2,e3,e4,e5,e6⟩:=aCG hs hk (.inr rfl) hφ
    rcases aHH g with⟨hc,_⟩ | ⟨_,g2⟩
    ·cases hc
    ·refine⟨_,Im,h,g2,.refl hs,?_,.refl _ _ _⟩
     obtain⟨ad,c,q1,q2,q3⟩:=aJs l a0 xs e2 e3 e5
     rw[q1]
     have hrp:=hs.rep key _ hk
     obtain⟨l',p1,_,_,_,_,_,p7⟩:=hrp
     rw[p1]at hφ;injection hφ with hφ;subst hφ
     exact aMd (g:=l'.blk) (o:=l'.off) e4 (fun hne=>(p7 (q3 hne).2).1) (fun i j hi hj=>e6 (q3 (by intro h0;subst h0;simp at hi)).2 i j hi hj) q2 (fun hne=>(q3 hne).1)
 | arr key off len ap=>
  obtain⟨o,hk,g1⟩:=aBN hr
  cases hd with
  | arr _ _ _ _ l ad c hφ a1 a2 a3 a4 a5=>
   have fin:∀ (Im':Nat->Prop) (xs:List (List V)) (sz:Nat),(∀ g,Im g->Im' g)->l.sz=sz->(∀ i (h:i<xs.length),xs[i].length=sz)->(l.real=true->Im' l.blk)->off+len<=xs.length->xs.length=l.len ->
     (l.real=true->∀ i j (hi:i<xs.length) (hj:j<xs[i].length),∃ x,w.cell? ⟨l.blk,l.off+i*sz+j,none⟩=some x∧RepV fo Im w xs[i][j] x)->RepV fo Im' w (.sl sz ((xs.drop off).take len)) (.slice ad len c):=by
    intro Im' xs sz hI e1 e4 him hle e2 e6
    have hlen:((xs.drop off).take len).length=len:=by simp;omega
    have hne':(xs.drop off).take len≠[]->c≠0:=by
     intro hne
     have:=List.length_pos_iff.2 hne
     omega
    have:=aMd (fo:=fo) (w:=w) (Im':=Im') (sz:=sz) (xs:=(xs.drop off).take len) (g:=l.blk) (o:=l.off+off*sz) (fun i hi=>by simp only[List.getElem_take,List.getElem_drop];exact e4 _ _) (fun hne=>him (a5 (hne' hne)).1) (fun i j hi hj=>by
     have hi2:off+i<xs.length:=by rw[hlen]at hi;omega
     have hj2:j<xs[off+i].length:=by simpa[List.getElem_take,List.getElem_drop]using hj
     have hne:(xs.drop off).take len≠[]:=by intro h0;rw[h0]at hi;simp at hi
     obtain⟨x,p1,p2⟩:=e6 (a5 (hne' hne)).1 (off+i) j hi2 hj2
     refine⟨x,?_,by simpa[List.getElem_take,List.getElem_drop]using p2.mono hI (fun _ _=>rfl)⟩
     rw[<- p1,Nat.add_mul];congr 2;omega) (ad:=ad) (c:=c) (by omega) (fun hne=>by rw[(a5 (hne' hne)).2,e1])
    rw[hlen]at this
    exact this
   rcases aCI g1 with⟨sz,xs,rfl,g⟩ | ⟨sz,xs,rfl,g⟩
   ·obtain⟨e1,e2,e3,e4,e5,e6⟩:=aCG hs hk (.inl rfl) hφ
    rcases aHH g with⟨_,o',_,g2⟩ | ⟨hc,_⟩
    ·obtain⟨hle,g3⟩:=aAU g2
     have hro:RepOb fo φ (fun g=>Im g∨(l.real=true∧g=l.blk)) w key (.frz sz xs):=
       ⟨l,hφ,e1,e2,e3,e4,e5,fun hre=>⟨.inr ⟨hre,rfl⟩,fun i j hi hj=>by obtain⟨x,q1,q2⟩:=e6 hre i j hi hj;exact⟨x,q1,q2.mono (fun _ h=>.inl h) (fun _ _=>rfl)⟩⟩⟩
     exact⟨_,_,_,g3,aIm hs hk rfl rfl hφ hro,fin _ xs sz (fun _ h=>.inl h) e1 e4 (fun hre=>.inr ⟨hre,rfl⟩) hle e2 e6,.one hk rfl (fun l' hl' hre _=>by rw[hφ]at hl';injection hl' with hl';subst hl';exact .inr ⟨hre,rfl⟩)⟩
    ·cases hc
   ·obtain⟨e1,e2,e3,e4,e5,e6⟩:=aCG hs hk (.inr rfl) hφ
    rcases aHH g with⟨hc,_⟩ | ⟨_,g2⟩
    ·cases hc
    ·obtain⟨hle,g3⟩:=aAU g2
     have hrp:=hs.rep key _ hk
     obtain⟨l',p1,_,_,_,_,_,p7⟩:=hrp
     rw[p1]at hφ;injection hφ with hφ;subst hφ
     exact⟨_,Im,h,g3,.refl hs,fin Im xs sz (fun _ h=>h) e1 e4 (fun hre=>(p7 hre).1) hle e2 e6,.refl _ _ _⟩
 | ptr key off=>
  obtain⟨o,hk,g1⟩:=aBN hr
  obtain⟨l,hφ,rfl⟩:=hd.ptr_inv
  ·skip
   cases n with
   | zero=>cases g1
   | succ n=>
    have hrp:=hs.rep key _ hk
    cases o with
    | box cs=>
     obtain⟨g,el,vs,h1,h2,h3,h4,h5⟩:=hrp
     rw[h1]at hφ;injection hφ with hφ;subst hφ
     obtain⟨us,Im1,h1',g2,s1,hl1,r1,f1⟩:=hts n (by omega) cs _ φ Im h vs hs h3 h5 g1
     rcases aHH g2 with⟨_,o',hk',g3⟩ | ⟨hc,_⟩
     · have hcell:∀ j (hj:j<vs.length),w.cell? ⟨g,j,none⟩=some vs[j]:=fun j hj=>by simp[World.cell?,h2,List.getElem?_eq_getElem hj]
       have cprep:∀ Im2:Nat->Prop,(∀ g,Im1 g->Im2 g)->Im2 g->RepV fo Im2 w (.cp (us.drop off)) (.pointer (some ⟨g,off,none⟩)):=fun Im2 hI hg=>by
        refine .cp _ g off (fun j=>vs.getD (off+j) undef) hg (fun j hj=>?_) (fun j hj=>?_)
        ·simp at hj
         rw[hcell (off+j) (by omega)]
         simp[List.getD,List.getElem?_eq_getElem (show off+j<vs.length by omega)]
        ·simp at hj
         simp only[List.getElem_drop]
         have:=(r1 (off+j) (by omega) (by omega)).mono hI (fun _ _=>rfl)
         simpa[List.getD,List.getElem?_eq_getElem (show off+j<vs.length by omega)]using this
       have fbrep:∀ Im2:Nat->Prop,(∀ g,Im1 g->Im2 g)->Im2 g->RepOb fo φ Im2 w key (.fbx us):=fun Im2 hI hg=>
        ⟨g,h1,hg,fun j hj=>⟨vs[j]'(by omega),hcell j (by omega),(r1 j hj (by omega)).mono hI (fun _ _=>rfl)⟩⟩
       obtain⟨o2,hk2,c2⟩:=f1 key _ hk
       rw[hk2]at hk';injection hk' with hk';subst hk'
       rcases c2 with rfl | ⟨m2,i2⟩
       ·have s2:=aIm s1.fr.hs hk2 rfl (o':=.fbx us) rfl h1 (fbrep _ (fun _ h=>.inl h) (.inr ⟨rfl,rfl⟩))
        refine⟨_,_,_,g3,s1.trans s2,?_,f1.trans (.one hk2 rfl (fun l' hl' hre _=>by rw[h1]at hl';injection hl' with hl';subst hl';exact .inr ⟨rfl,rfl⟩)) (fun _ h=>.inl h)⟩
        show RepV fo _ w _ (.pointer (some ⟨g,0+off,none⟩))
        rw[Nat.zero_add]
        exact cprep _ (fun _ h=>.inl h) (.inr ⟨rfl,rfl⟩)
       ·have hig:Im1 g:=i2 _ h1 rfl rfl
        have s2:=aRI s1.fr.hs (o':=.fbx us) rfl ⟨_,hk2⟩ (fbrep Im1 (fun _ h=>h) hig)
        refine⟨_,_,_,g3,s1.trans s2,?_,f1.trans (.one hk2 rfl (fun l' hl' hre hmm=>by rw[m2]at hmm;cases hmm)) (fun _ h=>h)⟩
        show RepV fo _ w _ (.pointer (some ⟨g,0+off,none⟩))
        rw[Nat.zero_add]
        exact cprep _ (fun _ h=>h) hig
     · cases hc
    | fbx us=>
     obtain⟨g,h1,h2,h3⟩:=hrp
     rw[h1]at hφ;injection hφ with hφ;subst hφ
     have hv:∀ j:Nat,∃ x,∀ (hj:off+j<us.length),w.cell? ⟨g,off+j,none⟩=some x∧RepV fo Im w us[off+j] x:=by
       intro j
       by_cases hj:off+j<us.length
       ·obtain⟨x,e1⟩:=h3 (off+j) hj;exact⟨x,fun _=>e1⟩
       ·exact⟨undef,fun h=>absurd h hj⟩
     refine⟨_,Im,h,g1,.refl hs,?_,.refl _ _ _⟩
     show RepV fo Im w (.cp (us.drop off)) (.pointer (some ⟨g,0+off,none⟩))
     rw[Nat.zero_add]
     refine .cp _ g off (fun j=>Classical.choose (hv j)) h2 (fun j hj=>(Classical.choose_spec (hv j) (by simp at hj;omega)).1) (fun j hj=>?_)
     simp only[List.getElem_drop]
     exact (Classical.choose_spec (hv j) (by simp at hj;omega)).2
    | _=>cases g1
 | ep key i off=>
  obtain⟨o,hk,g1⟩:=aBN hr
  cases hd with
  | ep _ _ _ l hφ hi hre=>
   have cprep:∀ (Im2:Nat->Prop) (xs:List (List V)) (cs:List V) (sz:Nat),l.sz=sz->xs[i]? = some cs->(∀ g,Im g->Im2 g)->Im2 l.blk ->
     (l.real=true->∀ i j (hi:i<xs.length) (hj:j<xs[i].length),∃ x,w.cell? ⟨l.blk,l.off+i*sz+j,none⟩=some x∧RepV fo Im w xs[i][j] x) ->
     RepV fo Im2 w (.cp (cs.drop off)) (.pointer (some ⟨l.blk,l.off+i*l.sz+off,none⟩)):=fun Im2 xs cs sz e1 hcs hI hg e6=>by
    obtain⟨hlt,hcs⟩:=List.getElem?_eq_some_iff.1 hcs
    subst hcs
    have hv:∀ j:Nat,∃ x,∀ (hj:off+j<xs[i].length),w.cell? ⟨l.blk,l.off+i*sz+(off+j),none⟩=some x∧RepV fo Im w xs[i][off+j] x:=by
     intro j
     by_cases hj:off+j<xs[i].length
     · obtain⟨x,q⟩:=e6 hre i (off+j) hlt hj;exact⟨x,fun _=>q⟩
     · exact⟨undef,fun h=>absurd h hj⟩
    refine .cp _ l.blk _ (fun j=>Classical.choose (hv j)) hg (fun j hj=>?_) (fun j hj=>?_)
    ·simp at hj
     rw[e1,Nat.add_assoc]
     exact (Classical.choose_spec (hv j) (by omega)).1
    ·simp at hj
     simp only[List.getElem_drop]
     exact (Classical.choose_spec (hv j) (by omega)).2.mono hI (fun _ _=>rfl)
   rcases aCI g1 with⟨sz,xs,rfl,g⟩ | ⟨sz,xs,rfl,g⟩
   ·obtain⟨e1,e2,e3,e4,e5,e6⟩:=aCG hs hk (.inl rfl) hφ
    rcases aHH g with⟨_,o',_,g2⟩ | ⟨hc,_⟩
    ·obtain⟨cs,hcs,g3⟩:=aBO g2
     have hro:RepOb fo φ (fun g=>Im g∨(l.real=true∧g=l.blk)) w key (.frz sz xs):=
       ⟨l,hφ,e1,e2,e3,e4,e5,fun hre=>⟨.inr ⟨hre,rfl⟩,fun i j hi hj=>by obtain⟨x,q1,q2⟩:=e6 hre i j hi hj;exact⟨x,q1,q2.mono (fun _ h=>.inl h) (fun _ _=>rfl)⟩⟩⟩
     exact⟨_,_,_,g3,aIm hs hk rfl rfl hφ hro,cprep _ xs cs sz e1 hcs (fun _ h=>.inl h) (.inr ⟨hre,rfl⟩) e6,.one hk rfl (fun l' hl' hre _=>by rw[hφ]at hl';injection hl' with hl';subst hl';exact .inr ⟨hre,rfl⟩)⟩
    ·cases hc
   ·obtain⟨e1,e2,e3,e4,e5,e6⟩:=aCG hs hk (.inr rfl) hφ
    rcases aHH g with⟨hc,_⟩ | ⟨_,g2⟩
    ·cases hc
    ·obtain⟨cs,hcs,g3⟩:=aBO g2
     have hrp:=hs.rep key _ hk
     obtain⟨l',p1,_,_,_,_,_,p7⟩:=hrp
     rw[p1]at hφ;injection hφ with hφ;subst hφ
     exact⟨_,Im,h,g3,.refl hs,cprep Im xs cs sz e1 hcs (fun _ h=>h) (p7 hre).1 e6,.refl _ _ _⟩
 | fn v caps=>
  cases hd with
  | fn _ f _ vs hf hl hrr=>
   obtain⟨us,Im1,h1,g1,s1,hl1,r1,f1⟩:=hts n (Nat.le_refl _) caps _ φ Im h vs hs hl hrr hr
   exact⟨_,Im1,h1,g1,s1,.fn v f us vs hf hl1 r1,f1⟩
 | ifc t ag xs=>
  cases hd with
  | if1 _ x v ho hrr=>
   obtain⟨us,Im1,h1,g1,s1,hl1,r1,f1⟩:=hts n (Nat.le_refl _) [x] _ φ Im h [v] hs rfl (fun i hi hi'=>by
    have:i=0:=by simpa using hi
    subst this;exact hrr) hr
   cases us with
   | nil=>simp at hl1
   | cons u us=>
    have:us=[]:=by simpa using hl1
    subst this
    exact⟨_,Im1,h1,g1,s1,.if1 t u v (r1 0 (by simp) (by simp)),f1⟩
  | if2 _ _ vs hl ho hrr=>
   obtain⟨us,Im1,h1,g1,s1,hl1,r1,f1⟩:=hts n (Nat.le_refl _) xs _ φ Im h vs hs hl hrr hr
   exact⟨_,Im1,h1,g1,s1,.if2 t us vs hl1 r1,f1⟩
 | mp key=>cases hr
 | agg xs=>cases hr
 | tup xs=>cases hr
 | und=>cases hr
theorem aJw:∀ n,TVs fo w e F β r n:=by
 intro n
 induction n using Nat.strongRecOn with
 | _ n ih=>
  cases n with
  | zero=>intro ds k φ Im h vs hs hl hrep hr;cases hr
  | succ n=>
   refine bEX n ?_ (ih n (by omega))
   cases n with
   | zero=>intro d k φ Im h v hs hd hr;cases hr
   | succ n=>exact bAw n (fun m hm=>ih m (by omega))
theorem aNj (n:Nat):TV fo w e F β r n:=by
 cases n with
 | zero=>intro d k φ Im h v hs hd hr;cases hr
 | succ n=>exact bAw n (fun m _=>aJw m)
end
end Am
end Go.Proofs.YtkmbhgggpfbffaaGreatDoor
