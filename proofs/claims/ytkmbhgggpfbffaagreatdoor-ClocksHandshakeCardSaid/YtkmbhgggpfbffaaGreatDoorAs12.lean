/- slices.Sort and slices.Compact of numbers by contract. -/
import Derived.Test.YtkmbhgggpfbffaaGreatDoorAs8
import Derived.Lib.SlicesCompact
import Derived.Sort.Grow
set_option linter.unusedVariables false
set_option linter.unusedSimpArgs false
set_option linter.constructorNameAsVariable false
namespace Go.Proofs.YtkmbhgggpfbffaaGreatDoor
namespace Am
def bFs (n:Int):List Int->List Int
 | []=>[n]
 | x :: r=>bif decide (n<=x)then n :: x :: r else x :: bFs n r
def aNV:List Int->List Int
 | []=>[]
 | x :: r=>bFs x (aNV r)
def aTl (p:Int):List Int->List Int
 | []=>[]
 | y :: r=>bif decide (p=y)then aTl y r else y :: aTl y r
def aLR:List Int->List Int
 | []=>[]
 | x :: r=>x :: aTl x r
theorem aLA (n:Int):∀ l,(bFs n l).Perm (n :: l)
 | []=>.refl _
 | x :: r=>by
  unfold bFs
  cases decide (n<=x)
  ·exact ((aLA n r).cons x).trans (.swap n x r)
  ·exact .refl _
theorem aIe:∀ l,(aNV l).Perm l
 | []=>.refl _
 | x :: r=>(aLA x (aNV r)).trans ((aIe r).cons x)
theorem aLr (n:Int):∀ l,l.Pairwise (fun a b=>a<=b)->(bFs n l).Pairwise (fun a b=>a<=b)
 | [],_=>by simp[bFs]
 | x :: r,h=>by
  unfold bFs
  rw[List.pairwise_cons]at h
  cases hd:decide (n<=x)
  ·have hd:=of_decide_eq_false hd
   refine List.pairwise_cons.2 ⟨fun a ha=>?_,aLr n r h.2⟩
   rcases List.mem_cons.1 ((aLA n r).mem_iff.1 ha)with rfl | ha
   ·omega
   ·exact h.1 a ha
  ·have hd:=of_decide_eq_true hd
   refine List.pairwise_cons.2 ⟨fun a ha=>?_,List.pairwise_cons.2 h⟩
   rcases List.mem_cons.1 ha with rfl | ha
   ·exact hd
   ·exact Int.le_trans hd (h.1 a ha)
theorem aIG:∀ l,(aNV l).Pairwise (fun a b=>a<=b)
 | []=>.nil
 | x :: r=>aLr x _ (aIG r)
theorem aOw:∀ {l m:List Int},l.Perm m->l.Pairwise (fun a b=>a<=b)->m.Pairwise (fun a b=>a<=b)->l=m
 | [],m,h,_,_=>h.nil_eq
 | a :: l,m,h,h1,h2=>by
  cases m with
  | nil=>exact absurd h.length_eq (by simp)
  | cons b m=>
   rw[List.pairwise_cons]at h1 h2
   have e:a=b:=by
    have ha:a∈b :: m:=h.mem_iff.1 List.mem_cons_self
    have hb:b∈a :: l:=h.mem_iff.2 List.mem_cons_self
    rcases List.mem_cons.1 ha with rfl | ha
    ·rfl
    ·rcases List.mem_cons.1 hb with rfl | hb
     ·rfl
     ·have:=h2.1 a ha;have:=h1.1 b hb;omega
   subst e
   rw[aOw (List.Perm.cons_inv h) h1.2 h2.2]
theorem aWH (l:List Int):(l.mergeSort fun x y=>decide (x<=y))=aNV l:=
 aOw ((List.mergeSort_perm l _).trans (aIe l).symm)
  ((List.pairwise_mergeSort (le:=fun x y:Int=>decide (x<=y)) (fun a b c h1 h2=>by simp at *;omega) (fun a b=>by simp;omega) l).imp (fun h=>by simpa using h)) (aIG l)
theorem aWB (q:List Int):∀ (r:List Int) (p:Int) (i:Nat),q.drop i=p :: r->(((List.range' (i+1) r.length).filter (Lib.keeps q.toArray)).map (q.toArray[·]!))=aTl p r
 | [],p,i,h=>rfl
 | y :: r,p,i,h=>by
  have h1:q.drop (i+1)=y :: r:=by rw[<- List.drop_drop,h];rfl
  have ih:=aWB q r y (i+1) h1
  have l1:i+1<q.length:=by
   rcases Nat.lt_or_ge (i+1) q.length with k | k
   ·exact k
   ·rw[List.drop_eq_nil_of_le k]at h1;cases h1
  have e1:q.toArray[i+1]! = y:=by
   rw[List.drop_eq_getElem_cons l1]at h1
   injection h1 with h1 _
   rw[getElem!_pos _ _ (by simpa using l1)]
   simpa using h1
  have e0:q.toArray[i]! = p:=by
   have l0:i<q.length:=by omega
   rw[List.drop_eq_getElem_cons l0]at h
   injection h with h _
   rw[getElem!_pos _ _ (by simpa using l0)]
   simpa using h
  rw[show (y :: r).length=r.length+1 from rfl,List.range'_succ,List.filter_cons]
  unfold aTl
  unfold Lib.keeps at ih ⊢
  simp only[Nat.add_sub_cancel,e1,e0]
  by_cases c:p=y
  ·subst c
   simp only[Nat.add_one_ne_zero,ne_eq,not_true_eq_false,or_self,decide_false,decide_true,cond_true]
   exact ih
  ·simp only[Nat.add_one_ne_zero,ne_eq,Ne.symm c,c,not_false_eq_true,or_true,decide_true,decide_false,cond_false,if_true,List.map_cons,e1]
   rw[<- ih]
theorem bEr:∀ l,Lib.compact l=aLR l
 | []=>rfl
 | x :: r=>by
  have:=aWB (x :: r) r x 0 rfl
  unfold Lib.compact Lib.compactUpTo aLR
  rw[List.range_eq_range',show (x :: r).length=r.length+1 from rfl,List.range'_succ,List.filter_cons,if_pos (Lib.keeps_lt_one _ 0 (by omega)),List.map_cons]
  rw[this]
  rfl
theorem aNW (w:World)(blk:Nat)(f:Array Value->Array Value)(g:Nat):(Go.Sort.mapBlock w blk f).heap[g]? = if blk=g then (w.heap[g]?).map (Go.Sort.onCells f)else w.heap[g]? := by
 unfold Go.Sort.mapBlock
 simp only[Array.getElem?_modify]
theorem bCT {α:Type} [Inhabited α] (enc:α->Value)(off:Nat)(d:Array α)(c:Array Value){k:Nat}(hk:k<c.size)(h1:off<=k)(h2:k<off+d.size):(Go.Sort.putCells enc off d c)[k]? = some (enc d[k-off]!):=by
 simp only[Go.Sort.putCells,Array.getElem?_mapIdx,Array.getElem?_eq_getElem hk,Option.map_some,if_pos (And.intro h1 h2)]
theorem aTM {α:Type} [Inhabited α] (enc:α->Value)(off:Nat)(d:Array α)(c:Array Value):(Go.Sort.putCells enc off d c).size=c.size:=by simp[Go.Sort.putCells]
structure RowW (w w':World) (blk:Nat) (f:Array Value->Array Value):Prop where
 oth:∀ g,g<w.heap.size->g≠blk->w'.heap[g]? = w.heap[g]?
 row:∀ c e fr,w.heap[blk]? = some (.cells c e fr)->w'.heap[blk]? = some (.cells (f c) e fr)
 size:w.heap.size<=w'.heap.size
 os:w'.os=w.os
 tape:w'.tape=w.tape
 output:w'.output=w.output
theorem aQF {α:Type} [Inhabited α] (enc:α->Value)(w:World)(n blk off:Nat)(d:Array α)(os:Array Obj):RowW w (Go.Sort.grow (Go.Sort.putRow enc (Go.Sort.ahead w n) blk off d) os) blk (Go.Sort.putCells enc off d) where
 oth g hg hn:=by
  have h1:(Go.Sort.putRow enc (Go.Sort.ahead w n) blk off d).heap[g]? = w.heap[g]? := by
   unfold Go.Sort.putRow;rw[aNW,if_neg (fun e=>hn e.symm)];rfl
  have h2:g<(Go.Sort.putRow enc (Go.Sort.ahead w n) blk off d).heap.size:=by
   simp only[Go.Sort.putRow,Go.Sort.mapBlock,Array.size_modify,Go.Sort.ahead];exact hg
  rw[<- h1]
  show (_++os)[g]? = _
  rw[Array.getElem?_append_left h2]
 row c e fr h:=by
  have h1:(Go.Sort.putRow enc (Go.Sort.ahead w n) blk off d).heap[blk]? = some (.cells (Go.Sort.putCells enc off d c) e fr):=by
   unfold Go.Sort.putRow;rw[aNW,if_pos rfl]
   show (w.heap[blk]?).map _=_
   rw[h];rfl
  have h2:blk<(Go.Sort.putRow enc (Go.Sort.ahead w n) blk off d).heap.size:=by
   rcases Nat.lt_or_ge blk (Go.Sort.putRow enc (Go.Sort.ahead w n) blk off d).heap.size with q | q
   ·exact q
   ·rw[Array.getElem?_eq_none q]at h1;cases h1
  show (_++os)[blk]? = _
  rw[Array.getElem?_append_left h2,h1]
 size:=by
  show _<=(_++os).size
  simp only[Array.size_append,Go.Sort.putRow,Go.Sort.mapBlock,Array.size_modify,Go.Sort.ahead]
  omega
 os:=rfl
 tape:=rfl
 output:=rfl
def aHF (l:List Int):List (List V):=l.map fun n=>[.i .i64 n]
def aIJ:List (List V)->Option (List Int)
 | []=>some []
 | [.i .i64 n] :: r=>(aIJ r).map (n :: ·)
 | _=>none
theorem aKv:∀ {xs:List (List V)} {l:List Int},aIJ xs=some l->xs=aHF l
 | [],l,h=>by
  unfold aIJ at h
  injection h with h;subst h;rfl
 | x :: r,l,h=>by
  unfold aIJ at h
  split at h
  ·rename_i h1;cases h1
  ·rename_i n r' h1
   injection h1 with h1 h2
   subst h1 h2
   cases hr:aIJ r with
   | none=>rw[hr]at h;cases h
   | some m=>
    rw[hr]at h
    injection h with h
    subst h
    rw[aKv hr];rfl
  ·cases h
theorem aEP (l:List Int):(aHF l).length=l.length:=by simp[aHF]
theorem aJ0 {l:List Int}{i:Nat}(h:i<(aHF l).length):(aHF l)[i]=[.i .i64 (l[i]'(by simpa[aHF]using h))]:=by simp[aHF]
section
variable {P:Program} {fo:Fo} {φ:Lay} {Im:Nat->Prop} {w:World} {h:aAR}
theorem bBo {h2:aAR}{φ2:Lay}{q:Nat}{l l2:RL}{xs ys zs:List Int}{w':World}(hs:HS fo φ Im w h)(ho:lk h 0=some (.arr 1 (aHF xs)))(hφ:φ 0=some l)(hr:l.real=true)
  (h2q:lk h2 q=some (.arr 1 (aHF ys))) (H2:∀ k o,lk h2 k=some o->k≠q->o=.dead) (hq:φ2 q=some l2) (hdom:∀ k,lk h2 k=none->φ2 k=none)
  (el:l2=⟨l.blk,l.off,ys.length,l.cap,1,true⟩) (hle:ys.length<=xs.length) (hz:(ys++zs).length=xs.length) (hw:RowW w w' l.blk (Go.Sort.putCells (Value.int .i64) l.off (ys++zs).toArray)) :
  Fr fo w (Own φ h) Im φ2 Im w' h2:=by
 have hown:Own φ h l.blk:=⟨0,_,l,ho,rfl,hφ,hr,rfl⟩
 have hI:¬Im l.blk:=hs.imm _ hown
 have hsame:∀ g,Im g->w'.heap[g]? = w.heap[g]? := fun g hg=>hw.oth g (hs.imb g hg) (fun e=>hI (e▸hg))
 obtain⟨l0,e0,e1,e2,e3,e4,e5,e6⟩:=hs.rep 0 _ ho
 rw[hφ]at e0
 injection e0 with e0
 subst e0
 obtain⟨c,e,f1,f2,f3⟩:=e6 hr
 rw[aEP]at e2
 refine⟨⟨?_,?_,?_,?_,hdom,?_⟩,fun _ h=>h,?_,?_,fun _ h=>.inl h,hw.size,hw.os,hw.tape,hw.output⟩
 ·intro k o hk
  by_cases c1:k=q
  · subst c1
    rw[h2q]at hk
    injection hk with hk
    subst hk
    subst el
    refine⟨_,hq,rfl,aEP ys,by simp only;omega,fun i hi=>by rw[aJ0 hi];rfl,fun h=>(by cases h),fun _=>⟨_,e,hw.row c e _ f1,by rw[aTM];simpa using f2,fun i j hi hj=>?_⟩⟩
    have hi':i<ys.length:=by rw[aEP]at hi;exact hi
    have hj':j=0:=by rw[aJ0 hi]at hj;simpa using hj
    subst hj'
    have hcs:l.off+i<c.size:=by
     have:xs.length<=l.cap:=by omega
     omega
    refine⟨_,by simp only[Nat.mul_one,Nat.add_zero];exact bCT (Value.int .i64) l.off _ c hcs (by omega) (by simp;omega),?_⟩
    have:(aHF ys)[i][0]'hj=V.i .i64 ys[i]:=by simp[aHF]
    rw[this]
    have e7:((ys++zs).toArray)[l.off+i-l.off]! = ys[i]:=by
     rw[Nat.add_sub_cancel_left,getElem!_pos _ _ (by simp;omega)]
     simp[List.getElem_append_left hi']
    rw[e7]
    exact .i _ _
  · rw[H2 k o hk c1];trivial
 ·intro k k' o o' m m' h1 h2 m1 m2 p1 p2 r1 r2 hne
  by_cases c1:k=q
  · by_cases c2:k'=q
    ·exact absurd (c1.trans c2.symm) hne
    ·rw[H2 k' o' h2 c2]at m2;cases m2
  · rw[H2 k o h1 c1]at m1;cases m1
 ·intro g hg
  obtain⟨k,o,m,h1,h2,h3,h4,rfl⟩:=hg
  by_cases c1:k=q
  · subst c1
    rw[hq]at h3
    injection h3 with h3
    subst h3
    subst el
    exact hI
  · rw[H2 k o h1 c1]at h2;cases h2
 ·intro g hg
  have:=hs.imb g hg
  have:=hw.size
  omega
 ·exact fun g o ho=>aH4 (hs.tb g o ho) id (fun hi=>hsame g hi)
 ·intro g hg hn
  exact hw.oth g hg (fun e=>hn (e▸hown))
 ·intro g hg
  obtain⟨k,o,m,h1,h2,h3,h4,rfl⟩:=hg
  by_cases c1:k=q
  · subst c1
    rw[hq]at h3
    injection h3 with h3
    subst h3
    subst el
    exact .inl hown
  · rw[H2 k o h1 c1]at h2;cases h2
theorem aJp {xs:List Int}{l:RL}(hs:HS fo φ Im w h)(ho:lk h 0=some (.arr 1 (aHF xs)))(hφ:φ 0=some l)(hr:l.real=true) :
  Go.Sort.Holds (Value.int .i64) w l.blk l.off xs.toArray∧l.blk<w.heap.size∧xs.length=l.len∧l.len<=l.cap:=by
 have hlt:=aIx hs ho rfl hφ hr
 obtain⟨l0,e0,e1,e2,e3,e4,e5,e6⟩:=hs.rep 0 _ ho
 rw[hφ]at e0
 injection e0 with e0
 subst e0
 obtain⟨c,e,f1,f2,f3⟩:=e6 hr
 rw[aEP]at e2
 refine⟨fun j hj=>?_,hlt,e2,e3⟩
 have hj:j<xs.length:=by simpa using hj
 obtain⟨x,g1,g2⟩:=f3 j 0 (by rw[aEP];exact hj) (by rw[aJ0];simp)
 have:(aHF xs)[j]'(by rw[aEP];exact hj)=[V.i .i64 xs[j]]:=by simp[aHF]
 have g3:RepV fo Im w (.i .i64 xs[j]) x:=by
  have q:((aHF xs)[j]'(by rw[aEP];exact hj))[0]'(by rw[aJ0];simp)=V.i .i64 xs[j]:=by simp[aHF]
  rw[q]at g2;exact g2
 cases g3
 rw[Nat.mul_one,Nat.add_zero]at g1
 have e8:(xs.toArray)[j]! = xs[j]:=by rw[getElem!_pos _ _ (by simpa using hj)];simp
 rw[e8]
 constructor
 ·simp only[World.cell?,f1]
  simpa using g1
 ·simp[World.frozen?,f1]
def aNf:List D->aAR->Option (List Nat×List D×aAR)
 | [.own 0],[(0,.arr 1 xs)]=>match aIJ xs with
  | some l=>if l.length<4611686018427387904 then some ([0],[],[(0,.arr 1 (aHF (aNV l)))])else none
  | none=>none
 | _,_=>none
theorem aRs {ds:List D}{h:aAR}{r:List Nat×List D×aAR}(he:aNf ds h=some r):aFi ds h=[]:=by
 unfold aNf at he
 split at he
 ·rfl
 ·cases he
theorem aWj {args:List Value}(hrep:RepDs fo φ Im w [.own 0] args):∃ (l:RL) (a0:Option Addr),φ 0=some l∧args=[if l.real=true then .slice (some ⟨l.blk,l.off,none⟩) l.len l.cap else .slice a0 0 0]:=by
 obtain⟨hl,hr⟩:=hrep
 match args,hl with
 | [x],_=>
  have:=hr 0 (by simp) (by simp)
  simp only[List.getElem_cons_zero]at this
  generalize hd:(D.own 0)=d at this
  cases this <;> try (injection hd;done)
  all_goals first | (cases hd;done) | skip
  all_goals (injection hd with hd;subst hd;exact⟨_,_,by assumption,rfl⟩)
theorem aMT (l:List Int):(aNV l).length=l.length:=(aIe l).length_eq
theorem bD1 {f:Nat}{fn:Func}(hname:(fn.name == "runtime.NumGoroutine")=false) (hfn:P.funcs[f]? = some fn) (hbody:fn.body.isSome=true)
  (hC:∀ (blk off cap:Nat) (zs:List Int) (w:World),Go.Sort.Holds (Value.int .i64) w blk off zs.toArray->blk<w.heap.size->zs.length<4611686018427387904 ->
    Calls P f #[.slice (some ⟨blk,off,none⟩) zs.length cap] w fun e w'=>e=.returned (.tuple #[])∧∃ n os,w'=Go.Sort.grow (Go.Sort.putRow (Value.int .i64) (Go.Sort.ahead w n) blk off (zs.mergeSort fun x y=>decide (x<=y)).toArray) os)
  (hC0:∀ (p:Option Addr) (cap:Nat) (w:World),Calls P f #[.slice p 0 cap] w fun e w'=>e=.returned (.tuple #[])∧w'=w)
  {ds:List D} {r1:List Nat} {r2:List D} {r3:aAR} {args:List Value} (he:aNf ds h=some (r1,r2,r3)) (hs:HS fo φ Im w h) (hrep:RepDs fo φ Im w ds args) :
  Lands P (callFunc f args.toArray) w (aC2 fo φ Im w h ds args r1 r2 r3):=by
 unfold aNf at he
 split at he
 ·rename_i xs0
  split at he
  · rename_i xs hun
    have e:=aKv hun
    subst e
    split at he
    ·rename_i hn
     injection he with he
     injection he with e1 he
     injection he with e2 e3
     subst e1 e2 e3
     obtain⟨l,a0,hφ,rfl⟩:=aWj hrep
     have hid:D.renL id [D.own 0]=[.own 0]:=rfl
     have hdom:∀ k,lk [(0,Ob.arr 1 (aHF (aNV xs)))] k=none->φ k=none:=fun k hk=>hs.dom k (by
      simp only[lk]at hk ⊢
      split at hk
      ·cases hk
      ·rename_i c;rw[if_neg c])
     cases hr:l.real with
     | true=>
      obtain⟨q1,q2,q3,q4⟩:=aJp hs rfl hφ hr
      have hc:=hC l.blk l.off l.cap xs w q1 q2 hn
      rw[q3]at hc
      refine aGF hname hfn hbody (hc.mono fun e w' ⟨he,n,os,hw⟩=>⟨_,he,?_⟩)
      have hrow:=aQF (Value.int .i64) w n l.blk l.off (aNV xs++[]).toArray os
      rw[List.append_nil,<- aWH,<- hw,aWH]at hrow
      obtain⟨l0,g0,g1,g2,g3,g4,g5,g6⟩:=hs.rep 0 _ rfl
      rw[hφ]at g0
      injection g0 with g0
      subst g0
      have el:l=⟨l.blk,l.off,(aNV xs).length,l.cap,1,true⟩:=by
       rw[aMT,q3]
       cases l
       simp only at g1 hr ⊢
       subst g1 hr;rfl
      have fr:=bBo (φ2:=φ) (q:=0) (ys:=aNV xs) (zs:=[]) (h2:=[(0,Ob.arr 1 (aHF (aNV xs)))]) hs rfl hφ hr rfl (fun k o hk hne=>by
       simp only[lk]at hk
       split at hk
       ·rename_i c;exact absurd c.symm hne
       ·cases hk) hφ hdom el (by rw[aMT];omega) (by rw[List.append_nil,aMT]) (by rw[List.append_nil];exact hrow)
      refine⟨φ,Im,id,fr,.tup [] [] rfl (fun i hi=>absurd hi (by simp)),rfl,?_,?_,fun k hk=>by
       have hk:k=0:=by simpa[D.refsL,D.refs]using hk
       subst hk;exact⟨l,hφ,hφ⟩⟩
      ·rw[hid]
       refine⟨rfl,fun i hi hi'=>?_⟩
       have:i=0:=by simpa using hi
       subst this
       have:=RepD.own (fo:=fo) (Im:=Im) (w:=w') (φ:=φ) 0 l a0 hφ
       rw[hr]at this
       exact this
      ·intro x hx
       simp only[List.mem_singleton]at hx
       subst hx
       rfl
     | false=>
      obtain⟨l0,g0,g1,g2,g3,g4,g5,g6⟩:=hs.rep 0 _ rfl
      rw[hφ]at g0
      injection g0 with g0
      subst g0
      have hx:xs=[]:=by
       have:=g5 hr
       rw[aEP]at g2
       exact List.eq_nil_of_length_eq_zero (by omega)
      subst hx
      refine aGF hname hfn hbody ((hC0 a0 0 w).mono fun e w' ⟨he,hw⟩=>⟨_,he,?_⟩)
      subst hw
      refine⟨φ,Im,id,Fr.refl hs,.tup [] [] rfl (fun i hi=>absurd hi (by simp)),rfl,?_,?_,fun k hk=>by
       have hk:k=0:=by simpa[D.refsL,D.refs]using hk
       subst hk;exact⟨l,hφ,hφ⟩⟩
      ·rw[hid]
       rw[hr]at hrep
       exact hrep
      ·intro x hx
       simp only[List.mem_singleton]at hx
       subst hx
       rfl
    ·cases he
  · cases he
 ·cases he
def aYV:List D->aAR->Option (List Nat×List D×aAR)
 | [.own 0],[(0,.arr 1 xs)]=>match aIJ xs with
  | some l=>if l.length<4611686018427387904 then some ([0],[.own 1],[(0,.dead),(1,.arr 1 (aHF (aLR l)))])else none
  | none=>none
 | _,_=>none
theorem aSe {ds:List D}{h:aAR}{r:List Nat×List D×aAR}(he:aYV ds h=some r):aFi ds h=[]:=by
 unfold aYV at he
 split at he
 ·rfl
 ·cases he
theorem aQq:∀ (l:List Int) (p:Int),(aTl p l).length<=l.length
 | [],_=>Nat.le_refl _
 | y :: r,p=>by
  have:=aQq r y
  unfold aTl
  cases decide (p=y) <;> simp <;> omega
theorem aYN:∀ l:List Int,(aLR l).length<=l.length
 | []=>Nat.le_refl _
 | x :: r=>by
  have:=aQq r x
  unfold aLR
  simp only[List.length_cons];omega
theorem bJu {f:Nat}{fn:Func}(hname:(fn.name == "runtime.NumGoroutine")=false) (hfn:P.funcs[f]? = some fn) (hbody:fn.body.isSome=true)
  (hC:∀ (blk off cap:Nat) (zs:List Int) (w:World),Go.Sort.Holds (Value.int .i64) w blk off zs.toArray->zs.length<=9223372036854775807->zs.length<=cap ->
    Calls P f #[.slice (some ⟨blk,off,none⟩) zs.length cap] w fun e w'=>e=.returned (.slice (some ⟨blk,off,none⟩) (Lib.compact zs).length cap)∧∃ q,w'=Go.Sort.putRow (Value.int .i64) (Go.Sort.ahead w q) blk off (Lib.compact zs++List.replicate (zs.length-(Lib.compact zs).length) 0).toArray)
  (hC0:∀ (p:Option Addr) (cap:Nat) (w:World),Calls P f #[.slice p 0 cap] w fun e w'=>e=.returned (.slice p 0 cap)∧w'=w)
  {ds:List D} {r1:List Nat} {r2:List D} {r3:aAR} {args:List Value} (he:aYV ds h=some (r1,r2,r3)) (hs:HS fo φ Im w h) (hrep:RepDs fo φ Im w ds args) :
  Lands P (callFunc f args.toArray) w (aC2 fo φ Im w h ds args r1 r2 r3):=by
 unfold aYV at he
 split at he
 ·rename_i xs0
  split at he
  · rename_i xs hun
    have e:=aKv hun
    subst e
    split at he
    ·rename_i hn
     injection he with he
     injection he with e1 he
     injection he with e2 e3
     subst e1 e2 e3
     obtain⟨l,a0,hφ,rfl⟩:=aWj hrep
     have hid:D.renL id [D.own 0]=[.own 0]:=rfl
     obtain⟨l0,g0,g1,g2,g3,g4,g5,g6⟩:=hs.rep 0 _ rfl
     rw[hφ]at g0
     injection g0 with g0
     subst g0
     have hlk:∀ x,x∈([(0,.dead),(1,.arr 1 (aHF (aLR xs)))]:aAR)->lk ([(0,.dead),(1,.arr 1 (aHF (aLR xs)))]:aAR) x.1=some x.2:=by
      intro x hx
      rcases List.mem_cons.1 hx with rfl | hx
      ·rfl
      ·rw[List.mem_singleton]at hx
       subst hx;rfl
     cases hr:l.real with
     | true=>
      obtain⟨q1,q2,q3,q4⟩:=aJp hs rfl hφ hr
      have hc:=hC l.blk l.off l.cap xs w q1 (by omega) (by omega)
      rw[bEr]at hc
      rw[show (xs.length:Nat)=l.len from q3]at hc
      refine aGF hname hfn hbody (hc.mono fun e w' ⟨he,n,hw⟩=>⟨_,he,?_⟩)
      have hcl:=aYN xs
      have hrow:=aQF (Value.int .i64) w n l.blk l.off (aLR xs++List.replicate (l.len-(aLR xs).length) 0).toArray #[]
      rw[Go.Sort.grow_empty,<- hw]at hrow
      let φ2:Lay:=fun k=>if k=1 then some ⟨l.blk,l.off,(aLR xs).length,l.cap,1,true⟩else if k=0 then some l else none
      have fr:=bBo (φ2:=φ2) (q:=1) (ys:=aLR xs) (h2:=[(0,.dead),(1,.arr 1 (aHF (aLR xs)))]) hs rfl hφ hr rfl (fun k o hk hne=>by
       simp only[lk]at hk
       split at hk
       ·injection hk with hk;exact hk.symm
       ·split at hk
        ·rename_i c;exact absurd c.symm hne
        ·cases hk) rfl (fun k hk=>by
       simp only[lk]at hk
       split at hk
       ·cases hk
       ·rename_i c1
        split at hk
        ·cases hk
        ·rename_i c2
         show (if k=1 then _ else if k=0 then _ else none)=none
         rw[if_neg (fun e=>c2 e.symm),if_neg (fun e=>c1 e.symm)]) rfl hcl (by rw[List.length_append,List.length_replicate];omega) hrow
      refine⟨φ2,Im,id,fr,?_,rfl,?_,hlk,fun k hk=>by
       have hk:k=0:=by simpa[D.refsL,D.refs]using hk
       subst hk;exact⟨l,hφ,rfl⟩⟩
      ·have:=RepD.own (fo:=fo) (Im:=Im) (w:=w') (φ:=φ2) 1 ⟨l.blk,l.off,(aLR xs).length,l.cap,1,true⟩ none rfl
       exact this
      ·rw[hid]
       refine⟨rfl,fun i hi hi'=>?_⟩
       have:i=0:=by simpa using hi
       subst this
       have:=RepD.own (fo:=fo) (Im:=Im) (w:=w') (φ:=φ2) 0 l a0 rfl
       rw[hr]at this
       simpa[hr]using this
     | false=>
      have hx:xs=[]:=by
       have:=g5 hr
       rw[aEP]at g2
       exact List.eq_nil_of_length_eq_zero (by omega)
      subst hx
      refine aGF hname hfn hbody ((hC0 a0 0 w).mono fun e w' ⟨he,hw⟩=>⟨_,he,?_⟩)
      subst hw
      let φ2:Lay:=fun k=>if k=1 then some l else if k=0 then some l else none
      have hl0:(0:Nat)=l.len:=by rw[aEP]at g2;exact g2
      refine⟨φ2,Im,id,⟨⟨?_,?_,?_,hs.imb,?_,hs.tb⟩,fun _ h=>h,fun _ _ _=>rfl,?_,fun _ h=>.inl h,Nat.le_refl _,rfl,rfl,rfl⟩,?_,rfl,?_,hlk,fun k hk=>by
       have hk:k=0:=by simpa[D.refsL,D.refs]using hk
       subst hk;exact⟨l,hφ,rfl⟩⟩
      ·intro k o hk
       simp only[lk]at hk
       split at hk
       ·injection hk with hk;subst hk;trivial
       ·split at hk
        ·rename_i c;subst c
         injection hk with hk;subst hk
         exact⟨l,rfl,g1,hl0,g3,fun i hi=>absurd hi (by simp[aHF,aLR]),g5,fun h=>by rw[hr]at h;cases h⟩
        ·cases hk
      ·intro k k' o o' m m' h1 h2 m1 m2 p1 p2 r1 r2 hne
       have:∀ k o,lk ([(0,.dead),(1,.arr 1 (aHF (aLR [])))]:aAR) k=some o->o.mut=true->k=1:=by
        intro k o hk hm
        simp only[lk]at hk
        split at hk
        ·injection hk with hk;subst hk;cases hm
        ·split at hk
         ·rename_i c;exact c.symm
         ·cases hk
       exact absurd ((this k o h1 m1).trans (this k' o' h2 m2).symm) hne
      ·rintro g ⟨k,o,m,h1,h2,h3,h4,rfl⟩
       exfalso
       have h3:(if k=1 then some l else if k=0 then some l else none)=some m:=h3
       split at h3
       ·injection h3 with h3;subst h3;rw[hr]at h4;cases h4
       ·split at h3
        ·injection h3 with h3;subst h3;rw[hr]at h4;cases h4
        ·cases h3
      ·intro k hk
       simp only[lk]at hk
       split at hk
       ·cases hk
       ·rename_i c1
        split at hk
        ·cases hk
        ·rename_i c2
         show (if k=1 then _ else if k=0 then _ else none)=none
         rw[if_neg (fun e=>c2 e.symm),if_neg (fun e=>c1 e.symm)]
      ·rintro g ⟨k,o,m,h1,h2,h3,h4,rfl⟩
       exfalso
       have h3:(if k=1 then some l else if k=0 then some l else none)=some m:=h3
       split at h3
       ·injection h3 with h3;subst h3;rw[hr]at h4;cases h4
       ·split at h3
        ·injection h3 with h3;subst h3;rw[hr]at h4;cases h4
        ·cases h3
      ·have:=RepD.own (fo:=fo) (Im:=Im) (w:=w') (φ:=φ2) 1 l a0 rfl
       rw[hr]at this
       exact this
      ·rw[hid]
       refine⟨rfl,fun i hi hi'=>?_⟩
       have:i=0:=by simpa using hi
       subst this
       have:=RepD.own (fo:=fo) (Im:=Im) (w:=w') (φ:=φ2) 0 l a0 rfl
       rw[hr]at this
       simpa[hr]using this
    ·cases he
  · cases he
 ·cases he
def bE2 {R:Type}:En R:=fun ds h k=>match ds,h with
 | [.own 0],[(0,.arr (.t [.i .i64] x))]=>bif decide (x.length<4611686018427387904)then k [0] [] [(0,.arr (.t [.i .i64] (aNV x)))]else none
 | [.own 0],[(0,.arr (.e 1))]=>k [0] [] [(0,.arr (.e 1))]
 | _,_=>none
def bPn {R:Type}:En R:=fun ds h k=>match ds,h with
 | [.own 0],[(0,.arr (.t [.i .i64] x))]=>bif decide (x.length<4611686018427387904)then k [0] [.own 1] [(0,.dead),(1,.arr (.t [.i .i64] (aLR x)))]else none
 | [.own 0],[(0,.arr (.e 1))]=>k [0] [.own 1] [(0,.dead),(1,.arr (.e 1))]
 | _,_=>none
theorem aH0:∀ l:List Int,aIJ (aHF l)=some l
 | []=>rfl
 | x :: r=>by
  show (aIJ (aHF r)).map (x :: ·)=_
  rw[aH0 r];rfl
theorem aTG (x:List Int)(h:x.length<4611686018427387904):aNf [.own 0] [(0,.arr 1 (aHF x))]=some ([0],[],[(0,.arr 1 (aHF (aNV x)))]):=by
 unfold aNf
 simp only[aH0]
 rw[if_pos h]
theorem aYs (x:List Int)(h:x.length<4611686018427387904):aYV [.own 0] [(0,.arr 1 (aHF x))]=some ([0],[.own 1],[(0,.dead),(1,.arr 1 (aHF (aLR x)))]):=by
 unfold aYV
 simp only[aH0]
 rw[if_pos h]
theorem aXT {R:Type}{T:Tab}{v:Nat}(hv:T.ver v=none)(hx:T.ext v=aNf):Snd T v (bE2:En R):=by
 intro ds h k r hk
 unfold bE2 at hk
 split at hk
 ·rename_i x
  cases hb:decide (x.length<4611686018427387904)with
  | false=>rw[hb]at hk;cases hk
  | true=>
   rw[hb]at hk
   refine⟨_,_,_,?_,hk⟩
   rw[aFH hv,hx]
   show aNf [.own 0] [(0,.arr 1 (aHF x))]=some ([0],[],[(0,.arr 1 (aHF (aNV x)))])
   exact aTG x (of_decide_eq_true hb)
 ·refine⟨_,_,_,?_,hk⟩
  rw[aFH hv,hx]
  rfl
 ·cases hk
theorem bB7 {R:Type}{T:Tab}{v:Nat}(hv:T.ver v=none)(hx:T.ext v=aYV):Snd T v (bPn:En R):=by
 intro ds h k r hk
 unfold bPn at hk
 split at hk
 ·rename_i x
  cases hb:decide (x.length<4611686018427387904)with
  | false=>rw[hb]at hk;cases hk
  | true=>
   rw[hb]at hk
   refine⟨_,_,_,?_,hk⟩
   rw[aFH hv,hx]
   show aYV [.own 0] [(0,.arr 1 (aHF x))]=some ([0],[.own 1],[(0,.dead),(1,.arr 1 (aHF (aLR x)))])
   exact aYs x (of_decide_eq_true hb)
 ·refine⟨_,_,_,?_,hk⟩
  rw[aFH hv,hx]
  rfl
 ·cases hk
end
end Am
end Go.Proofs.YtkmbhgggpfbffaaGreatDoor
