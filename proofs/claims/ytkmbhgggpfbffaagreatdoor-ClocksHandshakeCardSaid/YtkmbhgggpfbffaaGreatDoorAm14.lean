/- New variables, structs, slices, closures. -/
import Derived.Test.YtkmbhgggpfbffaaGreatDoorAm13
import Derived.Laws.Tables
import Derived.Laws.MakeOwn
import Derived.Great.BuildSlice
set_option linter.unusedVariables false
set_option linter.unusedSimpArgs false
set_option linter.constructorNameAsVariable false
namespace Go.Proofs.YtkmbhgggpfbffaaGreatDoor
namespace Am
section
variable {P:Program} {fo:Fo} {vm:FuncId->Nat} {φ:Lay} {Im:Nat->Prop} {w:World} {h:aAR} {a:Act} {av:List Value} {e:Env} {F:Cf} {β:Type} {r:β×St}
def ZR (v:V)(x:Value):Prop:=(∃ sz,v=.sl sz []∧x=.slice none 0 0)∨((∀ sz xs,v≠.sl sz xs)∧∀ (fo:Fo) (Im:Nat->Prop) (w:World),RepV fo Im w v x)
theorem aMG {v:V}{x:Value}(hz:aL5 v x=true):ZR v x:=by
 unfold aL5 at hz
 split at hz
 ·exact .inr ⟨fun _ _ h=>(by cases h),fun _ _ _=>by rw[beq_iff_eq]at hz;subst hz;exact .b _⟩
 ·exact .inr ⟨fun _ _ h=>(by cases h),fun _ _ _=>by simp only[Bool.and_eq_true,beq_iff_eq]at hz;obtain⟨rfl,rfl⟩:=hz;exact .i _ _⟩
 ·exact .inr ⟨fun _ _ h=>(by cases h),fun _ _ _=>by have hz:=of_decide_eq_true hz;subst hz;exact .s _⟩
 ·exact .inr ⟨fun _ _ h=>(by cases h),fun _ _ _=>.n0⟩
 ·exact .inr ⟨fun _ _ h=>(by cases h),fun _ _ _=>.n1⟩
 ·exact .inr ⟨fun _ _ h=>(by cases h),fun _ _ _=>.n2⟩
 ·exact .inr ⟨fun _ _ h=>(by cases h),fun _ _ _=>.n3⟩
 ·exact .inl ⟨_,rfl,rfl⟩
 ·cases hz
theorem aLb:∀ {vs:List V} {xs:List Value},aHn vs xs=true->vs.length=xs.length∧∀ i (hi:i<vs.length) (hi':i<xs.length),ZR vs[i] xs[i]
 | [],[],_=>⟨rfl,fun i hi=>absurd hi (by simp)⟩
 | v :: vs,x :: xs,hz=>by
  simp only[aHn,Bool.and_eq_true]at hz
  obtain⟨h1,h2⟩:=aLb hz.2
  refine⟨by simp[h1],fun i hi hi'=>?_⟩
  cases i with
  | zero=>exact aMG hz.1
  | succ i=>exact h2 i (by simpa using hi) (by simpa using hi')
 | [],_ :: _,hz=>by simp[aHn]at hz
 | _ :: _,[],hz=>by simp[aHn]at hz
theorem aIo {t:TypeId}{z:List V}(hz:aHL P t=some z):∃ i zv,P.info? t=some i∧i.zero=some zv∧zv.cells.size=P.cellsOf t∧z.length=zv.cells.toList.length∧∀ i (hi:i<z.length) (hi':i<zv.cells.toList.length),ZR z[i] zv.cells.toList[i]:=by
 unfold aHL at hz
 obtain⟨z',_,h2⟩:=Option.bind_eq_some_iff.1 hz
 split at h2
 ·rename_i v hv
  obtain⟨i,hi,hiz⟩:=Option.bind_eq_some_iff.1 hv
  split at h2
  ·rename_i hmm
   injection h2 with h2
   subst h2
   simp only[Bool.and_eq_true,beq_iff_eq]at hmm
   obtain⟨m1,m2⟩:=aLb hmm.1
   exact⟨i,v,hi,hiz,by rw[<- hmm.2,m1];simp,m1,m2⟩
  ·cases h2
 ·cases h2
theorem ZR.one {v:V}{x:Value}(hz:ZR v x):x.oneCell'=true:=by
 rcases hz with⟨_,_,rfl⟩ | ⟨_,h2⟩
 ·rfl
 ·exact (h2 ⟨fun _=>none,fun _=>none⟩ (fun _=>False) { (default:World)with }).one
theorem RepL.stp {φ':Lay}{Im':Nat->Prop}{w':World}{h':aAR}{ds:List D}{vs:List Value}(hr:∀ i (hi:i<ds.length) (hi':i<vs.length),RepD fo φ Im w ds[i] vs[i])(hs:HS fo φ Im w h)(s:Stp fo φ Im w h φ' Im' w' h') :
 ∀ i (hi:i<ds.length) (hi':i<vs.length),RepD fo φ' Im' w' ds[i] vs[i]:=fun i hi hi'=>(hr i hi hi').stp hs s
theorem aIT:∀ (z:List V) (nm:Nat) (vs:List Value) {φ:Lay} {h:aAR} {k:List D->M β},HS fo φ Im w h->z.length=vs.length->(∀ i (hi:i<z.length) (hi':i<vs.length),ZR z[i] vs[i]) ->
  (aM7 nm z k).run F ⟨e,h⟩=some r->∃ ds φ' h',(k ds).run F ⟨e,h'⟩=some r∧Stp fo φ Im w h φ' Im w h'∧ds.length=vs.length∧(∀ d,d∈ds->d.one=true)∧∀ i (hi:i<ds.length) (hi':i<vs.length),RepD fo φ' Im w ds[i] vs[i]
 | [],nm,vs,φ,h,k,hs,hl,hz,hr=>by
  have:vs=[]:=List.eq_nil_of_length_eq_zero hl.symm
  subst this
  exact⟨[],φ,h,hr,.refl hs,rfl,(fun d hd=>by cases hd),fun i hi=>absurd hi (by simp)⟩
 | v :: z,nm,[],φ,h,k,hs,hl,hz,hr=>by simp at hl
 | v :: z,nm,x :: vs,φ,h,k,hs,hl,hz,hr=>by
  have hz0:ZR v x:=hz 0 (by simp) (by simp)
  have hz1:∀ i (hi:i<z.length) (hi':i<vs.length),ZR z[i] vs[i]:=fun i hi hi'=>hz (i+1) (by simpa using hi) (by simpa using hi')
  rcases hz0 with⟨sz,rfl,rfl⟩ | ⟨hns,hrep⟩
  · obtain⟨hn,g1⟩:=aFd hr
    have s1:=aGK (sz:=sz) hs hn
    obtain⟨ds,φ',h',g2,s2,q1,q2,q3⟩:=aIT z (nm+1) vs s1.fr.hs (by simpa using hl) hz1 g1
    refine⟨_,φ',h',g2,s1.trans s2,by simp[q1],fun d hd=>?_,fun i hi hi'=>?_⟩
    ·rcases List.mem_cons.1 hd with rfl | hd
     ·rfl
     ·exact q2 d hd
    ·cases i with
     | zero=>exact RepD.own nm ⟨0,0,0,0,sz,false⟩ none (s2.up _ _ (if_pos rfl))
     | succ i=>exact q3 i (by simpa using hi) (by simpa using hi')
  · have hr':(aM7 (nm+1) z fun ds=>k (.p v :: ds)).run F ⟨e,h⟩=some r:=by
     cases v <;> first | exact hr | exact absurd rfl (hns _ _)
    obtain⟨ds,φ',h',g2,s2,q1,q2,q3⟩:=aIT z (nm+1) vs hs (by simpa using hl) hz1 hr'
    refine⟨_,φ',h',g2,s2,by simp[q1],fun d hd=>?_,fun i hi hi'=>?_⟩
    ·rcases List.mem_cons.1 hd with rfl | hd
     ·rfl
     ·exact q2 d hd
    ·cases i with
     | zero=>exact .p _ _ (hrep _ _ _)
     | succ i=>exact q3 i (by simpa using hi) (by simpa using hi')
theorem bDS (hs:HS fo φ Im w h){nm:Nat}{t:TypeId}{z:List V}(hz:aHL P t=some z){o:Oper}(ho:o.op=.alloc t){k:D->M β}
  (hr:(evO nm k (.al z)).run F ⟨e,h⟩=some r):Good P fo φ Im w h e F r (execOp a.eval o) k:=by
 obtain⟨i,zv,h1,h2,h3,h4,h5⟩:=aIo hz
 obtain⟨ds,φ1,hh,g1,s1,q1,q2,q3⟩:=aIT z (nm+1) zv.cells.toList hs h4 h5 hr
 obtain⟨hn,g2⟩:=aFd g1
 have s2:=aSI s1.fr.hs hn q1 q2 q3 t
 refine⟨_,_,_,_,_,.pointer (some ⟨w.heap.size,0,none⟩),g2,s1.trans s2,?_,.inl ?_⟩
 ·have:=RepD.ptr (fo:=fo) (Im:=Im) (w:=w.alloc (.cells zv.cells.toList.toArray t)) (φ:=fun k=>if k=nm then some (RL.box w.heap.size)else φ1 k) nm 0 w.heap.size (if_pos rfl)
  simpa[RL.box]using this
 ·simp[execOp,ho,Instr.alloc,zeroValue,typeInfo,h1,h2,newVar,newRow]
theorem aMR (off:Nat):∀ (l:List Value) (n:Nat) (cells:Array Value),((l.zipIdx n).foldl (fun cs (c,j)=>cs.setIfInBounds (off+j) c) cells).size=cells.size ∧
  ∀ q,q<cells.size->((l.zipIdx n).foldl (fun cs (c,j)=>cs.setIfInBounds (off+j) c) cells)[q]? = if off+n<=q∧q<off+n+l.length then l[q-(off+n)]? else cells[q]?
 | [],n,cells=>⟨rfl,fun q hq=>by rw[if_neg (by simp)];rfl⟩
 | x :: l,n,cells=>by
  obtain⟨h1,h2⟩:=aMR off l (n+1) (cells.setIfInBounds (off+n) x)
  simp only[List.zipIdx_cons,List.foldl_cons]
  refine⟨by rw[h1];simp,fun q hq=>?_⟩
  rw[h2 q (by simpa using hq)]
  by_cases hq0:q=off+n
  ·subst hq0
   rw[if_neg (by omega),if_pos (by simp)]
   simp[hq]
  ·by_cases hin:off+n<=q∧q<off+n+(x :: l).length
   ·rw[if_pos (by simp at hin;omega),if_pos hin]
    rw[show q-(off+n)=(q-(off+(n+1)))+1 from by omega,List.getElem?_cons_succ]
   ·rw[if_neg (by simp at hin ⊢;omega),if_neg hin,Array.getElem?_setIfInBounds_ne (by omega)]
def CsR (fo:Fo)(φ:Lay)(Im:Nat->Prop)(w:World)(zv:List Value)(cs:List (Option D))(cells:Array Value):Prop:=
 cs.length=cells.size∧zv.length=cells.size∧(∀ (i:Nat) (d:D),cs[i]? = some (some d)->d.one=true∧∃ x,cells[i]? = some x∧RepD fo φ Im w d x)∧(∀ (i:Nat),cs[i]? = some none->cells[i]? = zv[i]?)
def PR (fo:Fo)(φ:Lay)(Im:Nat->Prop)(w:World)(place:Nat->Option (Nat×Nat)):List (Nat×Nat×D)->List (Nat×Value)->Prop
 | [],[]=>True
 | (off,size,d) :: r,(i,v) :: s=>place i=some (off,size)∧RepD fo φ Im w d v∧PR fo φ Im w place r s
 | _,_=>False
theorem PR.stp {φ':Lay}{Im':Nat->Prop}{w':World}{h':aAR}{place:Nat->Option (Nat×Nat)}(hs:HS fo φ Im w h)(s:Stp fo φ Im w h φ' Im' w' h'):∀ {ps:List (Nat×Nat×D)} {vs:List (Nat×Value)},PR fo φ Im w place ps vs->PR fo φ' Im' w' place ps vs
 | [],[],_=>trivial
 | (off,size,d) :: r,(i,v) :: t,⟨h1,h2,h3⟩=>⟨h1,h2.stp hs s,h3.stp hs s⟩
 | [],_ :: _,hp=>hp.elim
 | _ :: _,[],hp=>hp.elim
theorem aIf (hfo:∀ f,fo (vm f)=some f){place:Nat->Option (Nat×Nat×TypeId)}{plc:Nat->Option (Nat×Nat)}(hpl:∀ i x,place i=some x->plc i=some (x.1,x.2.1)):∀ (ps:List (Nat×Operand)) (key:Nat) (ps':List (Nat×Nat×Od)),aI2 P vm place ps key=some ps' ->
  ∀ {φ:Lay} {h:aAR} {k:List (Nat×Nat×D)->M β},HS fo φ Im w h->ER fo φ Im w a av e->(aLi ps' k).run F ⟨e,h⟩=some r ->
  ∃ ds φ' h',(k ds).run F ⟨e,h'⟩=some r∧Stp fo φ Im w h φ' Im w h'∧PR fo φ' Im w plc ds (ps.map fun x=>(x.1,a.eval x.2))
 | [],key,ps',hc,φ,h,k,hs,he,hr=>by
  injection hc with hc;subst hc
  exact⟨[],φ,h,hr,.refl hs,trivial⟩
 | (i,x) :: ps,key,ps',hc,φ,h,k,hs,he,hr=>by
  obtain⟨⟨off,size,ty⟩,h1,h2⟩:=Option.bind_eq_some_iff.1 hc
  obtain⟨x',h3,h4⟩:=Option.bind_eq_some_iff.1 h2
  obtain⟨xs',h5,rfl⟩:=Option.map_eq_some_iff.1 h4
  obtain⟨d,φ1,hh,g1,s1,r1⟩:=aAH hfo hs he h3 hr
  obtain⟨ds,φ2,h2',g2,s2,r2⟩:=aIf hfo hpl ps (key+1) xs' h5 s1.fr.hs (he.stp hs s1) g1
  exact⟨_,φ2,h2',g2,s1.trans s2,hpl _ _ h1,r1.stp s1.fr.hs s2,r2⟩
theorem aIs {place:Nat->Option (Nat×Nat)}{zv:List Value}:∀ (ps:List (Nat×Nat×D)) (vs:List (Nat×Value)) (cs cs':List (Option D)) (cells:Array Value),PR fo φ Im w place ps vs->CsR fo φ Im w zv cs cells->aIq ps cs=some cs' ->
  ∃ cells',Instr.fill place cells vs=some cells'∧CsR fo φ Im w zv cs' cells'
 | [],[],cs,cs',cells,_,hc,hp=>by
  injection hp with hp;subst hp
  exact⟨cells,rfl,hc⟩
 | (off,size,d) :: r,(i,v) :: t,cs,cs',cells,⟨h1,h2,h3⟩,hc,hp=>by
  unfold aIq at hp
  split at hp
  ·  rename_i hg
     obtain⟨p1,p2,p3⟩:=hg
     obtain⟨us,u1,u2,u3,u4⟩:=aOq h2 p3
     obtain⟨c1,c2,c3,c4⟩:=hc
     obtain⟨f1,f2⟩:=aMR off us 0 cells
     have hun:Instr.fill place cells ((i,v) :: t)=Instr.fill place ((us.zipIdx 0).foldl (fun cs (c,j)=>cs.setIfInBounds (off+j) c) cells) t:=by
      rw[Instr.fill,h1]
      simp only[u1]
      rw[if_neg (by simp;omega)]
      congr 1
      simp
     rw[hun]
     have hl2:(d.cells.map some).length=size:=by simp[p1]
     have hm:∀ q,(cs.take off++d.cells.map some++cs.drop (off+size))[q]? = if q<off then cs[q]? else if q<off+size then (d.cells.map some)[q-off]? else cs[q]? := by
      intro q
      have:=aIO cs (d.cells.map some) off q (by rw[hl2];exact p2)
      rw[hl2]at this
      exact this
     refine aIs r t _ cs' _ h3 ⟨by rw[f1,<- c1];simp;omega,by rw[f1];exact c2,fun q d' hq=>?_,fun q hq=>?_⟩ hp
     ·rw[hm]at hq
      have hqs:q<cells.size:=by
       rw[<- c1]
       split at hq
       ·omega
       ·split at hq
        ·omega
        ·exact (List.getElem?_eq_some_iff.1 hq).1
      rw[f2 q hqs]
      split at hq
      ·rw[if_neg (by omega)];exact c3 q d' hq
      ·split at hq
       ·rw[if_pos (by omega)]
        obtain⟨hlt,he⟩:=List.getElem?_eq_some_iff.1 hq
        simp only[List.length_map]at hlt
        simp only[List.getElem_map,Option.some.injEq]at he
        subst he
        refine⟨u3 _ (List.getElem_mem _),us[q-off]'(by omega),?_,u4 (q-off) hlt (by omega)⟩
        rw[Nat.add_zero,List.getElem?_eq_getElem]
       ·rw[if_neg (by omega)];exact c3 q d' hq
     ·rw[hm]at hq
      have hqs:q<cells.size:=by
       rw[<- c1]
       split at hq
       ·omega
       ·split at hq
        ·omega
        ·exact (List.getElem?_eq_some_iff.1 hq).1
      rw[f2 q hqs]
      split at hq
      ·rw[if_neg (by omega)];exact c4 q hq
      ·split at hq
       ·simp at hq
       ·rw[if_neg (by omega)];exact c4 q hq
  ·  cases hp
 | [],_ :: _,_,_,_,hp,_,_=>hp.elim
 | _ :: _,[],_,_,_,hp,_,_=>hp.elim
end
end Am
end Go.Proofs.YtkmbhgggpfbffaaGreatDoor
