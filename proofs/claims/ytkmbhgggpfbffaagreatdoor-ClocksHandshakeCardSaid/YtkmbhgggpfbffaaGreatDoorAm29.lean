/- What is handed to a law, as pure data. -/
import Derived.Test.YtkmbhgggpfbffaaGreatDoorAm28
import Derived.ProofKit
import Derived.OpenShut
set_option linter.unusedVariables false
set_option linter.unusedSimpArgs false
set_option linter.constructorNameAsVariable false
namespace Go.Proofs.YtkmbhgggpfbffaaGreatDoor
namespace Am
open Go.ChangeShapes Go.WideShapes Go.RowKit
inductive Sh where
 | i (k:IntKind)
 | b
 | s
 | sl (es:List Sh)
def bLV (P:Program)(sh:TypeId->Option (List Sh)):List Field->Nat->Option (List Sh)
 | [],_=>some []
 | f :: r,off=>if f.offset=off then (sh f.type).bind fun a=>if a.length=P.cellsOf f.type then (bLV P sh r (off+a.length)).map fun b=>a++b else none else none
def bEd:Nat->List Sh->List Sh
 | 0,_=>[]
 | n+1,es=>es++bEd n es
theorem aYm:∀ (n:Nat) (es:List Sh),(bEd n es).length=n*es.length
 | 0,es=>by simp[bEd]
 | n+1,es=>by simp[bEd,aYm n es,Nat.succ_mul];omega
def shT (P:Program):Nat->TypeId->Option (List Sh)
 | 0,_=>none
 | n+1,t=>match P.underlying t with
  | some .bool=>some [.b]
  | some (.int k)=>some [.i k]
  | some .string=>some [.s]
  | some (.slice e)=>(shT P n e).bind fun es=>if es.length=P.cellsOf e∧es.length≠0 then some [.sl es]else none
  | some (.struct fs)=>(bLV P (shT P n) fs.toList 0).bind fun ss=>if ss.length=P.cellsOf t then some ss else none
  | some (.array m e)=>(shT P n e).bind fun es=>if es.length=P.cellsOf e∧(bEd m es).length=P.cellsOf t then some (bEd m es)else none
  | _=>none
mutual
def bCq:Sh->V->Prop
 | .i k,.i k' n=>k'=k∧(Lit.int k n).wf=true
 | .b,.b _=>True
 | .s,.s s=>s.size<=maxLen
 | .sl es,.sl sz xs=>sz=es.length∧xs.length<=maxLen∧∀ x,x∈xs->FitsL es x
 | _,_=>False
def FitsL:List Sh->List V->Prop
 | [],[]=>True
 | s :: ss,v :: vs=>bCq s v∧FitsL ss vs
 | _,_=>False
end
theorem FitsL.len:∀ {ss:List Sh} {vs:List V},FitsL ss vs->vs.length=ss.length
 | [],[],_=>rfl
 | s :: ss,v :: vs,h=>by simp[FitsL.len h.2]
 | [],_ :: _,h=>h.elim
 | _ :: _,[],h=>h.elim
theorem FitsL.app:∀ {a:List Sh} {u:List V} {b:List Sh} {v:List V},FitsL a u->FitsL b v->FitsL (a++b) (u++v)
 | [],[],_,_,_,h=>h
 | s :: ss,x :: us,_,_,h,h'=>⟨h.1,FitsL.app h.2 h'⟩
 | [],_ :: _,_,_,h,_=>h.elim
 | _ :: _,[],_,_,h,_=>h.elim
section
variable {H:Type} {enc:TypeId×Value->H} {P:Program} {W:World} {sp:Nat->Bool} {held:Bool} {fo:Fo}
theorem aL2 {t e:TypeId}(ht:P.underlying t=some (.slice e)){fuel:Nat}{cs:List Value}{x:DataW H×List MemPlace}(h:DataW.trod enc P W 0 sp held fuel t cs=some x) :
  cs=[.slice none 0 0]∨∃ a len cap m,cs=[.slice (some a) len cap]∧len<=cap∧cap<=maxLen∧∀ i,i<len->∃ ys y,W.cells? 0 (a.add (i*P.cellsOf e)) (P.cellsOf e)=some ys∧DataW.trod enc P W 0 sp held m e ys=some y:=by
 rcases DataW.trod_slice ht h with⟨h1,_⟩ | ⟨a,len,cap,elems,rest,n,_,h2,_,_,h3,h4,h5,h6,_⟩
 ·exact .inl h1
 ·refine .inr ⟨a,len,cap,n,h2,h3,h4,fun i hi=>?_⟩
  have:=h6 i hi
  rw[List.getElem?_eq_getElem (by omega)]at this
  obtain⟨ys,q1,q2⟩:=Option.bind_eq_some_iff.1 this
  exact⟨ys,_,q1,q2⟩
theorem aYp {a:Addr}{n:Nat}{ys:List Value}(h:W.cells? 0 a n=some ys):ys.length=n∧∀ j (hj:j<ys.length),W.cell? (a.add j)=some ys[j]:=by
 unfold World.cells? at h
 rw[if_pos (Nat.zero_le _)]at h
 have hl:=mapM_some_length h
 simp only[List.length_range]at hl
 refine⟨hl,fun j hj=>?_⟩
 have:=mapM_some_get h j j (by simp[List.getElem?_range (show j<n by omega)])
 rw[this,List.getElem?_eq_getElem hj]
theorem aXP:∀ (n:Nat) (t:TypeId) (ss:List Sh),shT P n t=some ss->∀ (fuel:Nat) (cs:List Value) (x:DataW H×List MemPlace),DataW.trod enc P W 0 sp held fuel t cs=some x ->
  ∃ us,FitsL ss us∧us.length=cs.length∧∀ j (hj:j<us.length) (hj':j<cs.length),RepV fo (fun g=>g<W.heap.size) W us[j] cs[j]:=by
 intro n
 induction n with
 | zero=>intro t ss hs;cases hs
 | succ n ih=>
  intro t ss hs fuel cs x h
  have one:∀ (v:Value) (u:V) (s:Sh),cs=[v]->ss=[s]->bCq s u->RepV fo (fun g=>g<W.heap.size) W u v->∃ us,FitsL ss us∧us.length=cs.length∧∀ j (hj:j<us.length) (hj':j<cs.length),RepV fo (fun g=>g<W.heap.size) W us[j] cs[j]:=by
   intro v u s h1 h2 h3 h4
   subst h1 h2
   refine⟨[u],⟨h3,trivial⟩,rfl,fun j hj hj'=>?_⟩
   have:j=0:=by simpa using hj
   subst this;exact h4
  unfold shT at hs
  split at hs
  ·rename_i ht
   injection hs with hs;subst hs
   obtain⟨b,h1,_⟩:=DataW.trod_bool ht h
   exact one _ (.b b) .b h1 rfl trivial (.b b)
  ·rename_i k ht
   injection hs with hs;subst hs
   obtain⟨m,h1,_,h2⟩:=DataW.trod_int ht h
   exact one _ (.i k m) (.i k) h1 rfl ⟨rfl,h2⟩ (.i k m)
  ·rename_i ht
   injection hs with hs;subst hs
   obtain⟨s,h1,_,h2⟩:=DataW.trod_string ht h
   exact one _ (.s s) .s h1 rfl h2 (.s s)
  ·rename_i e ht
   obtain⟨es,h1,hs⟩:=Option.bind_eq_some_iff.1 hs
   split at hs
   ·rename_i hz
    injection hs with hs;subst hs
    rcases aL2 ht h with rfl | ⟨a,len,cap,m,rfl,hle,hmax,hall⟩
    ·exact one _ (.sl es.length []) _ rfl rfl ⟨rfl,by simp,fun x hx=>by cases hx⟩ (.sl _ [] none 0 0 (fun _ _=>undef) rfl (Nat.le_refl _) (fun i hi=>absurd hi (by simp)) (fun hh=>absurd rfl hh) (fun i j hi=>absurd hi (by simp)))
    ·have hel:∀ i:Nat,∃ us,∀ (hi:i<len),FitsL es us∧∀ j (hj:j<us.length),∃ v,W.cell? ((a.add (i*P.cellsOf e)).add j)=some v∧RepV fo (fun g=>g<W.heap.size) W us[j] v:=by
      intro i
      by_cases hi:i<len
      ·obtain⟨ys,y,q1,q2⟩:=hall i hi
       obtain⟨us,z1,z2,z3⟩:=ih e es h1 m ys y q2
       refine⟨us,fun _=>⟨z1,fun j hj=>?_⟩⟩
       obtain⟨c1,c2⟩:=aYp q1
       exact⟨ys[j]'(by omega),c2 j (by omega),z3 j hj (by omega)⟩
      ·exact⟨[],fun h=>absurd h hi⟩
     have hlz:∀ (i:Nat) (hi:i<len),(Classical.choose (hel i)).length=es.length:=fun i hi=>((Classical.choose_spec (hel i)) hi).1.len
     have hxl:((List.range len).map fun i=>Classical.choose (hel i)).length=len:=by simp
     have hspot:len≠0->a.spot=none∧a.block<W.heap.size:=by
      intro h0
      obtain⟨_,q⟩:=(Classical.choose_spec (hel 0)) (by omega)
      obtain⟨v,q1,_⟩:=q 0 (by rw[hlz 0 (by omega)];omega)
      rw[Nat.zero_mul]at q1
      have e1:(a.add 0).add 0=a:=by simp[Addr.add]
      rw[e1]at q1
      unfold World.cell? at q1
      split at q1
      ·rename_i hb
       split at q1
       ·cases q1
       ·rename_i hs2
        exact⟨by simpa using hs2,(Array.getElem?_eq_some_iff.1 hb).1⟩
      ·cases q1
     refine one _ (.sl es.length ((List.range len).map fun i=>Classical.choose (hel i))) _ rfl rfl ⟨rfl,by rw[hxl];omega,fun x hx=>?_⟩ ?_
     ·obtain⟨i,hi,rfl⟩:=List.mem_map.1 hx
      exact ((Classical.choose_spec (hel i)) (List.mem_range.1 hi)).1
     ·have hv:∀ i j:Nat,∃ v,∀ (hi:i<len) (hj:j<(Classical.choose (hel i)).length),W.cell? ((a.add (i*P.cellsOf e)).add j)=some v∧RepV fo (fun g=>g<W.heap.size) W (Classical.choose (hel i))[j] v:=by
       intro i j
       by_cases hi:i<len
       ·by_cases hj:j<(Classical.choose (hel i)).length
        ·obtain⟨v,q⟩:=((Classical.choose_spec (hel i)) hi).2 j hj;exact⟨v,fun _ _=>q⟩
        ·exact⟨undef,fun _ h=>absurd h hj⟩
       ·exact⟨undef,fun h=>absurd h hi⟩
      refine .sl _ _ (some a) len cap (fun i j=>Classical.choose (hv i j)) hxl hle (fun i hi=>?_) (fun h0=>?_) (fun i j hi hj=>?_)
      ·simp only[List.getElem_map,List.getElem_range]
       exact hlz i (by simpa using hi)
      ·obtain⟨s1,s2⟩:=hspot h0
       obtain⟨ab,ao,as⟩:=a
       simp only at s1 s2
       subst s1
       refine⟨ab,ao,rfl,s2,fun i j hi hj=>?_⟩
       have:=(Classical.choose_spec (hv i j) hi (by rw[hlz i hi];exact hj)).1
       have e1:((⟨ab,ao,none⟩:Addr).add (i*P.cellsOf e)).add j=⟨ab,ao+i*es.length+j,none⟩:=by rw[aHc,aHc,hz.1]
       exact (congrArg W.cell? e1.symm).trans this
      ·simp only[List.getElem_map,List.getElem_range]at hj ⊢
       exact (Classical.choose_spec (hv i j) (by simpa using hi) hj).2
   ·cases hs
  ·rename_i fs ht
   obtain⟨ss',h1,hs⟩:=Option.bind_eq_some_iff.1 hs
   split at hs
   ·rename_i hlen
    injection hs with hs;subst hs
    obtain⟨xs,m,_,_,hcl,hxl,hf⟩:=DataW.trod_struct ht h
    have key:∀ (fl:List Field) (off:Nat) (ss:List Sh),bLV P (shT P n) fl off=some ss->(∀ f,f∈fl->∃ y,DataW.trod enc P W 0 sp held m f.type ((cs.drop f.offset).take (P.cellsOf f.type))=some y) ->
      ∃ us,FitsL ss us∧∀ j (hj:j<us.length),∃ v,cs[off+j]? = some v∧RepV fo (fun g=>g<W.heap.size) W us[j] v:=by
     intro fl
     induction fl with
     | nil=>
      intro off ss hs _
      injection hs with hs;subst hs
      exact⟨[],trivial,fun j hj=>absurd hj (by simp)⟩
     | cons f fl ihf=>
      intro off ss hs hall
      unfold bLV at hs
      split at hs
      ·rename_i hoff
       obtain⟨a,ha,hs⟩:=Option.bind_eq_some_iff.1 hs
       split at hs
       ·rename_i hal
        obtain⟨b,hb,rfl⟩:=Option.map_eq_some_iff.1 hs
        obtain⟨y,hy⟩:=hall f List.mem_cons_self
        obtain⟨us,z1,z2,z3⟩:=ih f.type a ha m _ y hy
        obtain⟨us',y1,y2⟩:=ihf (off+a.length) b hb (fun g hg=>hall g (List.mem_cons_of_mem _ hg))
        refine⟨us++us',z1.app y1,fun j hj=>?_⟩
        have hul:=z1.len
        by_cases hlt:j<us.length
        ·have hj2:j<((cs.drop f.offset).take (P.cellsOf f.type)).length:=by rw[<- z2];exact hlt
         have:=z3 j hlt hj2
         refine⟨_,?_,by rw[List.getElem_append_left hlt];exact this⟩
         have e1:((cs.drop f.offset).take (P.cellsOf f.type))[j]? = some ((cs.drop f.offset).take (P.cellsOf f.type))[j]:=List.getElem?_eq_getElem hj2
         rw[<- e1,List.getElem?_take_of_lt (by omega),List.getElem?_drop,hoff]
        ·have hj2:j-us.length<us'.length:=by simp at hj;omega
         obtain⟨v,q1,q2⟩:=y2 (j-us.length) hj2
         refine⟨v,?_,by rw[List.getElem_append_right (by omega)];exact q2⟩
         rw[<- q1]
         congr 1
         omega
       ·cases hs
      ·cases hs
    obtain⟨us,k1,k2⟩:=key fs.toList 0 ss' h1 (fun f hf'=>by
     obtain⟨i,hi,rfl⟩:=List.getElem_of_mem hf'
     have hi2:i<fs.size:=by simpa using hi
     have:=hf i fs[i] (Array.getElem?_eq_getElem hi2)
     rw[List.getElem?_eq_getElem (by omega)]at this
     exact⟨_,by simpa using this⟩)
    have hul:us.length=cs.length:=by rw[k1.len,hlen,hcl]
    refine⟨us,k1,hul,fun j hj hj'=>?_⟩
    obtain⟨v,q1,q2⟩:=k2 j hj
    rw[Nat.zero_add,List.getElem?_eq_getElem hj']at q1
    injection q1 with q1
    subst q1
    exact q2
   ·cases hs
  ·rename_i mm e ht
   obtain⟨es,h1,hs⟩:=Option.bind_eq_some_iff.1 hs
   split at hs
   ·rename_i hz
    injection hs with hs;subst hs
    obtain⟨xs,m,_,_,hcl,hxl,hf⟩:=DataW.trod_array ht h
    have key:∀ (q i:Nat),i+q=mm->∃ us,FitsL (bEd q es) us∧∀ j (hj:j<us.length),∃ v,cs[i*es.length+j]? = some v∧RepV fo (fun g=>g<W.heap.size) W us[j] v:=by
     intro q
     induction q with
     | zero=>intro i _;exact⟨[],trivial,fun j hj=>absurd hj (by simp)⟩
     | succ q ihq=>
      intro i hi
      have hy:=hf i (by omega)
      rw[List.getElem?_eq_getElem (by omega)]at hy
      obtain⟨us,z1,z2,z3⟩:=ih e es h1 m _ _ hy
      obtain⟨us',y1,y2⟩:=ihq (i+1) (by omega)
      refine⟨us++us',z1.app y1,fun j hj=>?_⟩
      have hul:=z1.len
      by_cases hlt:j<us.length
      ·have hj2:j<((cs.drop (i*P.cellsOf e)).take (P.cellsOf e)).length:=by rw[<- z2];exact hlt
       have:=z3 j hlt hj2
       refine⟨_,?_,by rw[List.getElem_append_left hlt];exact this⟩
       have e1:((cs.drop (i*P.cellsOf e)).take (P.cellsOf e))[j]? = some ((cs.drop (i*P.cellsOf e)).take (P.cellsOf e))[j]:=List.getElem?_eq_getElem hj2
       rw[<- e1,List.getElem?_take_of_lt (by omega),List.getElem?_drop,hz.1]
      ·have hj2:j-us.length<us'.length:=by simp at hj;omega
       obtain⟨v,q1,q2⟩:=y2 (j-us.length) hj2
       refine⟨v,?_,by rw[List.getElem_append_right (by omega)];exact q2⟩
       rw[<- q1]
       congr 1
       rw[Nat.succ_mul]
       omega
    obtain⟨us,k1,k2⟩:=key mm 0 (by omega)
    have hul:us.length=cs.length:=by rw[k1.len,hz.2,hcl]
    refine⟨us,k1,hul,fun j hj hj'=>?_⟩
    obtain⟨v,q1,q2⟩:=k2 j hj
    rw[Nat.zero_mul,Nat.zero_add,List.getElem?_eq_getElem hj']at q1
    injection q1 with q1
    subst q1
    exact q2
   ·cases hs
  ·cases hs
end
end Am
end Go.Proofs.YtkmbhgggpfbffaaGreatDoor
