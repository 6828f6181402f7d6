/- A law's row, out of what the abstract machine says of it. -/
import Derived.Test.YtkmbhgggpfbffaaGreatDoorAm29
set_option linter.unusedVariables false
set_option linter.unusedSimpArgs false
set_option linter.constructorNameAsVariable false
namespace Go.Proofs.YtkmbhgggpfbffaaGreatDoor
namespace Am
open Go.ChangeShapes Go.WideShapes Go.RowKit
def aX0 (P:Program)(t:TypeId)(us:List V):D:=if aK4 P t then .agg (us.map .p)else match us with
 | [u]=>.p u
 | _=>.und
def aYi (P:Program)(n:Nat):List TypeId->List (List V)->Prop
 | [],[]=>True
 | t :: ts,us :: r=>(∃ ss,shT P n t=some ss∧FitsL ss us)∧aYi P n ts r
 | _,_=>False
def aPS (P:Program):List TypeId->List (List V)->List D
 | t :: ts,us :: r=>aX0 P t us :: aPS P ts r
 | _,_=>[]
section
variable {H:Type} {enc:TypeId×Value->H} {P:Program} {W:World} {sp:Nat->Bool} {held:Bool} {fo:Fo}
theorem bFa {φ:Lay}{n:Nat}{t:TypeId}{v:Value}{d:DataW H}{p:List MemPlace}{base:Nat}(h:DataW.Trod enc P W 0 sp held t v d p)(hval:Value.okWide P W .any base t v){ss:List Sh}(hs:shT P n t=some ss) :
  ∃ us,FitsL ss us∧RepD fo φ (fun g=>g<W.heap.size) W (aX0 P t us) v:=by
 obtain⟨fuel,h⟩:=h
 obtain⟨us,h1,h2,h3⟩:=aXP (fo:=fo) n t ss hs fuel _ _ h
 refine⟨us,h1,?_⟩
 unfold aX0
 by_cases hagg:aK4 P t=true
 ·rw[if_pos hagg]
  have:∃ cs,v=.agg cs:=by
   unfold aK4 at hagg
   unfold Value.okWide at hval
   split at hagg
   ·rename_i fs hu;rw[hu]at hval;obtain⟨cs,rfl,_⟩:=hval;exact⟨cs,rfl⟩
   ·rename_i m e hu;rw[hu]at hval;obtain⟨cs,rfl,_⟩:=hval;exact⟨cs,rfl⟩
   ·cases hagg
  obtain⟨cs,rfl⟩:=this
  have:=RepD.agg (fo:=fo) (φ:=φ) (Im:=fun g=>g<W.heap.size) (w:=W) (us.map .p) cs.toList (by simpa[Value.cells]using h2) (fun d hd=>by obtain⟨u,_,rfl⟩:=List.mem_map.1 hd;rfl) (fun i hi hi'=>by
   simp only[List.getElem_map]
   exact .p _ _ (h3 i (by simpa using hi) (by simpa[Value.cells]using hi')))
  simpa using this
 ·rw[if_neg hagg]
  have hlen:ss.length=1∧v.cells=#[v]:=by
   cases n with
   | zero=>cases hs
   | succ n=>
    unfold shT at hs
    unfold Value.okWide at hval
    split at hs
    ·rename_i hu
     injection hs with hs;subst hs
     rw[hu]at hval
     simp only[Cell.okWide,Cell.ok,hu]at hval
     cases v <;> first | exact⟨rfl,rfl⟩ | simp[hu]at hval
    ·rename_i k hu
     injection hs with hs;subst hs
     rw[hu]at hval
     simp only[Cell.okWide,Cell.ok,hu]at hval
     cases v <;> first | exact⟨rfl,rfl⟩ | simp[hu]at hval
    ·rename_i hu
     injection hs with hs;subst hs
     rw[hu]at hval
     simp only[Cell.okWide,Cell.ok,hu]at hval
     cases v <;> first | exact⟨rfl,rfl⟩ | simp[hu]at hval
    ·rename_i e hu
     obtain⟨es,_,hs⟩:=Option.bind_eq_some_iff.1 hs
     split at hs
     ·injection hs with hs;subst hs
      rw[hu]at hval
      simp only[Cell.okWide,Cell.ok,hu]at hval
      cases v <;> first | exact⟨rfl,rfl⟩ | simp[hu]at hval
     ·cases hs
    ·rename_i fs hu
     exact absurd (by unfold aK4;rw[hu]) hagg
    ·rename_i m e hu
     exact absurd (by unfold aK4;rw[hu]) hagg
    ·cases hs
  obtain⟨g1,g2⟩:=hlen
  have hul:us.length=1:=by rw[h1.len,g1]
  match us,hul with
  | [u],_=>
   have:=h3 0 (by simp) (by rw[g2];simp)
   simp only[g2]at this
   exact .p u v (by simpa using this)
theorem aMp {φ:Lay}{n:Nat}{base:Nat}:∀ (ts:List TypeId) (vs:List Value) (ds:List (DataW H)) (p:List MemPlace),DataW.TrodAll enc P W 0 sp held ts vs ds p->(∀ (j:Nat) t v,ts[j]? = some t->vs[j]? = some v->Value.okWide P W .any base t v)->(∀ t,t∈ts->(shT P n t).isSome=true) ->
  ∃ uss,aYi P n ts uss∧RepDs fo φ (fun g=>g<W.heap.size) W (aPS P ts uss) vs
 | [],[],[],p,_,_,_=>⟨[],trivial,rfl,fun i hi=>absurd hi (by simp[aPS])⟩
 | t :: ts,v :: vs,d :: ds,p,h,hval,hsh=>by
  obtain⟨p1,q1,h1,h2,_⟩:=h
  obtain⟨ss,hs⟩:=Option.isSome_iff_exists.1 (hsh t List.mem_cons_self)
  obtain⟨us,z1,z2⟩:=bFa (fo:=fo) (φ:=φ) (n:=n) h1 (hval 0 t v rfl rfl) hs
  obtain⟨uss,y1,y2,y3⟩:=aMp ts vs ds q1 h2 (fun j t v h3 h4=>hval (j+1) t v h3 h4) (fun t ht=>hsh t (List.mem_cons_of_mem _ ht))
  refine⟨us :: uss,⟨⟨ss,hs,z1⟩,y1⟩,by simp[aPS,y2],fun i hi hi'=>?_⟩
  cases i with
  | zero=>exact z2
  | succ i=>exact y3 i (by simpa[aPS]using hi) (by simpa using hi')
 | [],_ :: _,_,_,h,_,_=>by cases h
 | [],[],_ :: _,_,h,_,_=>by cases h
 | _ :: _,[],_,_,h,_,_=>by cases h
 | _ :: _,_ :: _,[],_,h,_,_=>by cases h
theorem aJy (hl:laidOutB P=true){W':World}(hb:Below W.heap.size W W'):∀ (ts:List TypeId) (vs:List Value) (ds:List (DataW H)) (p:List MemPlace),DataW.TrodAll enc P W 0 (fun _=>true) true ts vs ds p->(∀ t,t∈ts->P.readableRec t=true∧t<P.types.size) ->
  DataW.TrodAll enc P W' 0 (fun b=>decide (b<W.heap.size)) true ts vs ds p
 | [],[],[],p,h,_=>h
 | t :: ts,v :: vs,d :: ds,p,h,hr=>by
  have hlt:=h.lt
  obtain⟨p1,q1,h1,h2,rfl⟩:=h
  obtain⟨r1,r2⟩:=hr t List.mem_cons_self
  exact⟨p1,q1,Below.trod hl r1 r2 h1 hb (fun x hx=>hlt x (List.mem_append_left _ hx)),aJy hl hb ts vs ds q1 h2 (fun t ht=>hr t (List.mem_cons_of_mem _ ht)),rfl⟩
 | [],_ :: _,_,_,h,_=>by cases h
 | [],[],_ :: _,_,h,_=>by cases h
 | _ :: _,[],_,_,h,_=>by cases h
 | _ :: _,_ :: _,[],_,h,_=>by cases h
theorem aUU {F:Cf}(hC:aD0 P fo F){n:Nat}{f:FuncId}{fn:Func}(hfo:fo f=some f)(hfn:P.funcs[f]? = some fn)(hbody:fn.body.isSome=true)(hname:(fn.name == "runtime.NumGoroutine")=false) (hl:laidOutB P=true)
  (hok:(fn.params.toList.all fun t=>P.readableRec t&&decide (t<P.types.size)&&(shT P n t).isSome)=true) {tb:TypeId} (hres:fn.resultTypes=#[tb]) (htb:P.underlying tb=some .bool)
  {s:ChangeSpec} (hvars:s.vars=[]) (hspec:∀ (ds:List (DataW H)),ds.length=fn.params.size->(s.fn H ds).results=[.lit (.bool true)]∧(s.fn H ds).args=ds∧(s.fn H ds).vars=[])
  (hlaw:∀ uss,aYi P n fn.params.toList uss->F f (aPS P fn.params.toList uss) []=some ([],[.p (.b true)],[]))
  (W:World) (base:Nat) (args:Array Value) (ds gs:List (DataW H)) (before:List MemPlace) (hval:∀ (j:Nat) t v,fn.params[j]? = some t->args[j]? = some v->Value.okWide P W .any base t v) (hW:DataW.Whole enc P fn.params.toList s.vars false W args.toList ds gs before) (htab:∀ g cs,fo.tab g=some cs->∃ t f,W.heap[g]? = some (.cells cs t f)) :
  Calls P f args W fun e W'=>∃ v,e=.returned v∧s.post enc P fn false true false false W args v W':=by
 have hread:∀ t,t∈fn.params.toList->P.readableRec t=true∧t<P.types.size:=fun t ht=>by
  have:=List.all_eq_true.1 hok t ht
  simp only[Bool.and_eq_true,decide_eq_true_eq]at this
  exact this.1
 have hsh:∀ t,t∈fn.params.toList->(shT P n t).isSome=true:=fun t ht=>by
  have:=List.all_eq_true.1 hok t ht
  simp only[Bool.and_eq_true,decide_eq_true_eq]at this
  exact this.2
 have hW0:=hW
 obtain⟨p,q,hA,hV,rfl,hfz,hnd⟩:=hW
 rw[hvars]at hV
 obtain⟨rfl,rfl⟩:=trodVars_none hV
 obtain⟨uss,u1,u2⟩:=aMp (fo:=fo) (φ:=fun _=>none) (n:=n) fn.params.toList args.toList ds p hA (fun j t v h1 h2=>hval j t v (by simpa using h1) (by simpa using h2)) hsh
 have hs:HS fo (fun _=>none) (fun g=>g<W.heap.size) W []:=
  ⟨(fun k o hk=>by cases hk),(fun k k' o o' l l' hk=>by cases hk),(fun g ⟨k,o,l,hk,_⟩=>by cases hk),(fun g hg=>hg),(fun _ _=>rfl),fun g cs hg=>by obtain⟨t,f,h⟩:=htab g cs hg;exact⟨(Array.getElem?_eq_some_iff.1 h).1,t,f,h⟩⟩
 have hc:=hC f f _ [] [] _ [] hfo (hlaw uss u1) _ _ W args.toList [] hs u2 ⟨rfl,fun i hi=>absurd hi (by simp[aFi])⟩
 have hname':fn.name ≠ "runtime.NumGoroutine" := by simpa using hname
 obtain⟨body,hb⟩:=Option.isSome_iff_exists.1 hbody
 have hrun:(callFunc f args.toList.toArray).run P W=.ok (.enter f args) W:=by simp[callFunc,hfn,hname',hb]
 unfold Lands at hc
 rw[hrun]at hc
 refine hc.mono fun e W' ⟨v,h1,h2⟩=>⟨v,h1,?_⟩
 obtain⟨φ2,Im2,g,fr,rr,_,_,_⟩:=h2
 have hv:v=.bool true:=rr.p_inv.b_inv
 subst hv
 have hbel:Below W.heap.size W W':=⟨fr.os,fr.tape,fr.output,fr.size,fun k hk=>fr.frame k hk (fun⟨k,o,l,hh,_⟩=>(by cases hh))⟩
 have hdl:ds.length=fn.params.size:=by
  have:∀ (ts:List TypeId) (vs:List Value) (ds:List (DataW H)) (p:List MemPlace),DataW.TrodAll enc P W 0 (fun _=>true) true ts vs ds p->ds.length=ts.length:=by
    intro ts
    induction ts with
    | nil=>
     intro vs ds p h
     match vs,ds,h with
     | [],[],_=>rfl
    | cons t ts ih=>
     intro vs ds p h
     match vs,ds,h with
     | v :: vs,d :: ds,⟨_,_,_,h2,_⟩=>simp[ih vs ds _ h2]
  simpa using this _ _ _ _ hA
 obtain⟨e1,e2,e3⟩:=hspec (ds++[]) (by simpa using hdl)
 refine⟨ds,[],p++[],[],p,[],hW0,?_,?_,?_,hbel.frame _,fun hh=>by cases hh⟩
 ·rw[hres,e1]
  exact trodAll_mk1 (shut_bool htb true)
 ·rw[e2,List.append_nil]
  exact aJy hl hbel _ _ _ _ hA hread
 ·rw[hvars,e3]
  exact rfl
end
end Am
end Go.Proofs.YtkmbhgggpfbffaaGreatDoor
