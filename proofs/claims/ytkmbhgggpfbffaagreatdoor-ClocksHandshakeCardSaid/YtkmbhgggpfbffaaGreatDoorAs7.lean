/- A law's arguments as typed data, and its row. -/
import Derived.Test.YtkmbhgggpfbffaaGreatDoorAs6
import Derived.Test.YtkmbhgggpfbffaaGreatDoorAm30
set_option linter.unusedVariables false
set_option linter.unusedSimpArgs false
set_option linter.constructorNameAsVariable false
namespace Go.Proofs.YtkmbhgggpfbffaaGreatDoor
namespace Am
mutual
def Sh.ok:(s:Sh)->s.den->Prop
 | .i k,n=>(Lit.int k n).wf=true
 | .b,_=>True
 | .s,x=>ByteArray.size x<=maxLen
 | .sl es,xs=>List.length (α:=aJH es) xs<=maxLen∧∀ x,List.Mem (α:=aJH es) x xs->okL es x
def okL:(es:List Sh)->aJH es->Prop
 | [],_=>True
 | [s],x=>s.ok x
 | s :: t :: q,x=>s.ok x.1∧okL (t :: q) x.2
end
theorem aOl {es:List Sh}(h:∀ us,FitsL es us->∃ x,us=aKa es x∧okL es x):∀ xs:List (List V),(∀ x,x∈xs->FitsL es x)->∃ ys:List (aJH es),xs=ys.map (aKa es)∧∀ y,y∈ys->okL es y
 | [],_=>⟨[],rfl,fun y hy=>by cases hy⟩
 | u :: r,hf=>by
  obtain⟨x,h1,h2⟩:=h u (hf u (by simp))
  obtain⟨ys,h3,h4⟩:=aOl h r fun x hx=>hf x (by simp[hx])
  refine⟨x :: ys,by rw[List.map_cons,h1,h3],fun y hy=>?_⟩
  rcases List.mem_cons.1 hy with rfl | hy
  ·exact h2
  ·exact h4 y hy
mutual
theorem Sh.fits:∀ (s:Sh) (u:V),bCq s u->∃ x:s.den,u=s.enc x∧s.ok x
 | .i k,u,h=>by
  cases u <;> simp only[bCq]at h
  obtain⟨rfl,h⟩:=h
  exact⟨_,rfl,h⟩
 | .b,u,h=>by
  cases u <;> simp only[bCq]at h
  exact⟨_,rfl,trivial⟩
 | .s,u,h=>by
  cases u <;> simp only[bCq]at h
  exact⟨_,rfl,h⟩
 | .sl es,u,h=>by
  cases u <;> simp only[bCq]at h
  rename_i sz xs
  obtain⟨rfl,h1,h2⟩:=h
  obtain⟨ys,h3,h4⟩:=aOl (bFp es) xs h2
  refine⟨ys,?_,?_⟩
  ·rw[h3];rfl
  ·refine⟨?_,fun x hx=>h4 x hx⟩
   rw[h3,List.length_map]at h1;exact h1
theorem bFp:∀ (es:List Sh) (us:List V),FitsL es us->∃ x:aJH es,us=aKa es x∧okL es x
 | [],us,h=>by
  cases us with
  | nil=>exact⟨(),rfl,trivial⟩
  | cons _ _=>exact h.elim
 | [s],us,h=>by
  match us,h with
  | [u],h=>
   obtain⟨x,h1,h2⟩:=Sh.fits s u h.1
   exact⟨x,by rw[h1];rfl,h2⟩
  | [],h=>exact h.elim
  | _ :: _ :: _,h=>exact h.2.elim
 | s :: t :: q,us,h=>by
  match us,h with
  | u :: r,h=>
   obtain⟨x,h1,h2⟩:=Sh.fits s u h.1
   obtain⟨y,h3,h4⟩:=bFp (t :: q) r h.2
   refine⟨(x,y),?_,h2,h4⟩
   rw[h1,h3];rfl
  | [],h=>exact h.elim
end
theorem bHx {P:Program}{t:TypeId}{ss:List Sh}{us:List V}(hs:shT P 20 t=some ss)(h:∃ ss,shT P 20 t=some ss∧FitsL ss us):∃ x:aJH ss,us=aKa ss x∧okL ss x:=by
 obtain⟨ss',h1,h2⟩:=h
 rw[hs]at h1;injection h1 with h1;subst h1
 exact bFp _ _ h2
theorem bK8 {P:Program}{t:TypeId}{u:V}(h:aK4 P t=false):aX0 P t [u]=.p u:=by
 unfold aX0;rw[h];rfl
theorem aXO {P:Program}{t:TypeId}{us:List V}(h:aK4 P t=true):aX0 P t us=.agg (us.map .p):=by
 unfold aX0;rw[if_pos h]
theorem bCw {FS:CfS (List Nat×List DS×aBq)}{T:Tab}(hF:FOK FS (aAo T)){v:Nat}{ds:List DS}(h:FS v ds [] (fun a b c=>some (a,b,c))=some ([],[.p (.b true)],[])) :
  aAo T v (DS.encs ds) []=some ([],[.p (.b true)],[]):=by
 obtain⟨roots,res,h',h1,h2⟩:=hF v ds [] _ _ h
 injection h2 with h2
 injection h2 with e1 e2
 injection e2 with e2 e3
 subst e1 e2 e3
 exact h1
end Am
end Go.Proofs.YtkmbhgggpfbffaaGreatDoor
