/- Operations, calls too; regions in their order. -/
import Derived.Test.YtkmbhgggpfbffaaGreatDoorAm19
set_option linter.unusedVariables false
set_option linter.unusedSimpArgs false
set_option linter.constructorNameAsVariable false
namespace Go.Proofs.YtkmbhgggpfbffaaGreatDoor
namespace Am
section
variable {P:Program} {fo:Fo} {vm:FuncId->Nat} {φ:Lay} {Im:Nat->Prop} {w:World} {h:aAR} {a:Act} {av:List Value} {e:Env} {F:Cf} {β:Type} {r:β×St}
theorem Pst.after {φ1:Lay}{Im1:Nat->Prop}{h1:aAR}{k:D->M β}(s:Stp fo φ Im w h φ1 Im1 w h1){v:Value}{w':World}(p:Pst fo φ1 Im1 w h1 e F r k v w'):Pst fo φ Im w h e F r k v w':=by
 obtain⟨d,φ',Im',h',g1,g2,g3⟩:=p
 exact⟨d,φ',Im',h',g1,s.trans g2,g3⟩
theorem aO4 {L:List (Operand×Option TypeId)}{args:Array Operand}(hL:L.map (·.1)=args.toList){ds:List D}(hl:ds.length=L.length)
  (hr:∀ i (hi:i<ds.length) (hi':i<L.length),RepD fo φ Im w ds[i] (a.eval (L[i]).1)):RepDs fo φ Im w ds (args.toList.map a.eval):=by
 rw[<- hL,List.map_map]
 refine⟨by simpa using hl,fun i hi hi'=>?_⟩
 have:=hr i hi (by simpa using hi')
 simpa using this
theorem aN8 (args:Array Operand)(tys:Array TypeId):(aP0 args tys).map (·.1)=args.toList:=by
 apply List.ext_getElem
 ·simp[aP0]
 ·intro i h1 h2
  simp[aP0]
theorem aTm (ms:List Nat)(l:List (Operand×Option TypeId)):(aUb ms l).map (·.1)=l.map (·.1):=by
 apply List.ext_getElem
 ·simp[aUb]
 ·intro i h1 h2
  simp[aUb]
theorem bB5 (hF:aD0 P fo F)(hfo:∀ f,fo (vm f)=some f)(hs:HS fo φ Im w h)(he:ER fo φ Im w a av e){args:Array Operand}{tys:Array TypeId}{nm key v:Nat}{f:FuncId}{xs:List Od}{ms:List Nat}{ms':List Nat}(hx:aRV P vm (aUb ms' (aP0 args tys)) key=some xs)(hv:fo v=some f)(hm:okM ms args.toList.length=true)
  {o:Oper} (ho:o.op=.call { callee:=.value (.func f),args,argTypes:=tys }) {k:D->M β} (hr:(evO nm k (.ca v ms xs)).run F ⟨e,h⟩=some r):Lands P (execOp a.eval o) w (Pst fo φ Im w h e F r k):=by
 obtain⟨ds,φ1,h1,g1,s1,hl,r1⟩:=aJx hfo _ _ _ hx hs he hr
 have hrep:=aO4 ((aTm _ _).trans (aN8 args tys)) hl r1
 obtain⟨ds',Im2,h2,g2,s2,r2⟩:=aLc s1.fr.hs (by rw[hrep.1];simpa using hm) hrep g1
 refine ((aIR hF s2.fr.hs hv r2 g2).mono fun x w' hp=>hp.after (s1.trans s2)).same ?_
 have:(args.toList.map a.eval).toArray=args.map a.eval:=Array.ext' (by simp)
 rw[this]
 simp[execOp,ho,resolve,Act.eval,Deferred.ofValue,invoke]
theorem bGo (hF:aD0 P fo F)(hfo:∀ f,fo (vm f)=some f)(hs:HS fo φ Im w h)(he:ER fo φ Im w a av e){args:Array Operand}{tys:Array TypeId}{nm key x:Nat}{xs:List Od}(hx:aRV P vm (aP0 args tys) key=some xs)(hx1:x<100000){ms:List Nat}(hm:okM ms args.toList.length=true)
  {o:Oper} (ho:o.op=.call { callee:=.value (.tmp x),args,argTypes:=tys }) {k:D->M β} (hr:(evO nm k (.cx (.t x) ms xs)).run F ⟨e,h⟩=some r):Lands P (execOp a.eval o) w (Pst fo φ Im w h e F r k):=by
 obtain⟨d0,φ0,h0,g0,s0,r0⟩:=aAH (P:=P) (ty:=none) (key:=0) hfo hs he (x:=.tmp x) (x':=.t x) (by simp[cOd,hx1]) hr
 obtain⟨ds,φ1,h1,g1,s1,hl,r1⟩:=aJx hfo _ _ _ hx s0.fr.hs (he.stp hs s0) g0
 have hrep:=aO4 (aN8 args tys) hl r1
 obtain⟨ds',Im2,h2,g2,s2,r2⟩:=aLc s1.fr.hs (by rw[hrep.1];simpa using hm) hrep g1
 have r0':=(r0.stp s0.fr.hs s1).stp s1.fr.hs s2
 have happ:∀ (cs:List D) (vs:List Value),RepDs fo φ1 Im2 w cs vs->RepDs fo φ1 (fun g=>Im2 g∨Bl φ1 h2 (Rch h2 (D.refsL (aL3 ms ds))) g) w (ds'++cs) (args.toList.map a.eval++vs):=by
  intro cs vs hc
  refine⟨by simp[r2.1,hc.1],fun i hi hi'=>?_⟩
  by_cases hlt:i<ds'.length
  ·rw[List.getElem_append_left hlt,List.getElem_append_left (by rw[<- r2.1];exact hlt)]
   exact r2.2 i hlt _
  ·have hq:∀ (n:Nat),n=ds'.length->∀ (hi2:i-n<cs.length) (hi3:i-n<vs.length),RepD fo φ1 (fun g=>Im2 g∨Bl φ1 h2 (Rch h2 (D.refsL (aL3 ms ds))) g) w cs[i-n] vs[i-n]:=fun n _ hi2 hi3=>(hc.2 _ hi2 hi3).mono (fun _ _ h=>h) (fun _ h=>.inl h) (fun _ _=>rfl)
   have h3:i-ds'.length<vs.length:=by rw[<- hc.1];simp at hi;omega
   have e1:(ds'++cs)[i]=cs[i-ds'.length]'(by simp at hi;omega):=List.getElem_append_right (by omega)
   have e2:(args.toList.map a.eval++vs)[i]=vs[i-ds'.length]:=by
    rw[List.getElem_append_right (by rw[<- r2.1];omega)]
    congr 1
    rw[r2.1]
   rw[e1,e2]
   exact hq _ rfl _ _
 have run:∀ (f:FuncId) (vs:List Value),a.eval (.tmp x)=.func (.func f) #[] vs.toArray->(execOp a.eval o).run P w=(callFunc f (args.toList.map a.eval++vs).toArray).run P w:=by
  intro f vs hv
  have:(args.toList.map a.eval++vs).toArray=args.map a.eval++vs.toArray:=Array.ext' (by simp)
  rw[this]
  simp[execOp,ho,resolve,hv,Deferred.ofValue,invoke]
 generalize hvx:a.eval (.tmp x)=vx at r0'
 unfold cxO at g2
 split at g2
 ·rename_i v caps
  cases r0'.p_inv with
  | fn _ f _ vs hf hl' hr'=>
   exact ((aIR hF s2.fr.hs hf (happ (caps.map .p) vs ⟨by simpa using hl',fun i hi hi'=>by simp only[List.getElem_map];exact .p _ _ (hr' i (by simpa using hi) hi')⟩) g2).mono fun x w' hp=>hp.after ((s0.trans s1).trans s2)).same (run f vs hvx)
 ·rename_i v caps
  cases r0' with
  | fn _ f _ vs hf hl' hr'=>
   exact ((aIR hF s2.fr.hs hf (happ caps vs ⟨hl',hr'⟩) g2).mono fun x w' hp=>hp.after ((s0.trans s1).trans s2)).same (run f vs hvx)
 ·cases g2
theorem aUD (hF:aD0 P fo F){vmode:Nat->List Nat}{hint:Option (Nat×List Nat)}(hfo:∀ f,fo (vm f)=some f)(hs:HS fo φ Im w h)(he:ER fo φ Im w a av e){o:Oper}{op:O}{nm:Nat}(hc:cOp P vm vmode fo hint nm o=some op){k:D->M β}
  (hr:(evO nm k op).run F ⟨e,h⟩=some r):Lands P (execOp a.eval o) w (Pst fo φ Im w h e F r k):=by
 by_cases hn1:∃ f args tys,o.op=.call { callee:=.value (.func f),args,argTypes:=tys }
 ·obtain⟨f,args,tys,ho⟩:=hn1
  unfold cOp at hc
  simp only[ho]at hc
  split at hc
  · rename_i hv
    obtain⟨xs,hx,rfl⟩:=Option.map_eq_some_iff.1 hc
    exact bB5 hF hfo hs he hx hv.1 hv.2 ho hr
  · cases hc
 ·by_cases hn2:∃ x args tys,o.op=.call { callee:=.value (.tmp x),args,argTypes:=tys }
  · obtain⟨x,args,tys,ho⟩:=hn2
    unfold cOp at hc
    simp only[ho]at hc
    split at hc
    ·rename_i hv
     obtain⟨xs,hx,rfl⟩:=Option.map_eq_some_iff.1 hc
     exact bGo hF hfo hs he hx hv.1 hv.2 ho hr
    ·cases hc
  · exact (aUj hfo hs he hc ⟨fun f args tys hh=>hn1 ⟨f,args,tys,hh⟩,fun x args tys hh=>hn2 ⟨x,args,tys,hh⟩⟩ hr).lands
theorem bEM {P:Program}{vm:FuncId->Nat}{vmode:Nat->List Nat}{fo:Nat->Option FuncId}{hint:Option (Nat×List Nat)}{nm:Nat}{o:Oper}{op:O}(hc:bJe P vm vmode fo hint nm o=some op):cOp P vm vmode fo hint nm o=some op∨op=bLN:=by
 unfold bJe at hc
 split at hc
 ·rename_i x hx
  injection hc with hc;subst hc
  exact .inl hx
 ·injection hc with hc;exact .inr hc.symm
theorem bCA {nm:Nat}{k:D->M β}{s:St}:(evO nm k bLN).run F s=none:=rfl
theorem aRr (hF:aD0 P fo F){vmode:Nat->List Nat}{hint:Option (Nat×List Nat)}(hfo:∀ f,fo (vm f)=some f)(hs:HS fo φ Im w h)(he:ER fo φ Im w a av e){o:Oper}{op:O}{nm:Nat}(hc:bJe P vm vmode fo hint nm o=some op){k:D->M β}
  (hr:(evO nm k op).run F ⟨e,h⟩=some r):Lands P (execOp a.eval o) w (Pst fo φ Im w h e F r k):=by
 rcases bEM hc with hc | rfl
 ·exact aUD hF hfo hs he hc hr
 ·rw[bCA]at hr;cases hr
end
end Am
end Go.Proofs.YtkmbhgggpfbffaaGreatDoor
