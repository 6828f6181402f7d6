/- Operations that only look, one by one. -/
import Derived.Test.YtkmbhgggpfbffaaGreatDoorAm7
import Derived.Laws.StructEq
set_option linter.unusedVariables false
set_option linter.unusedSimpArgs false
set_option linter.constructorNameAsVariable false
namespace Go.Proofs.YtkmbhgggpfbffaaGreatDoor
namespace Am
section
variable (P:Program) (fo:Fo) (φ:Lay) (Im:Nat->Prop) (w:World) (h:aAR) (e:Env) (F:Cf) {β:Type} (r:β×St)
def Good (X:Sem Next)(k:D->M β):Prop:=
 ∃ d φ' Im' w' h' v,(k d).run F ⟨e,h'⟩=some r∧Stp fo φ Im w h φ' Im' w' h'∧RepD fo φ' Im' w' d v∧(X.run P w=.ok (.value v) w'∨(X.run P w=.ok .skip w'∧v=undef))
def Gives (X:Sem Value)(k:D->M β):Prop:=∃ d φ' h' v,(k d).run F ⟨e,h'⟩=some r∧Stp fo φ Im w h φ' Im w h'∧RepD fo φ' Im w d v∧X.run P w=.ok v w
end
section
variable {P:Program} {fo:Fo} {vm:FuncId->Nat} {φ:Lay} {Im:Nat->Prop} {w:World} {h:aAR} {a:Act} {av:List Value} {e:Env} {F:Cf} {β:Type} {r:β×St}
theorem Gives.good {X:Sem Value}{Y:Sem Next}{k:D->M β}(hY:Y.run P w=(X.run P w).andThen fun v w'=>.ok (.value v) w')(g:Gives P fo φ Im w h e F r X k):Good P fo φ Im w h e F r Y k:=by
 obtain⟨d,φ',h',v,h1,h2,h3,h4⟩:=g
 exact⟨d,φ',Im,w,h',v,h1,h2,h3,.inl (by rw[hY,h4];rfl)⟩
theorem Gives.after {φ1:Lay}{h1:aAR}{X:Sem Value}{k:D->M β}(s:Stp fo φ Im w h φ1 Im w h1)(g:Gives P fo φ1 Im w h1 e F r X k):Gives P fo φ Im w h e F r X k:=by
 obtain⟨d,φ',h',v,g1,g2,g3,g4⟩:=g
 exact⟨d,φ',h',v,g1,s.trans g2,g3,g4⟩
theorem Gives.here (hs:HS fo φ Im w h){X:Sem Value}{k:D->M β}{d:D}{v:Value}(hr:(k d).run F ⟨e,h⟩=some r)(hd:RepD fo φ Im w d v)(hX:X.run P w=.ok v w):Gives P fo φ Im w h e F r X k:=
 ⟨d,φ,h,v,hr,.refl hs,hd,hX⟩
theorem RepD.p_inv {u:V}{v:Value}(hd:RepD fo φ Im w (.p u) v):RepV fo Im w u v:=by cases hd;assumption
theorem RepV.i_inv {kd:IntKind}{n:Int}{v:Value}(hd:RepV fo Im w (.i kd n) v):v=.int kd n:=by cases hd;rfl
theorem RepV.b_inv {t:Bool}{v:Value}(hd:RepV fo Im w (.b t) v):v=.bool t:=by cases hd;rfl
theorem RepV.s_inv {s:ByteArray}{v:Value}(hd:RepV fo Im w (.s s) v):v=.string s:=by cases hd;rfl
theorem aX7 {k:IntKind->Int->M β}{d:D}{s:St}(hr:(asI k d).run F s=some r):∃ kd n,d=.p (.i kd n)∧(k kd n).run F s=some r:=by
 unfold asI at hr;split at hr
 ·exact⟨_,_,rfl,hr⟩
 ·cases hr
theorem aXS {k:Bool->M β}{d:D}{s:St}(hr:(asB k d).run F s=some r):∃ t,d=.p (.b t)∧(k t).run F s=some r:=by
 unfold asB at hr;split at hr
 ·exact⟨_,rfl,hr⟩
 ·cases hr
theorem aNa {k:V->M β}{d:D}{s:St}(hr:(asP k d).run F s=some r):∃ u,d=.p u∧(k u).run F s=some r:=by
 unfold asP at hr;split at hr
 ·exact⟨_,rfl,hr⟩
 ·cases hr
theorem aKE {k:List D->M β}{d:D}{s:St}(hr:(asG k d).run F s=some r):∃ xs,d=.agg xs∧(k xs).run F s=some r:=by
 unfold asG at hr;split at hr
 ·exact⟨_,rfl,hr⟩
 ·cases hr
theorem vlI (hfo:∀ f,fo (vm f)=some f)(hs:HS fo φ Im w h)(he:ER fo φ Im w a av e){ty:Option TypeId}{key:Nat}{x:Operand}{x':Od}(hc:cOd P vm ty key x=some x'){k:IntKind->Int->M β}
  (hr:(vl x' (asI k)).run F ⟨e,h⟩=some r):∃ kd n φ' h',(k kd n).run F ⟨e,h'⟩=some r∧Stp fo φ Im w h φ' Im w h'∧a.eval x=.int kd n:=by
 obtain⟨d,φ',h',h1,h2,h3⟩:=aAH hfo hs he hc hr
 obtain⟨kd,n,rfl,h4⟩:=aX7 h1
 exact⟨kd,n,φ',h',h4,h2,h3.p_inv.i_inv⟩
theorem vlB (hfo:∀ f,fo (vm f)=some f)(hs:HS fo φ Im w h)(he:ER fo φ Im w a av e){ty:Option TypeId}{key:Nat}{x:Operand}{x':Od}(hc:cOd P vm ty key x=some x'){k:Bool->M β}
  (hr:(vl x' (asB k)).run F ⟨e,h⟩=some r):∃ t φ' h',(k t).run F ⟨e,h'⟩=some r∧Stp fo φ Im w h φ' Im w h'∧a.eval x=.bool t:=by
 obtain⟨d,φ',h',h1,h2,h3⟩:=aAH hfo hs he hc hr
 obtain⟨t,rfl,h4⟩:=aXS h1
 exact⟨t,φ',h',h4,h2,h3.p_inv.b_inv⟩
theorem aM4 (x y:ByteArray):(x.toList == y.toList)=decide (x=y):=by
 rw[Go.ByteArray.toList_eq,Go.ByteArray.toList_eq]
 obtain⟨⟨x⟩⟩:=x
 obtain⟨⟨y⟩⟩:=y
 by_cases h:x=y
 ·subst h;simp
 ·have h2:¬(ByteArray.mk ⟨x⟩=ByteArray.mk ⟨y⟩):=fun hh=>h (by injection hh with hh;injection hh)
  simp[h,h2]
theorem aXN {op:BinOp}{t:TypeId}{X Y:Operand}{u v z:V}{x y:Value}(hx:RepV fo Im w u x)(hy:RepV fo Im w v y)(hz:bGA op u v=some z) :
  ∃ zv,((do eqGuard op t X Y x y;binOp op t x y:Sem Value)).run P w=.ok zv w∧RepV fo Im w z zv:=by
 unfold bGA at hz
 split at hz
 ·rename_i k1 n1 k2 n2
  have ex:=hx.i_inv
  have ey:=hy.i_inv
  subst ex ey
  have hg:(eqGuard op t X Y (.int k1 n1) (.int k2 n2))=pure ():=by cases op <;> rfl
  rw[hg]
  simp only[Sem.run_bind,Sem.run_pure,Result.andThen_ok]
  split at hz
  ·rename_i hsh
   cases op <;> simp[aMQ]at hsh
   ·simp only[aLK]at hz
    split at hz
    ·cases hz
    ·injection hz with hz;subst hz
     rename_i hn
     refine⟨_,?_,.i _ _⟩
     rw[binOp_shl]
     simp[Op.shift,hn]
   ·simp only[aLK]at hz
    split at hz
    ·cases hz
    ·injection hz with hz;subst hz
     rename_i hn
     refine⟨_,?_,.i _ _⟩
     rw[binOp_shr]
     simp[Op.shift,hn]
  ·rename_i hsh
   split at hz
   ·rename_i hk
    subst hk
    cases op <;> simp only[intOp]at hz <;> first
     | (injection hz with hz;subst hz;first
         | exact⟨_,by rw[binOp_add];rfl,.i _ _⟩
         | exact⟨_,by rw[binOp_sub];rfl,.i _ _⟩
         | exact⟨_,by rw[binOp_mul];rfl,.i _ _⟩
         | exact⟨_,by rw[binOp_and];rfl,.i _ _⟩
         | exact⟨_,by rw[binOp_or];rfl,.i _ _⟩
         | exact⟨_,by rw[binOp_xor];rfl,.i _ _⟩
         | exact⟨_,by rw[binOp_andNot];rfl,.i _ _⟩
         | exact⟨.bool _,by rw[binOp_eql];rfl,by rw[show (n1 == n2)=decide (n1=n2)from by simp[BEq.beq]];exact .b _⟩
         | exact⟨.bool _,by rw[binOp_neq];rfl,by rw[show (n1 != n2)=decide (n1≠n2)from by simp[bne,BEq.beq]];exact .b _⟩
         | exact⟨_,by rw[binOp_lss];rfl,.b _⟩
         | exact⟨_,by rw[binOp_leq];rfl,.b _⟩
         | exact⟨_,by rw[binOp_gtr];rfl,.b _⟩
         | exact⟨_,by rw[binOp_geq];rfl,.b _⟩)
     | (split at hz
        · cases hz
        · rename_i hn
          injection hz with hz;subst hz
          first
           | exact⟨_,by rw[binOp_quo];simp[Op.intDiv,hn],.i _ _⟩
           | exact⟨_,by rw[binOp_rem];simp[Op.intDiv,hn],.i _ _⟩)
     | cases hz
   ·cases hz
 ·rename_i s1 s2
  have ex:=hx.s_inv
  have ey:=hy.s_inv
  subst ex ey
  have hg:(eqGuard op t X Y (.string s1) (.string s2))=pure ():=by cases op <;> rfl
  rw[hg]
  simp only[Sem.run_bind,Sem.run_pure,Result.andThen_ok]
  have hb:binOp op t (.string s1) (.string s2)=Op.stringOp op s1 s2:=by cases op <;> rfl
  rw[hb]
  split at hz
  ·injection hz with hz;subst hz;exact⟨.bool (decide (s1=s2)),by simp[Op.stringOp,aM4],.b _⟩
  ·injection hz with hz;subst hz;exact⟨.bool (decide (s1≠s2)),by simp[Op.stringOp,aM4],.b _⟩
  ·split at hz
   ·cases hz
   ·rename_i hn
    injection hz with hz;subst hz
    refine⟨_,?_,.s _⟩
    have:¬(IntKind.i64.max<((s1.size+s2.size:Nat):Int)):=by
     have:IntKind.i64.max=9223372036854775807:=by decide
     omega
    simp[Op.stringOp]
    omega
  ·cases hz
 ·cases hz
theorem bBG (hfo:∀ f,fo (vm f)=some f)(hs:HS fo φ Im w h)(he:ER fo φ Im w a av e){ty:Option TypeId}{key nm:Nat}{x:Operand}{x':Od}(hc:cOd P vm ty key x=some x'){k:D->M β}
  (hr:(evO nm k (.mv x')).run F ⟨e,h⟩=some r):Gives P fo φ Im w h e F r (pure (a.eval x)) k:=by
 obtain⟨d,φ',h',h1,h2,h3⟩:=aAH hfo hs he hc hr
 exact⟨d,φ',h',_,h1,h2,h3,rfl⟩
theorem aPT {t:TypeId}{x:Operand}{x':Od}(hx:aPu P t x=some x'):x=.const (.slice none 0 0)∧∃ sz,x'=.c (.sl sz []):=by
 unfold aPu at hx
 split at hx
 ·split at hx
  ·injection hx with hx;exact⟨rfl,_,hx.symm⟩
  ·cases hx
 ·cases hx
theorem bCB (sz:Nat)(hs:HS fo φ Im w h){nm:Nat}{k:D->M β}
  (hr:(evO nm k (.mv (.c (.sl sz [])))).run F ⟨e,h⟩=some r):Gives P fo φ Im w h e F r (pure (a.eval (.const (.slice none 0 0)))) k:=by
 refine⟨.p (.sl sz []),φ,h,_,hr,.refl hs,.p _ _ ?_,rfl⟩
 exact .sl sz [] none 0 0 (fun _ _=>default) rfl (Nat.le_refl _) (fun i hi=>absurd hi (by simp)) (fun hn=>absurd rfl hn) (fun i j hi=>absurd hi (by simp))
theorem aTN (hfo:∀ f,fo (vm f)=some f)(hs:HS fo φ Im w h)(he:ER fo φ Im w a av e){ty ty':Option TypeId}{key key' nm:Nat}{x y:Operand}{x' y':Od}(hx:cOd P vm ty key x=some x')(hy:cOd P vm ty' key' y=some y'){op:BinOp}{t:TypeId}{k:D->M β}
  (hr:(evO nm k (.bi op x' y')).run F ⟨e,h⟩=some r):Gives P fo φ Im w h e F r (do eqGuard op t x y (a.eval x) (a.eval y);binOp op t (a.eval x) (a.eval y)) k:=by
 obtain⟨d,φ1,h1,g1,s1,r1⟩:=aAH hfo hs he hx hr
 obtain⟨u,rfl,g2⟩:=aNa g1
 obtain⟨d2,φ2,h2,g3,s2,r2⟩:=aAH hfo s1.fr.hs (he.stp hs s1) hy g2
 obtain⟨v,rfl,g4⟩:=aNa g3
 obtain⟨z,hz,g5⟩:=aBO g4
 obtain⟨zv,h5,h6⟩:=aXN (P:=P) (t:=t) (X:=x) (Y:=y) (r1.p_inv) (r2.p_inv) hz
 exact⟨_,φ2,h2,zv,g5,s1.trans s2,.p _ _ h6,h5⟩
theorem aV5 (hfo:∀ f,fo (vm f)=some f)(hs:HS fo φ Im w h)(he:ER fo φ Im w a av e){ty ty':Option TypeId}{key key' nm:Nat}{x y:Operand}{x' y':Od}(hx:cOd P vm ty key x=some x')(hy:cOd P vm ty' key' y=some y'){ne:Bool}{t:TypeId}(ht:P.underlying t=some .bool){k:D->M β}
  (hr:(evO nm k (.bb ne x' y')).run F ⟨e,h⟩=some r):Gives P fo φ Im w h e F r (do eqGuard (if ne then .neq else .eql) t x y (a.eval x) (a.eval y);binOp (if ne then .neq else .eql) t (a.eval x) (a.eval y)) k:=by
 obtain⟨u,φ1,h1,g1,s1,e1⟩:=vlB hfo hs he hx hr
 obtain⟨v,φ2,h2,g2,s2,e2⟩:=vlB hfo s1.fr.hs (he.stp hs s1) hy g1
 rw[e1,e2]
 refine⟨_,φ2,h2,.bool (if ne then u != v else u == v),g2,s1.trans s2,.p _ _ (.b _),?_⟩
 cases ne
 ·have hg:(eqGuard .eql t x y (.bool u) (.bool v))=pure ():=rfl
  simp only[Bool.false_eq_true,if_false,hg,Sem.run_bind,Sem.run_pure,Result.andThen_ok]
  have:binOp .eql t (.bool u) (.bool v)=(do pure (.bool (<- Op.equal t (.bool u) (.bool v)))):=rfl
  rw[this]
  simp[run_equal_bool w t u v ht]
 ·have hg:(eqGuard .neq t x y (.bool u) (.bool v))=pure ():=rfl
  simp only[if_true,hg,Sem.run_bind,Sem.run_pure,Result.andThen_ok]
  have:binOp .neq t (.bool u) (.bool v)=(do pure (.bool (!(<- Op.equal t (.bool u) (.bool v))))):=rfl
  rw[this]
  simp[run_equal_bool w t u v ht,bne]
theorem bE6 (hfo:∀ f,fo (vm f)=some f)(hs:HS fo φ Im w h)(he:ER fo φ Im w a av e){t1 t2 t3:Option TypeId}{k1 k2 k3 nm:Nat}{c x y:Operand}{c' x' y':Od}(hc:cOd P vm t1 k1 c=some c')(hx:cOd P vm t2 k2 x=some x')(hy:cOd P vm t3 k3 y=some y'){k:D->M β}
  (hr:(evO nm k (.pk c' x' y')).run F ⟨e,h⟩=some r):Gives P fo φ Im w h e F r (do pure (if <- asBool (a.eval c)then a.eval x else a.eval y)) k:=by
 obtain⟨t,φ1,h1,g1,s1,e1⟩:=vlB hfo hs he hc hr
 rw[e1]
 cases t
 ·obtain⟨d,φ2,h2,g2,s2,r2⟩:=aAH hfo s1.fr.hs (he.stp hs s1) hy g1
  exact⟨d,φ2,h2,_,g2,s1.trans s2,r2,by simp[asBool]⟩
 ·obtain⟨d,φ2,h2,g2,s2,r2⟩:=aAH hfo s1.fr.hs (he.stp hs s1) hx g1
  exact⟨d,φ2,h2,_,g2,s1.trans s2,r2,by simp[asBool]⟩
theorem bDm (hfo:∀ f,fo (vm f)=some f)(hs:HS fo φ Im w h)(he:ER fo φ Im w a av e){t1:Option TypeId}{k1 nm:Nat}{x:Operand}{x':Od}(hx:cOd P vm t1 k1 x=some x'){op:UnOp}{k:D->M β}
  (hr:(evO nm k (.un op x')).run F ⟨e,h⟩=some r):Gives P fo φ Im w h e F r (Op.unary op (a.eval x)) k:=by
 obtain⟨d,φ1,h1,g1,s1,r1⟩:=aAH hfo hs he hx hr
 unfold unO at g1
 split at g1
 ·rename_i kd n
  have:=r1.p_inv.i_inv
  rw[this]
  exact⟨_,φ1,h1,.int kd (kd.wrap (0-n)),g1,s1,.p _ _ (.i _ _),by simp[Op.unary,Op.intArith]⟩
 ·rename_i t
  have:=r1.p_inv.b_inv
  rw[this]
  exact⟨_,φ1,h1,.bool (!t),g1,s1,.p _ _ (.b _),by simp[Op.unary]⟩
 ·rename_i kd n
  have:=r1.p_inv.i_inv
  rw[this]
  exact⟨_,φ1,h1,_,g1,s1,.p _ _ (.i _ _),by simp only[Op.unary,Op.intBits];rfl⟩
 ·cases g1
theorem bEo (hfo:∀ f,fo (vm f)=some f)(hs:HS fo φ Im w h)(he:ER fo φ Im w a av e){t1:Option TypeId}{k1 nm:Nat}{x:Operand}{x':Od}(hx:cOd P vm t1 k1 x=some x'){src dst:TypeId}{ks kd:IntKind}(hs1:P.underlying src=some (.int ks))(hd1:P.underlying dst=some (.int kd)){k:D->M β}
  (hr:(evO nm k (.ci kd x')).run F ⟨e,h⟩=some r):Gives P fo φ Im w h e F r (convert src dst (a.eval x)) k:=by
 obtain⟨kx,n,φ1,h1,g1,s1,e1⟩:=vlI hfo hs he hx hr
 rw[e1]
 exact⟨_,φ1,h1,.int kd (kd.wrap n),g1,s1,.p _ _ (.i _ _),by simp[convert,run_underlying hs1,run_underlying hd1,Conv.intToInt]⟩
theorem aJx (hfo:∀ f,fo (vm f)=some f):∀ (xs:List (Operand×Option TypeId)) (key:Nat) (xs':List Od),aRV P vm xs key=some xs'->∀ {φ:Lay} {h:aAR} {k:List D->M β},HS fo φ Im w h->ER fo φ Im w a av e->(vls xs' k).run F ⟨e,h⟩=some r ->
  ∃ ds φ' h',(k ds).run F ⟨e,h'⟩=some r∧Stp fo φ Im w h φ' Im w h'∧ds.length=xs.length∧∀ i (hi:i<ds.length) (hi':i<xs.length),RepD fo φ' Im w ds[i] (a.eval xs[i].1):=by
 intro xs
 induction xs with
 | nil=>
  intro key xs' hc φ h k hs he hr
  injection hc with hc
  subst hc
  exact⟨[],φ,h,hr,.refl hs,rfl,fun i hi=>absurd hi (by simp)⟩
 | cons x xs ih=>
  intro key xs' hc φ h k hs he hr
  obtain⟨x,ty⟩:=x
  simp only[aRV,Option.bind_eq_some_iff,Option.map_eq_some_iff]at hc
  obtain⟨y,h1,ys,h2,rfl⟩:=hc
  obtain⟨d,φ1,h1',g1,s1,r1⟩:=aAH hfo hs he h1 hr
  obtain⟨ds,φ2,h2',g2,s2,hl,r2⟩:=ih _ _ h2 s1.fr.hs (he.stp hs s1) g1
  refine⟨d :: ds,φ2,h2',g2,s1.trans s2,by simp[hl],fun i hi hi'=>?_⟩
  cases i with
  | zero=>exact r1.stp s1.fr.hs s2
  | succ i=>exact r2 i (by simpa using hi) (by simpa using hi')
theorem bJg (mx:Bool)(kd:IntKind):∀ (ds:List D) (vs:List Value) (x n:Int),(hl:ds.length=vs.length)->(∀ i (hi:i<ds.length) (hi':i<vs.length),RepD fo φ Im w ds[i] vs[i])->mmI kd mx x ds=some n ->
  (vs.foldlM (if mx then Builtin.max2 else Builtin.min2) (Value.int kd x)).run P w=.ok (.int kd n) w:=by
 intro ds
 induction ds with
 | nil=>
  intro vs x n hl hr hm
  have:vs=[]:=by cases vs with | nil=>rfl | cons _ _=>simp at hl
  subst this
  injection hm with hm
  subst hm
  rfl
 | cons d ds ih=>
  intro vs x n hl hr hm
  cases vs with
  | nil=>simp at hl
  | cons v vs=>
    cases d with
    | p u=>
     cases u with
     | i kd' b=>
      simp only[mmI]at hm
      split at hm
      ·rename_i hk
       subst hk
       have h0:=hr 0 (by simp) (by simp)
       have:=RepV.i_inv (RepD.p_inv h0)
       simp only[List.getElem_cons_zero]at this
       subst this
       have:=ih vs _ n (by simpa using hl) (fun i hi hi'=>hr (i+1) (by simpa using hi) (by simpa using hi')) hm
       simp only[List.foldlM_cons,Sem.run_bind]
       cases mx
       ·simp only[Bool.false_eq_true,if_false,Builtin.min2,Sem.run_pure,Result.andThen_ok]at this ⊢
        rw[show (if b<x then b else x)=min x b from by omega]
        exact this
       ·simp only[if_true,Builtin.max2,Sem.run_pure,Result.andThen_ok]at this ⊢
        rw[show (if b>x then b else x)=max x b from by omega]
        exact this
      ·cases hm
     | _=>cases hm
    | _=>cases hm
theorem bBQ (hfo:∀ f,fo (vm f)=some f)(hs:HS fo φ Im w h)(he:ER fo φ Im w a av e){t1:Option TypeId}{k1 nm:Nat}{x:Operand}{x':Od}(hx:cOd P vm t1 k1 x=some x'){i:Nat}{k:D->M β}
  (hr:(evO nm k (.ex x' i)).run F ⟨e,h⟩=some r):Gives P fo φ Im w h e F r (Instr.extract (a.eval x) i) k:=by
 obtain⟨d,φ1,h1,g1,s1,r1⟩:=aAH hfo hs he hx hr
 unfold exT at g1
 split at g1
 ·rename_i ds
  obtain⟨d,hd,g2⟩:=aBO g1
  obtain⟨hi,hd⟩:=List.getElem?_eq_some_iff.1 hd
  generalize hv:a.eval x=v at r1
  cases r1 with
  | tup _ vs hl hr'=>
    have hi':i<vs.length:=by omega
    have h2:=hr' i hi hi'
    rw[hd]at h2
    exact⟨d,φ1,h1,vs[i],g2,s1,h2,by simp[Instr.extract,List.getElem?_eq_getElem hi']⟩
 ·cases g1
theorem bDX (hfo:∀ f,fo (vm f)=some f)(hs:HS fo φ Im w h)(he:ER fo φ Im w a av e){t1:Option TypeId}{k1 nm:Nat}{x:Operand}{x':Od}(hx:cOd P vm t1 k1 x=some x'){o:Oper}(ho:o.op=.nilCheck x){k:D->M β}
  (hr:(evO nm k (.nc x')).run F ⟨e,h⟩=some r):Good P fo φ Im w h e F r (execOp a.eval o) k:=by
 obtain⟨d,φ1,h1,g1,s1,r1⟩:=aAH hfo hs he hx hr
 have key:∀ d,(k d).run F ⟨e,h1⟩=some r->RepD fo φ1 Im w d (a.eval x)->(execOp a.eval o).run P w=.ok (.value (a.eval x)) w->Good P fo φ Im w h e F r (execOp a.eval o) k:=
  fun d g hd hX=>⟨d,φ1,Im,w,h1,_,g,s1,hd,.inl hX⟩
 unfold ncO at g1
 split at g1
 ·refine key _ g1 r1 ?_
  generalize hv:a.eval x=v at r1
  cases r1.p_inv;simp only[execOp,ho,hv];rfl
 ·refine key _ g1 r1 ?_
  generalize hv:a.eval x=v at r1
  cases r1.p_inv;simp only[execOp,ho,hv];rfl
 ·refine key _ g1 r1 ?_
  generalize hv:a.eval x=v at r1
  cases r1.p_inv <;> simp only[execOp,ho,hv] <;> rfl
 ·refine key _ g1 r1 ?_
  generalize hv:a.eval x=v at r1
  cases r1;simp only[execOp,ho,hv];rfl
 ·refine key _ g1 r1 ?_
  generalize hv:a.eval x=v at r1
  cases r1;simp only[execOp,ho,hv];rfl
 ·refine key _ g1 r1 ?_
  generalize hv:a.eval x=v at r1
  cases r1;simp only[execOp,ho,hv];rfl
 ·refine key _ g1 r1 ?_
  generalize hv:a.eval x=v at r1
  cases r1 <;> simp only[execOp,ho,hv] <;> rfl
 ·cases g1
theorem aHc (g o j:Nat):(⟨g,o,none⟩:Addr).add j=⟨g,o+j,none⟩:=by
 unfold Addr.add;split <;> simp_all
theorem aLQ {φ1:Lay}{h1:aAR}(hs:HS fo φ1 Im w h1){off:Nat}{d:D}{v:Value}(hd:RepD fo φ1 Im w d v){k:D->M β}(hr:(aOv off k d).run F ⟨e,h1⟩=some r) :
  ∃ d' g o,(k d').run F ⟨e,h1⟩=some r∧v=.pointer (some ⟨g,o,none⟩)∧RepD fo φ1 Im w d' (.pointer (some ⟨g,o+off,none⟩)):=by
 unfold aOv at hr
 split at hr
 ·rename_i key o
  cases hd with
  | ptr _ _ g hφ=>exact⟨_,_,_,hr,rfl,.ptr key (o+off) g hφ⟩
 ·rename_i key i o
  cases hd with
  | ep _ _ _ l hφ hi hreal=>exact⟨_,_,_,hr,rfl,by rw[Nat.add_assoc];exact .ep key i (o+off) l hφ hi hreal⟩
 ·rename_i cells
  have h2:=hd.p_inv
  cases h2 with
  | cp _ g o vals hI hc hr'=>
   refine⟨_,g,o,hr,rfl,.p _ _ (.cp _ g (o+off) (fun j=>vals (off+j)) hI (fun j hj=>?_) (fun j hj=>?_))⟩
   ·simp only[List.length_drop]at hj
    have:=hc (off+j) (by omega)
    rw[show o+off+j=o+(off+j)from by omega]
    exact this
   ·simp only[List.length_drop]at hj
    simp only[List.getElem_drop]
    exact hr' (off+j) (by omega)
 ·cases hr
theorem bFt (hfo:∀ f,fo (vm f)=some f)(hs:HS fo φ Im w h)(he:ER fo φ Im w a av e){t1:Option TypeId}{k1 nm:Nat}{x:Operand}{x':Od}(hx:cOd P vm t1 k1 x=some x'){t:TypeId}{fs:Array Field}(ht:P.underlying t=some (.struct fs)){f:Nat}{fl:Field}(hf:fs[f]? = some fl)(hz:P.cellsOf fl.type≠0){k:D->M β}
  (hr:(evO nm k (.fa fl.offset x')).run F ⟨e,h⟩=some r):Gives P fo φ Im w h e F r (Instr.fieldAt t (a.eval x) f) k:=by
 obtain⟨d,φ1,h1,g1,s1,r1⟩:=aAH hfo hs he hx hr
 obtain⟨d',g,o,g2,e2,r2⟩:=aLQ s1.fr.hs r1 g1
 refine⟨d',φ1,h1,_,g2,s1,r2,?_⟩
 have hi:∃ i,P.info? fl.type=some i:=by
  cases hq:P.info? fl.type with
  | none=>simp[Program.cellsOf,hq]at hz
  | some i=>exact⟨i,rfl⟩
 obtain⟨i,hi⟩:=hi
 have hsz:i.size≠0:=by simpa[Program.cellsOf,hi]using hz
 simp[Instr.fieldAt,run_underlying ht,hf,e2,Instr.sureAddr,fieldPlace,sizeOf,typeInfo,hi,hsz,aHc]
theorem aIc {t:TypeId}{n:Option Nat}(ht:aIW P t=some n)(w:World):(isAgg t).run P w=.ok n.isSome w∧(sizeOf t).run P w=.ok (n.getD 1) w∧(P.info? t).map (·.size)=some (n.getD 1):=by
 unfold aIW at ht
 obtain⟨i,hi,h2⟩:=Option.bind_eq_some_iff.1 ht
 split at h2
 ·rename_i fs hu;injection h2 with h2;subst h2;exact⟨by simp[isAgg,run_underlying hu],by simp[sizeOf,typeInfo,hi],by simp[hi]⟩
 ·rename_i n el hu;injection h2 with h2;subst h2;exact⟨by simp[isAgg,run_underlying hu],by simp[sizeOf,typeInfo,hi],by simp[hi]⟩
 ·rename_i d h1 h3 hu
  split at h2
  ·rename_i hsz
   injection h2 with h2;subst h2
   refine⟨?_,by simp[sizeOf,typeInfo,hi,hsz],by simp[hi,hsz]⟩
   simp only[isAgg,Sem.run_bind,run_underlying hu,Result.andThen_ok]
   cases d <;> first | rfl | (exact absurd rfl (h1 _)) | (exact absurd rfl (h3 _ _))
  ·cases h2
 ·cases h2
theorem aLO {φ1:Lay}{h1:aAR}{xs:List D}{vs:List Value}(hl:xs.length=vs.length)(ho:∀ d,d∈xs->d.one=true)(hr':∀ i (hi:i<xs.length) (hi':i<vs.length),RepD fo φ1 Im w xs[i] vs[i])
  {t:TypeId} {n:Option Nat} (ht:aIW P t=some n) {off:Nat} {k:D->M β} (hr:(aXG xs off k n).run F ⟨e,h1⟩=some r):∃ d v,(k d).run F ⟨e,h1⟩=some r∧RepD fo φ1 Im w d v∧(part t vs.toArray off).run P w=.ok v w:=by
 obtain⟨hA,hS,hS'⟩:=aIc ht w
 cases n with
 | none=>
  obtain⟨d,hd,g⟩:=aBO hr
  obtain⟨hi,hd⟩:=List.getElem?_eq_some_iff.1 hd
  have hi':off<vs.length:=by omega
  refine⟨d,vs[off],g,by rw[<- hd];exact hr' off hi hi',?_⟩
  simp[part,hA,List.getElem?_eq_getElem hi']
 | some m=>
  obtain⟨hle,g⟩:=aAU hr
  refine⟨_,.agg ((vs.drop off).take m).toArray,g,.agg _ _ (by simp[hl]) (fun d hd=>ho d (List.mem_of_mem_drop (List.mem_of_mem_take hd))) (fun i hi hi'=>?_),?_⟩
  ·simp only[List.getElem_take,List.getElem_drop]
   simp at hi hi'
   exact hr' (off+i) (by omega) (by omega)
  ·simp[part,hA,hS]
theorem bGm (hfo:∀ f,fo (vm f)=some f)(hs:HS fo φ Im w h)(he:ER fo φ Im w a av e){t1:Option TypeId}{k1 nm:Nat}{x:Operand}{x':Od}(hx:cOd P vm t1 k1 x=some x'){t:TypeId}{fs:Array Field}(ht:P.underlying t=some (.struct fs)){f:Nat}{fl:Field}(hf:fs[f]? = some fl){n:Option Nat}(hn:aIW P fl.type=some n){k:D->M β}
  (hr:(evO nm k (.fd fl.offset n x')).run F ⟨e,h⟩=some r):Gives P fo φ Im w h e F r (Instr.field t (a.eval x) f) k:=by
 obtain⟨d,φ1,h1,g1,s1,r1⟩:=aAH hfo hs he hx hr
 obtain⟨xs,rfl,g2⟩:=aKE g1
 generalize hv:a.eval x=v at r1
 cases r1 with
 | agg _ vs hl ho hr'=>
  obtain⟨d,v,g3,h3,h4⟩:=aLO hl ho hr' hn g2
  exact⟨d,φ1,h1,v,g3,s1,h3,by simp[Instr.field,run_underlying ht,hf,asAgg,h4]⟩
theorem bEE (hfo:∀ f,fo (vm f)=some f)(hs:HS fo φ Im w h)(he:ER fo φ Im w a av e){t1 t2:Option TypeId}{k1 k2 nm:Nat}{x y:Operand}{x' y':Od}(hx:cOd P vm t1 k1 x=some x')(hy:cOd P vm t2 k2 y=some y'){t el:TypeId}{len:Nat}(ht:P.underlying t=some (.array len el)){n:Option Nat}(hn:aIW P el=some n){k:D->M β}
  (hr:(evO nm k (.xv len (P.cellsOf el) n x' y')).run F ⟨e,h⟩=some r):Gives P fo φ Im w h e F r (Instr.index t (a.eval x) (a.eval y)) k:=by
 obtain⟨d,φ1,h1,g1,s1,r1⟩:=aAH hfo hs he hx hr
 obtain⟨xs,rfl,g2⟩:=aKE g1
 obtain⟨kd,m,φ2,h2,g3,s2,e2⟩:=vlI hfo s1.fr.hs (he.stp hs s1) hy g2
 obtain⟨hm,g4⟩:=aAU g3
 have r2:=r1.stp s1.fr.hs s2
 generalize hv:a.eval x=v at r2
 cases r2 with
 | agg _ vs hl ho hr'=>
  obtain⟨d,v,g5,h3,h4⟩:=aLO hl ho hr' hn g4
  refine⟨d,φ2,h2,v,g5,s1.trans s2,h3,?_⟩
  obtain⟨hA,hS,hS'⟩:=aIc hn w
  have hc:P.cellsOf el=n.getD 1:=by simp[Program.cellsOf,hS']
  rw[hc]at h4
  simp[Instr.index,run_underlying ht,e2,asIntOf,hm,hS,h4]
theorem bDw (hfo:∀ f,fo (vm f)=some f)(hs:HS fo φ Im w h)(he:ER fo φ Im w a av e){t1 t2:Option TypeId}{k1 k2 nm:Nat}{x y:Operand}{x' y':Od}(hx:cOd P vm t1 k1 x=some x')(hy:cOd P vm t2 k2 y=some y'){t el:TypeId}{len:Nat}(ht:P.underlying t=some (.array len el))(hz:P.cellsOf el≠0){k:D->M β}
  (hr:(evO nm k (.xa len (P.cellsOf el) x' y')).run F ⟨e,h⟩=some r):Gives P fo φ Im w h e F r (Instr.indexAt t (a.eval x) (a.eval y)) k:=by
 obtain⟨d,φ1,h1,g1,s1,r1⟩:=aAH hfo hs he hx hr
 obtain⟨kd,m,φ2,h2,g3,s2,e2⟩:=vlI hfo s1.fr.hs (he.stp hs s1) hy g1
 obtain⟨hm,g4⟩:=aAU g3
 obtain⟨d',g,o,g5,e3,r3⟩:=aLQ s2.fr.hs (r1.stp s1.fr.hs s2) g4
 refine⟨d',φ2,h2,_,g5,s1.trans s2,r3,?_⟩
 have hi:∃ i,P.info? el=some i:=by
  cases hq:P.info? el with
  | none=>simp[Program.cellsOf,hq]at hz
  | some i=>exact⟨i,rfl⟩
 obtain⟨i,hi⟩:=hi
 have hsz:P.cellsOf el=i.size:=by simp[Program.cellsOf,hi]
 simp[Instr.indexAt,run_underlying ht,e2,e3,asIntOf,Instr.sureAddr,hm,sizeOf,typeInfo,hi,hsz,aHc]
theorem aCG {φ1:Lay}{h1:aAR}(hs:HS fo φ1 Im w h1){key:Nat}{o:Ob}(hk:lk h1 key=some o){sz:Nat}{xs:List (List V)}(ho:o=.arr sz xs∨o=.frz sz xs){l:RL}(hφ:φ1 key=some l) :
  l.sz=sz∧xs.length=l.len∧l.len<=l.cap∧(∀ i (h:i<xs.length),xs[i].length=sz)∧(l.real=false->l.cap=0) ∧
   (l.real=true->∀ i j (hi:i<xs.length) (hj:j<xs[i].length),∃ x,w.cell? ⟨l.blk,l.off+i*sz+j,none⟩=some x∧RepV fo Im w xs[i][j] x):=by
 have:=hs.rep key o hk
 rcases ho with rfl | rfl
 ·obtain⟨l',h1,h2,h3,h4,h5,h6,h7⟩:=this
  rw[h1]at hφ;injection hφ with hφ;subst hφ
  refine⟨h2,h3,h4,h5,h6,fun hr i j hi hj=>?_⟩
  obtain⟨c,el,g1,g2,g3⟩:=h7 hr
  obtain⟨x,e1,e2⟩:=g3 i j hi hj
  exact⟨x,by simp[World.cell?,g1,e1],e2⟩
 ·obtain⟨l',h1,h2,h3,h4,h5,h6,h7⟩:=this
  rw[h1]at hφ;injection hφ with hφ;subst hφ
  exact⟨h2,h3,h4,h5,h6,fun hr i j hi hj=>(h7 hr).2 i j hi hj⟩
theorem aHI {φ1:Lay}{h1:aAR}(hs:HS fo φ1 Im w h1){d:D}{v:Value}(hd:RepD fo φ1 Im w d v){k:Nat->List (List V)->M β}(hr:(elems k d).run F ⟨e,h1⟩=some r) :
  ∃ sz xs ad c,(k sz xs).run F ⟨e,h1⟩=some r∧v=.slice ad xs.length c∧(∀ i (hi:i<xs.length),xs[i].length=sz) ∧
   (xs≠[]->∃ g o,ad=some ⟨g,o,none⟩∧∀ i j (hi:i<xs.length) (hj:j<xs[i].length),∃ x,w.cell? ⟨g,o+i*sz+j,none⟩=some x∧RepV fo Im w xs[i][j] x):=by
 unfold elems at hr
 split at hr
 ·rename_i sz xs
  cases hd.p_inv with
  | sl _ _ ad n c vals hn hcap hl ha hr'=>
   refine⟨sz,xs,ad,c,hr,by rw[hn],hl,fun hne=>?_⟩
   obtain⟨g,o,e1,hI,hc⟩:=ha (by rw[<- hn];exact fun h0=>hne (List.eq_nil_of_length_eq_zero h0))
   exact⟨g,o,e1,fun i j hi hj=>⟨vals i j,hc i j (by omega) (by rw[<- hl i hi];exact hj),hr' i j hi hj⟩⟩
 ·rename_i key
  obtain⟨o,hk,g1⟩:=aBN hr
  cases hd with
  | own _ l a0 hφ=>
   have main:∀ sz xs,(o=.arr sz xs∨o=.frz sz xs)->(k sz xs).run F ⟨e,h1⟩=some r->_:=fun sz xs ho g=>by
     obtain⟨e1,e2,e3,e4,e5,e6⟩:=aCG hs hk ho hφ
     refine (⟨sz,xs,(if l.real=true then some ⟨l.blk,l.off,none⟩else a0),(if l.real=true then l.cap else 0),g,?_,e4,fun hne=>?_⟩:∃ sz xs ad c,(k sz xs).run F ⟨e,h1⟩=some r∧(if l.real=true then Value.slice (some ⟨l.blk,l.off,none⟩) l.len l.cap else .slice a0 0 0)=.slice ad xs.length c∧(∀ i (hi:i<xs.length),xs[i].length=sz) ∧
   (xs≠[]->∃ g o,ad=some ⟨g,o,none⟩∧∀ i j (hi:i<xs.length) (hj:j<xs[i].length),∃ x,w.cell? ⟨g,o+i*sz+j,none⟩=some x∧RepV fo Im w xs[i][j] x))
     ·cases hre:l.real
      ·have:=e5 hre
       simp[show xs.length=0 by omega]
      ·simp[e2]
     ·have hpos:0<xs.length:=List.length_pos_iff.2 hne
      have hre:l.real=true:=by
       cases hre:l.real with
       | true=>rfl
       | false=>have:=e5 hre;omega
      exact⟨l.blk,l.off,by simp[hre],e6 hre⟩
   rcases aCI g1 with⟨sz,xs,rfl,g⟩ | ⟨sz,xs,rfl,g⟩
   · exact main sz xs (.inl rfl) g
   · exact main sz xs (.inr rfl) g
 ·rename_i key off len ap
  obtain⟨o,hk,g1⟩:=aBN hr
  cases hd with
  | arr _ _ _ _ l ad c hφ a1 a2 a3 a4 a5=>
   have main:∀ sz xs,(o=.arr sz xs∨o=.frz sz xs)->(grd (off+len<=xs.length) (k sz ((xs.drop off).take len))).run F ⟨e,h1⟩=some r->_:=fun sz xs ho g=>by
     obtain⟨e1,e2,e3,e4,e5,e6⟩:=aCG hs hk ho hφ
     obtain⟨hle,g⟩:=aAU g
     have hlen:((xs.drop off).take len).length=len:=by simp;omega
     refine (⟨sz,(xs.drop off).take len,ad,c,g,by rw[hlen],?_,fun hne=>?_⟩:∃ sz xs ad' c',(k sz xs).run F ⟨e,h1⟩=some r∧Value.slice ad len c=.slice ad' xs.length c'∧(∀ i (hi:i<xs.length),xs[i].length=sz) ∧
   (xs≠[]->∃ g o,ad'=some ⟨g,o,none⟩∧∀ i j (hi:i<xs.length) (hj:j<xs[i].length),∃ x,w.cell? ⟨g,o+i*sz+j,none⟩=some x∧RepV fo Im w xs[i][j] x))
     ·intro i hi
      simp only[List.getElem_take,List.getElem_drop]
      exact e4 _ _
     ·have hpos:0<len:=by
       rw[<- hlen];exact List.length_pos_iff.2 hne
      obtain⟨hre,had⟩:=a5 (by omega)
      refine⟨l.blk,l.off+off*l.sz,had,fun i j hi hj=>?_⟩
      have hi':off+i<xs.length:=by rw[hlen]at hi;omega
      have hj':j<xs[off+i].length:=by simpa[List.getElem_take,List.getElem_drop]using hj
      obtain⟨x,q1,q2⟩:=e6 hre (off+i) j hi' hj'
      refine⟨x,?_,by simpa[List.getElem_take,List.getElem_drop]using q2⟩
      rw[<- q1,<- e1,Nat.add_mul]
      congr 2
      omega
   rcases aCI g1 with⟨sz,xs,rfl,g⟩ | ⟨sz,xs,rfl,g⟩
   · exact main sz xs (.inl rfl) g
   · exact main sz xs (.inr rfl) g
 ·cases hr
theorem aTe {t:TypeId}{d:TypeDesc}(h:P.underlying t=some d):∃ i,P.info? t=some i:=by
 cases hq:P.info? t with
 | none=>simp[Program.underlying,hq]at h
 | some i=>exact⟨i,rfl⟩
theorem aIi {t:TypeId}(hz:P.cellsOf t≠0):∃ i,P.info? t=some i∧P.cellsOf t=i.size:=by
 cases hq:P.info? t with
 | none=>simp[Program.cellsOf,hq]at hz
 | some i=>exact⟨i,rfl,by simp[Program.cellsOf,hq]⟩
theorem bDW (hfo:∀ f,fo (vm f)=some f)(hs:HS fo φ Im w h)(he:ER fo φ Im w a av e){t1 t2:Option TypeId}{k1 k2 nm:Nat}{x y:Operand}{x' y':Od}(hx:cOd P vm t1 k1 x=some x')(hy:cOd P vm t2 k2 y=some y'){t el:TypeId}(ht:P.underlying t=some (.slice el))(hz:P.cellsOf el≠0){k:D->M β}
  (hr:(evO nm k (.ix (P.cellsOf el) x' y')).run F ⟨e,h⟩=some r):Gives P fo φ Im w h e F r (Instr.indexAt t (a.eval x) (a.eval y)) k:=by
 obtain⟨d,φ1,h1,g1,s1,r1⟩:=aAH hfo hs he hx hr
 obtain⟨kd,m,φ2,h2,g3,s2,e2⟩:=vlI hfo s1.fr.hs (he.stp hs s1) hy g1
 have r2:=r1.stp s1.fr.hs s2
 obtain⟨i,hi,hsz⟩:=aIi hz
 generalize hv:a.eval x=v at r2
 rw[e2]
 have run:∀ (ad:Addr) (len cap:Nat),0<=m->m<len->(Instr.indexAt t (.slice (some ad) len cap) (.int kd m)).run P w=.ok (.pointer (some (ad.add (m.toNat*P.cellsOf el)))) w:=by
  intro ad len cap h0 hlt
  simp[Instr.indexAt,run_underlying ht,asIntOf,h0,hlt,sizeOf,typeInfo,hi,hsz]
 unfold ixO at g3
 split at g3
 ·rename_i s xs
  obtain⟨⟨rfl,h0⟩,g4⟩:=aAU g3
  obtain⟨cs,hcs,g5⟩:=aBO g4
  obtain⟨hlt,hcs⟩:=List.getElem?_eq_some_iff.1 hcs
  cases r2.p_inv with
  | sl _ _ ad n c vals hn hcap hl ha hr'=>
    obtain⟨g,o,rfl,hI,hc⟩:=ha (by omega)
    refine⟨_,φ2,h2,.pointer (some ⟨g,o+m.toNat*P.cellsOf el,none⟩),g5,s1.trans s2,.p _ _ (.cp cs g (o+m.toNat*P.cellsOf el) (fun j=>vals m.toNat j) hI (fun j hj=>hc _ _ (by omega) (by rw[<- hl _ hlt,hcs];exact hj)) (fun j hj=>?_)),?_⟩
    ·have:=hr' m.toNat j hlt (by rw[hcs];exact hj)
     simpa only[hcs]using this
    ·rw[run _ _ _ h0 (by omega),aHc]
 ·rename_i key
  obtain⟨o,hk,g4⟩:=aBN g3
  cases r2 with
  | own _ l a0 hφ=>
    have main:∀ sz xs,(o=.arr sz xs∨o=.frz sz xs)->(grd (sz=P.cellsOf el∧0<=m∧m<xs.length) (k (.ep key m.toNat 0))).run F ⟨e,h2⟩=some r->Gives P fo φ Im w h e F r (Instr.indexAt t (if l.real=true then Value.slice (some ⟨l.blk,l.off,none⟩) l.len l.cap else .slice a0 0 0) (.int kd m)) k:=fun sz xs ho g=>by
     obtain⟨⟨rfl,h0,hlt⟩,g'⟩:=aAU g
     obtain⟨e1,e2',e3,e4,e5,e6⟩:=aCG s2.fr.hs hk ho hφ
     have hre:l.real=true:=by
      cases hre:l.real with
      | true=>rfl
      | false=>have:=e5 hre;omega
     refine⟨_,φ2,h2,_,g',s1.trans s2,.ep key m.toNat 0 l hφ (by omega) hre,?_⟩
     simp only[hre,if_true]
     rw[run _ _ _ h0 (by omega),aHc,e1,Nat.add_zero]
    rcases aCI g4 with⟨sz,xs,rfl,g⟩ | ⟨sz,xs,rfl,g⟩
    ·exact main sz xs (.inl rfl) g
    ·exact main sz xs (.inr rfl) g
 ·rename_i key off len ap
  obtain⟨o,hk,g4⟩:=aBN g3
  cases r2 with
  | arr _ _ _ _ l ad c hφ a1 a2 a3 a4 a5=>
    have main:∀ sz xs,(o=.arr sz xs∨o=.frz sz xs)->(grd (sz=P.cellsOf el∧0<=m∧m<len∧off+len<=xs.length) (k (.ep key (off+m.toNat) 0))).run F ⟨e,h2⟩=some r->Gives P fo φ Im w h e F r (Instr.indexAt t (.slice ad len c) (.int kd m)) k:=fun sz xs ho g=>by
     obtain⟨⟨rfl,h0,hlt,hle⟩,g'⟩:=aAU g
     obtain⟨e1,e2',e3,e4,e5,e6⟩:=aCG s2.fr.hs hk ho hφ
     obtain⟨hre,had⟩:=a5 (by omega)
     refine⟨_,φ2,h2,_,g',s1.trans s2,.ep key (off+m.toNat) 0 l hφ (by omega) hre,?_⟩
     rw[had,run _ _ _ h0 hlt,aHc,e1,Nat.add_zero,Nat.add_mul,Nat.add_assoc]
    rcases aCI g4 with⟨sz,xs,rfl,g⟩ | ⟨sz,xs,rfl,g⟩
    ·exact main sz xs (.inl rfl) g
    ·exact main sz xs (.inr rfl) g
 ·cases g3
theorem aYz (hfo:∀ f,fo (vm f)=some f)(hs:HS fo φ Im w h)(he:ER fo φ Im w a av e){t1:Option TypeId}{k1 nm:Nat}{x:Operand}{x':Od}(hx:cOd P vm t1 k1 x=some x'){t ty el:TypeId}(ht:P.underlying t=some (.slice el)){k:D->M β}
  (hr:(evO nm k (.ln 0 x')).run F ⟨e,h⟩=some r):Gives P fo φ Im w h e F r (Builtin.len_ #[t] ty #[a.eval x]) k:=by
 obtain⟨d,φ1,h1,g1,s1,r1⟩:=aAH hfo hs he hx hr
 generalize hv:a.eval x=v at r1
 obtain⟨sz,xs,ad,c,g2,rfl,_⟩:=aHI s1.fr.hs r1 g1
 exact⟨_,φ1,h1,.int .i64 xs.length,g2,s1,.p _ _ (.i _ _),by simp[Builtin.len_,run_underlying ht,goInt]⟩
theorem aX9 (hfo:∀ f,fo (vm f)=some f)(hs:HS fo φ Im w h)(he:ER fo φ Im w a av e){t1:Option TypeId}{k1 nm:Nat}{x:Operand}{x':Od}(hx:cOd P vm t1 k1 x=some x'){t ty:TypeId}(ht:P.underlying t=some .string){k:D->M β}
  (hr:(evO nm k (.ln 1 x')).run F ⟨e,h⟩=some r):Gives P fo φ Im w h e F r (Builtin.len_ #[t] ty #[a.eval x]) k:=by
 obtain⟨d,φ1,h1,g1,s1,r1⟩:=aAH hfo hs he hx hr
 unfold lnO at g1
 split at g1
 ·simp_all
 ·rename_i s _
  rw[r1.p_inv.s_inv]
  exact⟨_,φ1,h1,.int .i64 s.size,g1,s1,.p _ _ (.i _ _),by simp[Builtin.len_,run_underlying ht,goInt]⟩
 ·simp_all
 ·cases g1
theorem bDF (hfo:∀ f,fo (vm f)=some f)(hs:HS fo φ Im w h)(he:ER fo φ Im w a av e){t1 t2:Option TypeId}{k1 k2 nm:Nat}{x y:Operand}{x' y':Od}(hx:cOd P vm t1 k1 x=some x')(hy:cOd P vm t2 k2 y=some y'){t:TypeId}(ht:P.underlying t=some .string){k:D->M β}
  (hr:(evO nm k (.xs x' y')).run F ⟨e,h⟩=some r):Gives P fo φ Im w h e F r (Instr.index t (a.eval x) (a.eval y)) k:=by
 obtain⟨d,φ1,h1,g1,s1,r1⟩:=aAH hfo hs he hx hr
 obtain⟨kd,m,φ2,h2,g3,s2,e2⟩:=vlI hfo s1.fr.hs (he.stp hs s1) hy g1
 have r2:=r1.stp s1.fr.hs s2
 unfold xsO at g3
 split at g3
 ·rename_i s
  split at g3
  · rename_i hm
    rw[r2.p_inv.s_inv,e2]
    refine⟨_,φ2,h2,.int .u8 ((s[m.toNat]'hm.2).toNat),g3,s1.trans s2,.p _ _ (.i _ _),?_⟩
    have:s[m.toNat]? = some (s[m.toNat]'hm.2):=by
     rw[getElem?_pos]
    simp[Instr.index,run_underlying ht,asIntOf,hm.1,this]
  · cases g3
 ·cases g3
theorem aAX (hfo:∀ f,fo (vm f)=some f)(hs:HS fo φ Im w h)(he:ER fo φ Im w a av e){key:Nat}{x:Option Operand}{x':Option Od}(hc:aPh P vm key x=some x'){d:Int}{k:Int->M β}
  (hr:(aEc d k x').run F ⟨e,h⟩=some r):∃ n φ' h',(k n).run F ⟨e,h'⟩=some r∧Stp fo φ Im w h φ' Im w h'∧(x=none->n=d)∧(x'.isNone=x.isNone)∧(∀ y,x=some y->∃ kd,a.eval y=.int kd n):=by
 cases x with
 | none=>
  injection hc with hc
  subst hc
  exact⟨d,φ,h,hr,.refl hs,fun _=>rfl,rfl,fun y hy=>by cases hy⟩
 | some y=>
  obtain⟨y',h1,rfl⟩:=Option.map_eq_some_iff.1 hc
  obtain⟨kd,n,φ',h',g,s,e1⟩:=vlI hfo hs he h1 hr
  exact⟨n,φ',h',g,s,fun hh=>(by cases hh),rfl,fun z hz=>by injection hz with hz;subst hz;exact⟨kd,e1⟩⟩
theorem aFG (isS:Bool)(len cap:Nat)(lo hi mx:Option Value)(l h m:Int)(hlo:lo=none->l=0)(hlo':∀ v,lo=some v->∃ kd,v=.int kd l)(hhi:hi=none->h=len)(hhi':∀ v,hi=some v->∃ kd,v=.int kd h)
  (hmx:mx=none->m=cap) (hmx':∀ v,mx=some v->∃ kd,v=.int kd m) (hm:mx.isSome=true->hi.isSome=true) (h0:0<=l) (h1:l<=h) (h2:h<=m) (h3:m<=cap) :
  (Instr.sliceBounds isS len cap lo hi mx).run P w=.ok (l.toNat,h.toNat,m.toNat) w:=by
 have sb:∀ (kd:IntKind) (n:Int) (y:Nat) (c:BoundsCode),0<=n->n<=y->(Instr.sliceBound (.int kd n) y c).run P w=.ok n.toNat w:=by
  intro kd n y c a b
  simp[Instr.sliceBound,asIntOf,a,b]
 have hh:h=(h.toNat:Int):=by omega
 have hmm:m=(m.toNat:Int):=by omega
 unfold Instr.sliceBounds
 cases mx with
 | none=>
  have:=hmx rfl
  subst this
  cases hi with
  | none=>
    have:=hhi rfl
    subst this
    cases lo with
    | none=>have:=hlo rfl;subst this;simp
    | some v=>obtain⟨kd,rfl⟩:=hlo' v rfl;simp[sb kd l len _ h0 h1]
  | some v=>
    obtain⟨kd,rfl⟩:=hhi' v rfl
    cases lo with
    | none=>have:=hlo rfl;subst this;simp[sb kd h cap _ (by omega) h2]
    | some v=>obtain⟨kd',rfl⟩:=hlo' v rfl;simp[sb kd h cap _ (by omega) h2,sb kd' l h.toNat _ h0 (by omega)]
 | some u=>
  obtain⟨ku,rfl⟩:=hmx' u rfl
  cases hi with
  | none=>simp at hm
  | some v=>
    obtain⟨kd,rfl⟩:=hhi' v rfl
    cases lo with
    | none=>have:=hlo rfl;subst this;simp[sb ku m cap _ (by omega) h3,sb kd h m.toNat _ (by omega) (by omega)]
    | some v=>obtain⟨kd',rfl⟩:=hlo' v rfl;simp[sb ku m cap _ (by omega) h3,sb kd h m.toNat _ (by omega) (by omega),sb kd' l h.toNat _ h0 (by omega)]
theorem aKN {t el:TypeId}(ht:P.underlying t=some (.slice el))(hz:P.cellsOf el≠0)(ad:Option Addr)(len cap:Nat)(lo hi mx:Option Value)(l h m:Int)(hb:(Instr.sliceBounds true len cap lo hi mx).run P w=.ok (l.toNat,h.toNat,m.toNat) w) :
  (Instr.sliceAt t (.slice ad len cap) lo hi mx).run P w=.ok (.slice (if m.toNat=l.toNat then ad else ad.map (·.add (l.toNat*P.cellsOf el))) (h.toNat-l.toNat) (m.toNat-l.toNat)) w:=by
 obtain⟨i,hi',hsz⟩:=aIi hz
 simp[Instr.sliceAt,run_underlying ht,Instr.slice,hb,sizeOf,typeInfo,hi',hsz]
theorem omap_none {x:Option Operand}{f:Operand->Value}:x.map f=none↔x=none:=by cases x <;> simp
theorem aV8 (hfo:∀ f,fo (vm f)=some f)(hs:HS fo φ Im w h)(he:ER fo φ Im w a av e){t1:Option TypeId}{k1 nm:Nat}{x:Operand}{x':Od}{lo hi mx:Option Operand}{lo' hi' mx':Option Od}
  (hx:cOd P vm t1 k1 x=some x') (hlo:aPh P vm nm lo=some lo') (hhi:aPh P vm nm hi=some hi') (hmx:aPh P vm nm mx=some mx') (hm:¬((mx.isSome&&hi.isNone)=true)) {t el:TypeId} (ht:P.underlying t=some (.slice el)) (hz:P.cellsOf el≠0) {k:D->M β}
  (hr:(evO nm k (.sl x' (P.cellsOf el) lo' hi' mx')).run F ⟨e,h⟩=some r):Gives P fo φ Im w h e F r (Instr.sliceAt t (a.eval x) (lo.map a.eval) (hi.map a.eval) (mx.map a.eval)) k:=by
 obtain⟨d,φ1,h1,g1,s1,r1⟩:=aAH hfo hs he hx hr
 have he1:=he.stp hs s1
 have hmm:(mx.map a.eval).isSome=true->(hi.map a.eval).isSome=true:=by cases mx <;> cases hi <;> simp_all
 unfold slO at g1
 split at g1
 ·-- a string: not here
  obtain⟨l,φ2,h2,g2,s2,a1,a2,a3⟩:=aAX hfo s1.fr.hs he1 hlo g1
  obtain⟨hh,φ3,h3,g3,s3,b1,b2,b3⟩:=aAX hfo s2.fr.hs (he1.stp s1.fr.hs s2) hhi g2
  obtain⟨⟨_,hz',_⟩,_⟩:=aAU g3
  exact absurd hz' hz
 ·rename_i s xs
  obtain⟨l,φ2,h2,g2,s2,a1,a2,a3⟩:=aAX hfo s1.fr.hs he1 hlo g1
  obtain⟨hh,φ3,h3,g3,s3,b1,b2,b3⟩:=aAX hfo s2.fr.hs (he1.stp s1.fr.hs s2) hhi g2
  obtain⟨⟨hmn,rfl,_,c0,c1,c2⟩,g4⟩:=aAU g3
  generalize hv:a.eval x=v at r1
  cases r1.p_inv with
  | sl _ _ ad n c vals hn hcap hl ha hr'=>
    have hmx0:mx=none:=by
     cases mx with
     | none=>rfl
     | some y=>obtain⟨y',_,rfl⟩:=Option.map_eq_some_iff.1 hmx;simp at hmn
    subst hmx0
    have hb:=aFG (P:=P) (w:=w) true n c (lo.map a.eval) (hi.map a.eval) (Option.map a.eval none) l hh c (fun q=>a1 (omap_none.1 q)) (fun v hv=>by obtain⟨y,h1,rfl⟩:=Option.map_eq_some_iff.1 hv;exact a3 y h1)
     (fun q=>by rw[b1 (omap_none.1 q),hn]) (fun v hv=>by obtain⟨y,h1,rfl⟩:=Option.map_eq_some_iff.1 hv;exact b3 y h1) (fun _=>rfl) (fun v hv=>by cases hv) (fun q=>by cases q) c0 c1 (by omega) (by omega)
    refine⟨_,φ3,h3,_,g4,(s1.trans s2).trans s3,.p _ _ ?_,aKN ht hz ad n c _ _ _ l hh c hb⟩
    refine .sl _ _ _ _ _ (fun i j=>vals (l.toNat+i) j) (by simp;omega) (by omega) (fun i hi=>?_) (fun h0=>?_) (fun i j hi hj=>?_)
    ·simp only[List.getElem_take,List.getElem_drop];exact hl _ _
    ·obtain⟨g,o,rfl,hI,hc⟩:=ha (by omega)
     rw[if_neg (by omega)]
     refine⟨g,o+l.toNat*P.cellsOf el,by simp[aHc],hI,fun i j hi hj=>?_⟩
     have:=hc (l.toNat+i) j (by omega) hj
     rw[<- this,Nat.add_mul]
     congr 2
     omega
    ·have hi2:l.toNat+i<xs.length:=by simp at hi;omega
     have hj':j<xs[l.toNat+i].length:=by simpa[List.getElem_take,List.getElem_drop]using hj
     have:=hr' (l.toNat+i) j hi2 hj'
     simpa[List.getElem_take,List.getElem_drop]using this
 ·rename_i key
  obtain⟨o,hk,g2⟩:=aBN g1
  generalize hv:a.eval x=v at r1
  cases r1 with
  | own _ l0 a0 hφ=>
    have main:∀ fz sz xs,(o=.arr sz xs∨o=.frz sz xs)->(aEc 0 (fun l=>aEc xs.length (fun h=>aEc h (slA (P.cellsOf el) key 0 xs.length sz (!fz) xs mx' l h k) mx') hi') lo').run F ⟨e,h1⟩=some r ->
       Gives P fo φ Im w h e F r (Instr.sliceAt t (if l0.real=true then Value.slice (some ⟨l0.blk,l0.off,none⟩) l0.len l0.cap else .slice a0 0 0) (lo.map a.eval) (hi.map a.eval) (mx.map a.eval)) k:=fun fz sz xs ho g=>by
     obtain⟨e1,e2',e3,e4,e5,e6⟩:=aCG s1.fr.hs hk ho hφ
     obtain⟨l,φ2,h2,g2,s2,a1,a2,a3⟩:=aAX hfo s1.fr.hs he1 hlo g
     obtain⟨hh,φ3,h3,g3,s3,b1,b2,b3⟩:=aAX hfo s2.fr.hs (he1.stp s1.fr.hs s2) hhi g2
     obtain⟨m,φ4,h4,g4,s4,m1,m2,m3⟩:=aAX hfo s3.fr.hs ((he1.stp s1.fr.hs s2).stp s2.fr.hs s3) hmx g3
     obtain⟨⟨rfl,_,c0,c1,c2,c3,c4,c5⟩,g5⟩:=aAU g4
     have hφ4:=((s2.trans s3).trans s4).up _ _ hφ
     have hcap:∃ cp:Nat,(if l0.real=true then Value.slice (some ⟨l0.blk,l0.off,none⟩) l0.len l0.cap else .slice a0 0 0)=.slice (if l0.real=true then some ⟨l0.blk,l0.off,none⟩else a0) xs.length cp∧cp=l0.cap∧(xs.length<=cp):=by
       cases hre:l0.real
       · have:=e5 hre;refine⟨0,?_,by omega,by omega⟩;simp;omega
       · exact⟨l0.cap,by simp[e2'],rfl,by omega⟩
     obtain⟨cp,hsl,hcp,hle⟩:=hcap
     rw[hsl]
     have hb:=aFG (P:=P) (w:=w) true xs.length cp (lo.map a.eval) (hi.map a.eval) (mx.map a.eval) l hh (if mx.isNone=true then (cp:Int)else m) (fun q=>a1 (omap_none.1 q)) (fun v hv=>by obtain⟨y,h1,rfl⟩:=Option.map_eq_some_iff.1 hv;exact a3 y h1)
       (fun q=>b1 (omap_none.1 q)) (fun v hv=>by obtain⟨y,h1,rfl⟩:=Option.map_eq_some_iff.1 hv;exact b3 y h1) (fun q=>by rw[omap_none.1 q];rfl)
       (fun v hv=>by obtain⟨y,h1,rfl⟩:=Option.map_eq_some_iff.1 hv;rw[h1];exact m3 y h1) hmm c0 c1 (by split <;> omega) (by split <;> omega)
     refine⟨_,φ4,h4,_,g5,((s1.trans s2).trans s3).trans s4,?_,aKN ht hz _ xs.length cp _ _ _ l hh _ hb⟩
     have hmn:mx'.isNone=mx.isNone:=m2
     refine .arr _ _ _ _ l0 _ _ hφ4 (by omega) ?_ ?_ (fun hap=>?_) (fun hne=>?_)
     · split <;> omega
     · split <;> omega
     · simp only[Bool.and_eq_true]at hap
       rw[hmn]at hap
       rw[if_pos hap.2];omega
     · have hmne:((if mx.isNone=true then (cp:Int)else m).toNat)≠l.toNat:=by omega
       have hre:l0.real=true:=by
         cases hre:l0.real with
         | true=>rfl
         | false=>
          have:=e5 hre
          exfalso
          split at hne <;> omega
       rw[if_neg hmne,if_pos hre]
       exact⟨hre,by simp[aHc,e1]⟩
    rcases aCI g2 with⟨sz,xs,rfl,g⟩ | ⟨sz,xs,rfl,g⟩
    ·exact main false sz xs (.inl rfl) g
    ·exact main true sz xs (.inr rfl) g
 ·rename_i key off len ap
  obtain⟨o,hk,g2⟩:=aBN g1
  generalize hv:a.eval x=v at r1
  cases r1 with
  | arr _ _ _ _ l0 ad c hφ q1 q2 q3 q4 q5=>
    have main:∀ fz sz xs,(o=.arr sz xs∨o=.frz sz xs)->(aEc 0 (fun l=>aEc len (fun h=>aEc h (slA (P.cellsOf el) key off len sz (ap&&!fz) xs mx' l h k) mx') hi') lo').run F ⟨e,h1⟩=some r ->
       Gives P fo φ Im w h e F r (Instr.sliceAt t (.slice ad len c) (lo.map a.eval) (hi.map a.eval) (mx.map a.eval)) k:=fun fz sz xs ho g=>by
     obtain⟨e1,e2',e3,e4,e5,e6⟩:=aCG s1.fr.hs hk ho hφ
     obtain⟨l,φ2,h2,g2,s2,a1,a2,a3⟩:=aAX hfo s1.fr.hs he1 hlo g
     obtain⟨hh,φ3,h3,g3,s3,b1,b2,b3⟩:=aAX hfo s2.fr.hs (he1.stp s1.fr.hs s2) hhi g2
     obtain⟨m,φ4,h4,g4,s4,m1,m2,m3⟩:=aAX hfo s3.fr.hs ((he1.stp s1.fr.hs s2).stp s2.fr.hs s3) hmx g3
     obtain⟨⟨rfl,_,c0,c1,c2,c3,c4,c5⟩,g5⟩:=aAU g4
     have hφ4:=((s2.trans s3).trans s4).up _ _ hφ
     have hb:=aFG (P:=P) (w:=w) true len c (lo.map a.eval) (hi.map a.eval) (mx.map a.eval) l hh (if mx.isNone=true then (c:Int)else m) (fun q=>a1 (omap_none.1 q)) (fun v hv=>by obtain⟨y,h1,rfl⟩:=Option.map_eq_some_iff.1 hv;exact a3 y h1)
       (fun q=>b1 (omap_none.1 q)) (fun v hv=>by obtain⟨y,h1,rfl⟩:=Option.map_eq_some_iff.1 hv;exact b3 y h1) (fun q=>by rw[omap_none.1 q];rfl)
       (fun v hv=>by obtain⟨y,h1,rfl⟩:=Option.map_eq_some_iff.1 hv;rw[h1];exact m3 y h1) hmm c0 c1 (by split <;> omega) (by split <;> omega)
     refine⟨_,φ4,h4,_,g5,((s1.trans s2).trans s3).trans s4,?_,aKN ht hz _ len c _ _ _ l hh _ hb⟩
     have hmn:mx'.isNone=mx.isNone:=m2
     refine .arr _ _ _ _ l0 _ _ hφ4 (by omega) ?_ ?_ (fun hap=>?_) (fun hne=>?_)
     · split <;> omega
     · split <;> omega
     · simp only[Bool.and_eq_true]at hap
       rw[hmn]at hap
       have:=q4 hap.1.1
       rw[if_pos hap.2];omega
     · have hmne:((if mx.isNone=true then (c:Int)else m).toNat)≠l.toNat:=by omega
       have hc0:c≠0:=by
         intro hc
         split at hne <;> omega
       obtain⟨hre,rfl⟩:=q5 hc0
       rw[if_neg hmne]
       refine⟨hre,?_⟩
       simp only[Option.map_some,aHc,e1,Nat.add_mul,Nat.add_assoc]
    rcases aCI g2 with⟨sz,xs,rfl,g⟩ | ⟨sz,xs,rfl,g⟩
    ·exact main false sz xs (.inl rfl) g
    ·exact main true sz xs (.inr rfl) g
 ·cases g1
end
end Am
end Go.Proofs.YtkmbhgggpfbffaaGreatDoor
