/- Loads, comparisons, maximum and minimum. -/
import Derived.Test.YtkmbhgggpfbffaaGreatDoorAm8
import Derived.ChangeKeysEq
set_option linter.unusedVariables false
set_option linter.unusedSimpArgs false
set_option linter.constructorNameAsVariable false
namespace Go.Proofs.YtkmbhgggpfbffaaGreatDoor
namespace Am
section
variable {P:Program} {fo:Fo} {vm:FuncId->Nat} {φ:Lay} {Im:Nat->Prop} {w:World} {h:aAR} {a:Act} {av:List Value} {e:Env} {F:Cf} {β:Type} {r:β×St}
theorem aQy (hs:HS fo φ Im w h){key off:Nat}{o:Ob}{d:D}(hk:lk h key=some o)(hc:aGQ o off=some d){l:RL}(hφ:φ key=some l) :
  ∃ g v,l=RL.box g∧w.cell? ⟨g,off,none⟩=some v∧RepD fo φ Im w d v∧d.one=true:=by
 have:=hs.rep key o hk
 cases o with
 | box cs=>
  obtain⟨g,el,vs,h1,h2,h3,h4,h5⟩:=this
  rw[h1]at hφ;injection hφ with hφ;subst hφ
  obtain⟨hi,hd⟩:=List.getElem?_eq_some_iff.1 (show cs[off]? = some d from hc)
  have hi':off<vs.length:=by omega
  refine⟨g,vs[off],rfl,by simp[World.cell?,h2,List.getElem?_eq_getElem hi'],by rw[<- hd];exact h5 off hi hi',h4 d (by rw[<- hd];exact List.getElem_mem hi)⟩
 | fbx vs=>
  obtain⟨g,h1,h2,h3⟩:=this
  rw[h1]at hφ;injection hφ with hφ;subst hφ
  obtain⟨u,hu,rfl⟩:=Option.map_eq_some_iff.1 (show (vs[off]?).map D.p=some d from hc)
  obtain⟨hi,hd⟩:=List.getElem?_eq_some_iff.1 hu
  obtain⟨x,e1,e2⟩:=h3 off hi
  exact⟨g,x,rfl,e1,.p _ _ (by rw[<- hd];exact e2),rfl⟩
 | _=>simp[aGQ]at hc
theorem aRB:∀ (n key off:Nat) {k:List D->M β} {h:aAR},(aTO key off n k).run F ⟨e,h⟩=some r->(n=0∨∃ o,lk h key=some o) ∧
  ∃ ds,ds.length=n∧(k ds).run F ⟨e,h⟩=some r∧∀ i (hi:i<ds.length),∃ o,lk h key=some o∧aGQ o (off+i)=some ds[i]:=by
 intro n
 induction n with
 | zero=>intro key off k h hr;exact⟨.inl rfl,[],rfl,hr,fun i hi=>absurd hi (by simp)⟩
 | succ n ih=>
  intro key off k h hr
  obtain⟨o,h1,h2⟩:=Option.bind_eq_some_iff.1 hr
  obtain⟨d,h3,h4⟩:=Option.bind_eq_some_iff.1 h2
  obtain⟨_,ds,hl,g,hall⟩:=ih key (off+1) h4
  refine⟨.inr ⟨o,h1⟩,d :: ds,by simp[hl],g,fun i hi=>?_⟩
  cases i with
  | zero=>exact⟨o,h1,h3⟩
  | succ i=>
   obtain⟨o',q1,q2⟩:=hall i (by simpa using hi)
   exact⟨o',q1,by rw[show off+(i+1)=off+1+i from by omega];exact q2⟩
theorem aIb {cs:List V}{off g o:Nat}(hc:∀ j (hj:j<cs.length),∃ x,w.cell? ⟨g,o+j,none⟩=some x∧RepV fo Im w cs[j] x){t:TypeId}{n:Option Nat}(ht:aIW P t=some n){k:D->M β}
  (hr:(aHE cs off k n).run F ⟨e,h⟩=some r):∃ d v,(k d).run F ⟨e,h⟩=some r∧RepD fo φ Im w d v∧(loadVar t ⟨g,o+off,none⟩).run P w=.ok v w:=by
 obtain⟨hA,hS,hS'⟩:=aIc ht w
 cases n with
 | none=>
  obtain⟨u,hu,g1⟩:=aBO hr
  obtain⟨hi,hd⟩:=List.getElem?_eq_some_iff.1 hu
  obtain⟨x,e1,e2⟩:=hc off hi
  exact⟨_,x,g1,.p _ _ (by rw[<- hd];exact e2),by simp[loadVar,hA,e1]⟩
 | some m=>
  obtain⟨hle,g1⟩:=aAU hr
  have hx:∀ j:Nat,∃ x,∀ (hj:off+j<cs.length),w.cell? ⟨g,o+(off+j),none⟩=some x∧RepV fo Im w cs[off+j] x:=by
    intro j
    by_cases hj:off+j<cs.length
    ·obtain⟨x,e1,e2⟩:=hc (off+j) hj;exact⟨x,fun _=>⟨e1,e2⟩⟩
    ·exact⟨undef,fun h=>absurd h hj⟩
  refine⟨_,.agg ((List.range m).map fun j=>Classical.choose (hx j)).toArray,g1,.agg _ _ (by simp;omega) (fun d hd=>?_) (fun i hi hi'=>?_),?_⟩
  · obtain⟨u,_,rfl⟩:=List.mem_map.1 hd;rfl
  · simp only[List.length_map,List.length_take,List.length_drop]at hi
    simp only[List.getElem_map,List.getElem_take,List.getElem_drop,List.getElem_range]
    exact .p _ _ (Classical.choose_spec (hx i) (by omega)).2
  · simp only[loadVar,Sem.run_bind,hA,Result.andThen_ok,Option.isSome_some,if_true,hS,Option.getD_some]
    rw[run_loadCells (P:=P) w ⟨g,o+off,none⟩ m (fun j=>Classical.choose (hx j)) (fun j hj=>by
     rw[aHc,Nat.add_assoc];exact (Classical.choose_spec (hx j) (by omega)).1)]
    simp
theorem aOg {φ1:Lay}{h1:aAR}(hs:HS fo φ1 Im w h1){d0:D}{v0:Value}(hd:RepD fo φ1 Im w d0 v0){t:TypeId}{n:Option Nat}(ht:aIW P t=some n){k:D->M β}
  (hr:(ldO n k d0).run F ⟨e,h1⟩=some r):∃ d v,(k d).run F ⟨e,h1⟩=some r∧RepD fo φ1 Im w d v∧(Instr.loadAt t v0).run P w=.ok v w:=by
 obtain⟨hA,hS,hS'⟩:=aIc ht w
 unfold ldO at hr
 split at hr
 ·rename_i key off
  obtain⟨l,hφ,rfl⟩:=hd.ptr_inv
  · skip
    cases n with
    | none=>
     obtain⟨o,q1,q2⟩:=Option.bind_eq_some_iff.1 hr
     obtain⟨d,q3,q4⟩:=Option.bind_eq_some_iff.1 q2
     obtain⟨g,v,rfl,c1,c2,c3⟩:=aQy hs q1 q3 hφ
     exact⟨d,v,q4,c2,by simp[Instr.loadAt,Instr.sureAddr,loadVar,hA,RL.box,c1]⟩
    | some m=>
     obtain⟨hex,ds,hl,g1,hall⟩:=aRB m key off hr
     have hx:∀ j:Nat,∃ x,∀ (hj:j<ds.length),w.cell? ⟨l.blk,l.off+off+j,none⟩=some x∧RepD fo φ1 Im w ds[j] x∧ds[j].one=true:=by
      intro j
      by_cases hj:j<ds.length
      ·obtain⟨o,q1,q2⟩:=hall j hj
       obtain⟨g,v,e1,c1,c2,c3⟩:=aQy hs q1 q2 hφ
       exact⟨v,fun _=>⟨by rw[e1];simpa[RL.box]using c1,c2,c3⟩⟩
      ·exact⟨undef,fun h=>absurd h hj⟩
     refine⟨_,.agg ((List.range m).map fun j=>Classical.choose (hx j)).toArray,g1,.agg _ _ (by simp[hl]) (fun d hd=>?_) (fun i hi hi'=>?_),?_⟩
     ·obtain⟨i,hi,rfl⟩:=List.getElem_of_mem hd;exact (Classical.choose_spec (hx i) hi).2.2
     ·simp only[List.getElem_map,List.getElem_range];exact (Classical.choose_spec (hx i) hi).2.1
     ·simp only[Instr.loadAt,Instr.sureAddr,Sem.run_bind,Sem.run_pure,Result.andThen_ok,loadVar,hA,Option.isSome_some,if_true,hS,Option.getD_some]
      rw[run_loadCells (P:=P) w ⟨l.blk,l.off+off,none⟩ m (fun j=>Classical.choose (hx j)) (fun j hj=>by rw[aHc];exact (Classical.choose_spec (hx j) (by omega)).1)]
      simp
 ·rename_i key i off
  obtain⟨o,hk,g1⟩:=aBN hr
  cases hd with
  | ep _ _ _ l hφ hi hre=>
    have main:∀ sz xs,(o=.arr sz xs∨o=.frz sz xs)->(oret xs[i]? fun cs=>aHE cs off k n).run F ⟨e,h1⟩=some r->∃ d v,(k d).run F ⟨e,h1⟩=some r∧RepD fo φ1 Im w d v∧(Instr.loadAt t (.pointer (some ⟨l.blk,l.off+i*l.sz+off,none⟩))).run P w=.ok v w:=fun sz xs ho g=>by
     obtain⟨e1,e2,e3,e4,e5,e6⟩:=aCG hs hk ho hφ
     obtain⟨cs,hcs,g2⟩:=aBO g
     obtain⟨hlt,hcs⟩:=List.getElem?_eq_some_iff.1 hcs
     subst hcs
     obtain⟨d,v,q1,q2,q3⟩:=aIb (P:=P) (φ:=φ1) (g:=l.blk) (o:=l.off+i*l.sz) (fun j hj=>by rw[e1];exact e6 hre i j hlt hj) ht g2
     exact⟨d,v,q1,q2,by simpa[Instr.loadAt,Instr.sureAddr]using q3⟩
    rcases aCI g1 with⟨sz,xs,rfl,g⟩ | ⟨sz,xs,rfl,g⟩
    ·exact main sz xs (.inl rfl) g
    ·exact main sz xs (.inr rfl) g
 ·rename_i cells
  cases hd.p_inv with
  | cp _ g o vals hI hc hr'=>
    obtain⟨d,v,q1,q2,q3⟩:=aIb (P:=P) (φ:=φ1) (off:=0) (g:=g) (o:=o) (fun j hj=>⟨vals j,hc j hj,hr' j hj⟩) ht hr
    exact⟨d,v,q1,q2,by simpa[Instr.loadAt,Instr.sureAddr]using q3⟩
 ·cases hr
theorem bEU (hfo:∀ f,fo (vm f)=some f)(hs:HS fo φ Im w h)(he:ER fo φ Im w a av e){t1:Option TypeId}{k1 nm:Nat}{x:Operand}{x':Od}(hx:cOd P vm t1 k1 x=some x'){t:TypeId}{n:Option Nat}(ht:aIW P t=some n){k:D->M β}
  (hr:(evO nm k (.ld n x')).run F ⟨e,h⟩=some r):Gives P fo φ Im w h e F r (Instr.loadAt t (a.eval x)) k:=by
 obtain⟨d,φ1,h1,g1,s1,r1⟩:=aAH hfo hs he hx hr
 obtain⟨d',v,q1,q2,q3⟩:=aOg s1.fr.hs r1 ht g1
 exact⟨d',φ1,h1,v,q1,s1,q2,q3⟩
theorem aVv (hfo:∀ f,fo (vm f)=some f)(hs:HS fo φ Im w h)(he:ER fo φ Im w a av e){nm:Nat}{xs:List Operand}{xs':List Od}(hx:aRV P vm (xs.map fun x=>(x,none)) nm=some xs'){mx:Bool}{ts:Array TypeId}{ty:TypeId}{k:D->M β}
  (hr:(evO nm k (.mm mx xs')).run F ⟨e,h⟩=some r):Gives P fo φ Im w h e F r (if mx then Builtin.max_ ts ty (xs.map a.eval).toArray else Builtin.min_ ts ty (xs.map a.eval).toArray) k:=by
 obtain⟨ds,φ1,h1,g1,s1,hl,r1⟩:=aJx hfo _ _ _ hx hs he hr
 unfold mmO at g1
 split at g1
 ·rename_i kd x rest
  obtain⟨n,hn,g2⟩:=aBO g1
  cases xs with
  | nil=>simp at hl
  | cons y ys=>
    have h0:=r1 0 (by simp) (by simp)
    have e0:=RepV.i_inv (RepD.p_inv h0)
    simp only[List.map_cons,List.getElem_cons_zero]at e0
    have:=bJg (P:=P) (fo:=fo) (φ:=φ1) (Im:=Im) (w:=w) mx kd rest (ys.map a.eval) x n (by simpa using hl) (fun i hi hi'=>by
     have:=r1 (i+1) (by simpa using hi) (by simpa using hi')
     simpa using this) hn
    refine⟨_,φ1,h1,.int kd n,g2,s1,.p _ _ (.i _ _),?_⟩
    cases mx
    ·simpa[Builtin.min_,e0]using this
    ·simpa[Builtin.max_,e0]using this
 ·cases g1
theorem bOh (d:Nat){t el:TypeId}(hu:P.underlying t=some (.pointer el)):(Op.equalIn (d+1) t (.pointer none) (.pointer none)).run P w=.ok true w:=by simp[Op.equalIn,run_underlying hu]
theorem aVZ (d:Nat){t el:TypeId}(hu:P.underlying t=some (.pointer el))(ad:Addr):(Op.equalIn (d+1) t (.pointer (some ad)) (.pointer none)).run P w=.ok false w:=by simp[Op.equalIn,run_underlying hu]
theorem bMA (d:Nat){t:TypeId}{p1 p2:Array TypeId}{p3:Bool}(hu:P.underlying t=some (.func p1 p2 p3)):(Op.equalIn (d+1) t .nilFunc .nilFunc).run P w=.ok true w:=by simp[Op.equalIn,run_underlying hu]
theorem bA9 (d:Nat){t:TypeId}{p1 p2:Array TypeId}{p3:Bool}(hu:P.underlying t=some (.func p1 p2 p3))(f:Fn)(x y:Array Value):(Op.equalIn (d+1) t (.func f x y) .nilFunc).run P w=.ok false w:=by simp[Op.equalIn,run_underlying hu]
theorem bMW (d:Nat){t p1 p2:TypeId}(hu:P.underlying t=some (.map p1 p2)):(Op.equalIn (d+1) t (.map none) (.map none)).run P w=.ok true w:=by simp[Op.equalIn,run_underlying hu]
theorem bIm (d:Nat){t p1 p2:TypeId}(hu:P.underlying t=some (.map p1 p2))(m:Nat):(Op.equalIn (d+1) t (.map (some m)) (.map none)).run P w=.ok false w:=by simp[Op.equalIn,run_underlying hu]
theorem bMH (d:Nat){t:TypeId}{p1:Array (String×TypeId)}(hu:P.underlying t=some (.interface p1)):(Op.equalIn (d+1) t .nilIface .nilIface).run P w=.ok true w:=by simp[Op.equalIn,run_underlying hu]
theorem bAj (d:Nat){t:TypeId}{p1:Array (String×TypeId)}(hu:P.underlying t=some (.interface p1))(t':TypeId)(x:Value):(Op.equalIn (d+1) t (.iface t' x) .nilIface).run P w=.ok false w:=by simp[Op.equalIn,run_underlying hu]
theorem aZJ (d:Nat){t el:TypeId}(hu:P.underlying t=some (.slice el))(ad:Addr)(n c:Nat):(Op.equalIn (d+1) t (.slice (some ad) n c) (.slice none 0 0)).run P w=.ok false w:=by simp[Op.equalIn,run_underlying hu]
theorem aU0 (hfo:∀ f,fo (vm f)=some f)(hs:HS fo φ Im w h)(he:ER fo φ Im w a av e){t1:Option TypeId}{k1 nm:Nat}{x y:Operand}{x':Od}(hx:cOd P vm t1 k1 x=some x'){t:TypeId}{kind:Nat}(ht:bPd P t y=some kind){ne:Bool}{k:D->M β}
  (hr:(evO nm k (.bn ne kind x')).run F ⟨e,h⟩=some r):Gives P fo φ Im w h e F r (do eqGuard (if ne then .neq else .eql) t x y (a.eval x) (a.eval y);binOp (if ne then .neq else .eql) t (a.eval x) (a.eval y)) k:=by
 obtain⟨d,φ1,h1,g1,s1,r1⟩:=aAH hfo hs he hx hr
 generalize hv:a.eval x=v at r1
 have fin:∀ b:Bool,(k (.p (.b (ne != b)))).run F ⟨e,h1⟩=some r->(eqGuard (if ne then .neq else .eql) t x y v (a.eval y)=pure ()) ->
    (binOp .eql t v (a.eval y)=(do pure (.bool (<- Op.equal t v (a.eval y)))))->(binOp .neq t v (a.eval y)=(do pure (.bool (!(<- Op.equal t v (a.eval y))))))->((Op.equal t v (a.eval y)).run P w=.ok b w) ->
    Gives P fo φ Im w h e F r (do eqGuard (if ne then .neq else .eql) t x y v (a.eval y);binOp (if ne then .neq else .eql) t v (a.eval y)) k:=by
  intro b g hg he1 he2 hq
  refine⟨_,φ1,h1,.bool (ne != b),g,s1,.p _ _ (.b _),?_⟩
  rw[hg]
  cases ne
  · simp only[Bool.false_eq_true,if_false,Sem.run_bind,Sem.run_pure,Result.andThen_ok,he1,hq];cases b <;> rfl
  · simp only[if_true,Sem.run_bind,Sem.run_pure,Result.andThen_ok,he2,hq];cases b <;> rfl
 unfold bPd at ht
 split at ht
 ·rename_i el hu
  injection ht with ht
  subst ht
  unfold aJz at g1
  split at g1 <;> first | (simp at *;done) | skip
  · cases r1.p_inv
    exact fin true g1 (by cases ne <;> rfl) rfl rfl (bOh 9999 hu)
  · cases r1.p_inv
    exact fin false g1 (by cases ne <;> rfl) rfl rfl (aVZ 9999 hu _)
  · cases r1
    exact fin false g1 (by cases ne <;> rfl) rfl rfl (aVZ 9999 hu _)
  · cases r1
    exact fin false g1 (by cases ne <;> rfl) rfl rfl (aVZ 9999 hu _)
  · cases g1
 ·rename_i p1 p2 p3 hu
  injection ht with ht
  subst ht
  unfold aJz at g1
  split at g1 <;> first | (simp at *;done) | skip
  · cases r1.p_inv
    exact fin true g1 (by cases ne <;> rfl) rfl rfl (bMA 9999 hu)
  · cases r1.p_inv
    exact fin false g1 (by cases ne <;> rfl) rfl rfl (bA9 9999 hu _ _ _)
  · cases r1
    exact fin false g1 (by cases ne <;> rfl) rfl rfl (bA9 9999 hu _ _ _)
  · cases g1
 ·rename_i p1 p2 hu
  injection ht with ht
  subst ht
  unfold aJz at g1
  split at g1 <;> first | (simp at *;done) | skip
  · cases r1.p_inv
    exact fin true g1 (by cases ne <;> rfl) rfl rfl (bMW 9999 hu)
  · cases r1
    exact fin false g1 (by cases ne <;> rfl) rfl rfl (bIm 9999 hu _)
  · cases g1
 ·rename_i p1 hu
  injection ht with ht
  subst ht
  unfold aJz at g1
  split at g1 <;> first | (simp at *;done) | skip
  · cases r1.p_inv
    exact fin true g1 (by simp only[Act.eval];exact eqGuard_nil_constR _ _ _ _) rfl rfl (bMH 9999 hu)
  · cases r1.p_inv <;>
      exact fin false g1 (by cases ne <;> rfl) rfl rfl (bAj 9999 hu _ _)
  · cases r1 <;>
      exact fin false g1 (by cases ne <;> rfl) rfl rfl (bAj 9999 hu _ _)
  · cases g1
 ·rename_i el hu
  injection ht with ht
  subst ht
  obtain⟨sz,xs,ad,c,g2,rfl,_,h4⟩:=aHI s1.fr.hs r1 g1
  obtain⟨hne,g3⟩:=aAU g2
  have:xs≠[]:=by intro h0;subst h0;simp at hne
  obtain⟨g,o,rfl,_⟩:=h4 this
  exact fin false g3 (by cases ne <;> rfl) rfl rfl (aZJ 9999 hu _ _ _)
 ·cases ht
theorem bCb {kd d:Nat}{t:TypeId}(hk:aF2 P t=some kd){u v:V}{x y:Value}(hx:RepV fo Im w u x)(hy:RepV fo Im w v y){b:Bool}(hb:eqV kd u v=some b):(isAgg t).run P w=.ok false w∧(Op.equalIn (d+1) t x y).run P w=.ok b w:=by
 unfold aF2 at hk
 split at hk
 ·rename_i k hu
  injection hk with hk
  subst hk
  unfold eqV at hb
  split at hb <;> first | (simp at *;done) | skip
  ·rename_i k1 a k2 b' _
   split at hb
   ·rename_i hkk
    subst hkk
    injection hb with hb
    subst hb
    have:=hx.i_inv
    have:=hy.i_inv
    subst_vars
    exact⟨by simp[isAgg,run_underlying hu],by rw[run_equalIn_int w d t _ _ _ _ hu];simp[BEq.beq]⟩
   ·cases hb
 ·rename_i hu
  injection hk with hk
  subst hk
  unfold eqV at hb
  split at hb <;> first | (simp at *;done) | skip
  ·injection hb with hb
   subst hb
   have:=hx.b_inv
   have:=hy.b_inv
   subst_vars
   exact⟨by simp[isAgg,run_underlying hu],run_equalIn_bool' w d t _ _ hu⟩
 ·rename_i hu
  injection hk with hk
  subst hk
  unfold eqV at hb
  split at hb <;> first | (simp at *;done) | skip
  ·injection hb with hb
   subst hb
   have:=hx.s_inv
   have:=hy.s_inv
   subst_vars
   exact⟨by simp[isAgg,run_underlying hu],by rw[run_equalIn_string w d t _ _ hu,aM4]⟩
 ·cases hk
theorem aNO:∀ {ks:List Nat} {us ws:List D} {b:Bool},aNP ks us ws=some b->us.length=ks.length∧ws.length=ks.length
 | [],us,ws,b,h=>by
  unfold aNP at h
  split at h <;> simp_all
 | k :: ks,us,ws,b,h=>by
  unfold aNP at h
  split at h <;> first | (simp at *;done) | skip
  rename_i k0 ks0 x xs y ys hc
  injection hc with hc1 hc2
  subst hc1 hc2
  simp only[Option.bind_eq_some_iff]at h
  obtain⟨e,_,r,h2,_⟩:=h
  have:=aNO h2
  simp only[List.length_cons]
  omega
theorem aQH:∀ {a c:List Nat} {us ws:List D} {b:Bool},aNP (a++c) us ws=some b ->
  ∃ r1 r2,aNP a (us.take a.length) (ws.take a.length)=some r1∧aNP c (us.drop a.length) (ws.drop a.length)=some r2∧b=(r1&&r2)
 | [],c,us,ws,b,h=>⟨true,b,by simp[aNP],by simpa using h,by simp⟩
 | k :: a,c,us,ws,b,h=>by
  rw[List.cons_append]at h
  unfold aNP at h
  split at h <;> first | (simp at *;done) | skip
  rename_i k0 ks0 x xs y ys hc
  injection hc with hc1 hc2
  subst hc1 hc2
  simp only[Option.bind_eq_some_iff]at h
  obtain⟨e,h1,r,h2,h3⟩:=h
  injection h3 with h3
  obtain⟨r1,r2,q1,q2,q3⟩:=aQH h2
  refine⟨e&&r1,r2,?_,?_,?_⟩
  ·simp[aNP,h1,q1]
  ·simpa using q2
  ·rw[<- h3,q3,Bool.and_assoc]
def bMY (P:Program)(fo:Fo)(φ:Lay)(Im:Nat->Prop)(w:World)(d:Nat)(t:TypeId)(ks:List Nat):Prop:=
 ∀ (X Y:List Value) (i:Nat) (us ws:List D) (b:Bool),aNP ks us ws=some b ->
  (∀ j (hj:j<us.length),∃ x,X[i+j]? = some x∧RepD fo φ Im w us[j] x)->(∀ j (hj:j<ws.length),∃ x,Y[i+j]? = some x∧RepD fo φ Im w ws[j] x) ->
  ∃ x y,(part t X.toArray i).run P w=.ok x w∧(part t Y.toArray i).run P w=.ok y w∧(Op.equalIn (d+1) t x y).run P w=.ok b w
theorem aKh (d:Nat)(sub:TypeId->Option (List Nat))(hsub:∀ t ks,sub t=some ks->bMY P fo φ Im w d t ks)(X Y:List Value):∀ (fs:List Field) (i:Nat) (ks:List Nat) (us ws:List D) (b:Bool),aLF sub fs i=some ks->aNP ks us ws=some b ->
  (∀ j (hj:j<us.length),∃ x,X[i+j]? = some x∧RepD fo φ Im w us[j] x)->(∀ j (hj:j<ws.length),∃ x,Y[i+j]? = some x∧RepD fo φ Im w ws[j] x) ->
  (Op.eqFields (d+1) X.toArray Y.toArray fs).run P w=.ok b w:=by
 intro fs
 induction fs with
 | nil=>
  intro i ks us ws b hk hb hu hw
  injection hk with hk
  subst hk
  unfold aNP at hb
  split at hb <;> first | (simp at *;done) | skip
  · injection hb with hb;subst hb;rfl
 | cons f fs ih=>
  intro i ks us ws b hk hb hu hw
  simp only[aLF]at hk
  split at hk
  · rename_i hf
    simp only[Option.bind_eq_some_iff,Option.map_eq_some_iff]at hk
    obtain⟨a,h1,c,h2,rfl⟩:=hk
    obtain⟨hl1,hl2⟩:=aNO hb
    rw[List.length_append]at hl1 hl2
    obtain⟨r1,r2,q1,q2,rfl⟩:=aQH hb
    obtain⟨x,y,p1,p2,p3⟩:=hsub f.type a h1 X Y i _ _ r1 q1 (fun j hj=>by
     obtain⟨x,a1,a2⟩:=hu j (by simp at hj;omega)
     exact⟨x,a1,by simpa using a2⟩) (fun j hj=>by
     obtain⟨x,a1,a2⟩:=hw j (by simp at hj;omega)
     exact⟨x,a1,by simpa using a2⟩)
    have hih:=ih (i+a.length) c _ _ r2 h2 q2 (fun j hj=>by
     obtain⟨x,a1,a2⟩:=hu (a.length+j) (by simp at hj;omega)
     exact⟨x,by rw[<- a1];congr 1;omega,by simpa using a2⟩) (fun j hj=>by
     obtain⟨x,a1,a2⟩:=hw (a.length+j) (by simp at hj;omega)
     exact⟨x,by rw[<- a1];congr 1;omega,by simpa using a2⟩)
    simp only[Op.eqFields,hf.2,ne_eq,not_false_eq_true,if_true]
    simp[hf.1,p1,p2,p3]
    cases r1
    ·simp
    ·simp;exact hih
  · cases hk
theorem aQI {d:Nat}{t:TypeId}{k:Nat}(hk:aF2 P t=some k):bMY P fo φ Im w d t [k]:=by
 intro X Y i us ws b hb hu hw
 unfold aNP at hb
 split at hb <;> first | (simp at *;done) | skip
 rename_i k0 ks0 x xs y ys hc
 injection hc with hc1 hc2
 subst hc1 hc2
 simp only[Option.bind_eq_some_iff]at hb
 obtain⟨e0,h3,r0,h4,h5⟩:=hb
 injection h5 with h5
 have hr:r0=true:=by
  unfold aNP at h4
  split at h4 <;> first | (simp at *;done) | skip
  ·injection h4 with h4;exact h4.symm
 obtain⟨vx,p1,p2⟩:=hu 0 (by simp)
 obtain⟨vy,q1,q2⟩:=hw 0 (by simp)
 simp only[Nat.add_zero,List.getElem_cons_zero]at p1 p2 q1 q2
 obtain⟨hA,hE⟩:=bCb (P:=P) (d:=d) hk p2.p_inv q2.p_inv h3
 refine⟨vx,vy,by simp[part,hA,p1],by simp[part,hA,q1],?_⟩
 rw[hE,<- h5,hr,Bool.and_true]
theorem aUw:∀ (n:Nat) (t:TypeId) (ks:List Nat),aMN P n t=some ks->∀ d,n<=d->bMY P fo φ Im w d t ks
 | 0,t,ks,h,d,_=>by
  obtain⟨k,h1,rfl⟩:=Option.map_eq_some_iff.1 h
  exact aQI h1
 | n+1,t,ks,h,d,hd=>by
  unfold aMN at h
  split at h
  ·rename_i k hk
   injection h with h;subst h
   exact aQI hk
  ·split at h
   ·rename_i fs hu
    split at h
    ·rename_i hc
     obtain⟨a,h1,h2⟩:=Option.bind_eq_some_iff.1 h
     split at h2
     ·rename_i hal
      injection h2 with h2;subst h2
      obtain⟨d,rfl⟩:∃ q,d=q+1:=⟨d-1,by omega⟩
      intro X Y i us ws b hb hu' hw'
      obtain⟨hl1,hl2⟩:=aNO hb
      obtain⟨inf,hi⟩:=Option.isSome_iff_exists.1 hc.2
      have hA:(isAgg t).run P w=.ok true w:=by simp[isAgg,run_underlying hu]
      have hS:=run_sizeOf (P:=P) w hi
      have hut:P.underlying t=some (.struct (P.fieldsOf t)):=by rw[Program.fieldsOf,hu]
      have hfs:P.fieldsOf t=fs:=by rw[Program.fieldsOf,hu]
      refine⟨.agg ((X.drop i).take (P.cellsOf t)).toArray,.agg ((Y.drop i).take (P.cellsOf t)).toArray,?_,?_,?_⟩
      ·simp[part,hA,hS,List.extract_eq_take_drop]
      ·simp[part,hA,hS,List.extract_eq_take_drop]
      ·rw[run_equalIn_agg w (d+1) t _ _ hut hc.1,hfs]
       refine aKh (φ:=φ) d (aMN P n) (fun t ks h=>aUw n t ks h d (by omega)) _ _ fs.toList 0 a us ws b h1 hb (fun j hj=>?_) (fun j hj=>?_)
       ·obtain⟨x,a1,a2⟩:=hu' j hj
        exact⟨x,by rw[Nat.zero_add,List.getElem?_take_of_lt (by omega),List.getElem?_drop];exact a1,a2⟩
       ·obtain⟨x,a1,a2⟩:=hw' j hj
        exact⟨x,by rw[Nat.zero_add,List.getElem?_take_of_lt (by omega),List.getElem?_drop];exact a1,a2⟩
     ·cases h2
    ·cases h
   ·cases h
theorem aTA (hfo:∀ f,fo (vm f)=some f)(hs:HS fo φ Im w h)(he:ER fo φ Im w a av e){t1 t2:Option TypeId}{k1 k2 nm:Nat}{x y:Operand}{x' y':Od}(hx:cOd P vm t1 k1 x=some x')(hy:cOd P vm t2 k2 y=some y'){t:TypeId}{ks:List Nat}(ht:aJT P t=some ks){ne:Bool}{k:D->M β}
  (hr:(evO nm k (.ba ne ks x' y')).run F ⟨e,h⟩=some r):Gives P fo φ Im w h e F r (do eqGuard (if ne then .neq else .eql) t x y (a.eval x) (a.eval y);binOp (if ne then .neq else .eql) t (a.eval x) (a.eval y)) k:=by
 obtain⟨d,φ1,h1,g1,s1,r1⟩:=aAH hfo hs he hx hr
 obtain⟨us,rfl,g2⟩:=aKE g1
 obtain⟨d2,φ2,h2,g3,s2,r2⟩:=aAH hfo s1.fr.hs (he.stp hs s1) hy g2
 obtain⟨ws,rfl,g4⟩:=aKE g3
 obtain⟨b,hb,g5⟩:=aBO g4
 have r1':=r1.stp s1.fr.hs s2
 generalize hvx:a.eval x=vx at r1'
 generalize hvy:a.eval y=vy at r2
 unfold aJT at ht
 split at ht
 ·rename_i fs hu
  split at ht
  · rename_i hc
    cases r1' with
    | agg _ X hlx hox hrx=>
     cases r2 with
     | agg _ Y hly hoy hry=>
      have hu':P.underlying t=some (.struct (P.fieldsOf t)):=by rw[Program.fieldsOf,hu]
      have hfs:(P.fieldsOf t)=fs:=by rw[Program.fieldsOf,hu]
      have hE:(Op.equalIn 10000 t (.agg X.toArray) (.agg Y.toArray)).run P w=.ok b w:=by
       rw[run_equalIn_agg w 9999 t X.toArray Y.toArray hu' hc.1,hfs]
       exact aKh (φ:=φ2) 9998 (aMN P 5) (fun t ks h=>aUw 5 t ks h 9998 (by omega)) X Y fs.toList 0 ks us ws b ht hb (fun j hj=>⟨X[j]'(by omega),by simp[List.getElem?_eq_getElem (show j<X.length by omega)],hrx j hj (by omega)⟩)
        (fun j hj=>⟨Y[j]'(by omega),by simp[List.getElem?_eq_getElem (show j<Y.length by omega)],hry j hj (by omega)⟩)
      refine⟨_,φ2,h2,.bool (ne != b),g5,s1.trans s2,.p _ _ (.b _),?_⟩
      simp only[Sem.run_bind]
      rw[run_eqGuard_agg w _ t x y X.toArray Y.toArray hc.2]
      simp only[Result.andThen_ok]
      cases ne
      ·simp only[Bool.false_eq_true,if_false]
       rw[run_eql_struct,hE];cases b <;> rfl
      ·simp only[if_true]
       rw[run_neq_struct,hE];cases b <;> rfl
  · cases ht
 ·cases ht
end
end Am
end Go.Proofs.YtkmbhgggpfbffaaGreatDoor
