/- Functions. -/
import Derived.Test.YtkmbhgggpfbffaaGreatDoorAm22
set_option linter.unusedVariables false
set_option linter.unusedSimpArgs false
set_option linter.constructorNameAsVariable false
namespace Go.Proofs.YtkmbhgggpfbffaaGreatDoor
namespace Am
section
variable {P:Program} {fo:Fo} {vm:FuncId->Nat} {vmode:Nat->List Nat} {φ:Lay} {Im:Nat->Prop} {w:World} {h:aAR} {a:Act} {av:List Value} {e:Env} {F:Cf} {β:Type} {r:β×St}
theorem aRp {own:Bool}(hs:HS fo φ Im w h){d:D}{v:Value}(hd:RepD fo φ Im w d v){k:D->M β}(hr:(aXZ own k d).run F ⟨e,h⟩=some r) :
  ∃ d' Im' h',(k d').run F ⟨e,h'⟩=some r∧Stp fo φ Im w h φ Im' w h'∧RepD fo φ Im' w d' v:=by
 unfold aXZ at hr
 split at hr
 ·rename_i xs
  split at hr
  ·exact⟨_,Im,h,hr,.refl hs,hd⟩
  ·cases hd with
   | agg xs vs hl ho hrr=>
    obtain⟨us,Im',h',g1,s1,g2,g3,_⟩:=aJw 300 xs _ φ Im h vs hs hl hrr hr
    refine⟨_,Im',h',g1,s1,.agg _ vs (by simpa using g2) (fun d hd=>?_) (fun i hi hi'=>?_)⟩
    ·obtain⟨u,_,rfl⟩:=List.mem_map.1 hd;rfl
    ·simp only[List.getElem_map];exact .p _ _ (g3 i (by simpa using hi) hi')
 ·split at hr
  ·exact⟨_,Im,h,hr,.refl hs,hd⟩
  ·obtain⟨u,Im',h',g1,s1,g2,_⟩:=aNj 300 d _ φ Im h v hs hd hr
   exact⟨_,Im',h',g1,s1,.p u v g2⟩
def bAk (tmps:Array Value):ResultVar->Sem Value
 | .tmp t=>pure (tmps.getD t undef)
 | .cell a t=>do loadVar t (<- asAddr (tmps.getD a undef))
def bMl:List Value->Value
 | [v]=>v
 | vs=>.tuple vs.toArray
theorem aPM {fn:Func}{tmps:Array Value}{vs:List Value}(h:(fn.results.toList.mapM (bAk tmps)).run P w=.ok vs w):(results fn tmps).run P w=.ok (bMl vs) w:=by
 have:results fn tmps=(do let vs <- fn.results.mapM (bAk tmps);pure (if h:vs.size=1 then vs[0]else .tuple vs)):=by
  unfold results
  congr 1
 rw[this,Array.mapM_eq_mapM_toList]
 have h2:(List.toArray <$> fn.results.toList.mapM (bAk tmps)).run P w=.ok vs.toArray w:=by
  rw[map_eq_pure_bind]
  simp only[Sem.run_bind,h,Result.andThen_ok,Sem.run_pure]
 simp only[Sem.run_bind,h2,Result.andThen_ok,Sem.run_pure]
 match vs with
 | []=>rfl
 | [v]=>rfl
 | v :: v' :: vs=>rfl
theorem aML {own:Bool}(hsz:∀ t v,a.tmps[t]? = some v->a.tmps.getD t undef=v):∀ (rs:List ResultVar) (res:List Rs),rs.mapM (bM6 P)=some res->∀ {Im:Nat->Prop} {h:aAR} {k:List D->M β},HS fo φ Im w h->ER fo φ Im w a av e->(aXt own res k).run F ⟨e,h⟩=some r ->
  ∃ ds Im' h' vs,(k ds).run F ⟨e,h'⟩=some r∧Stp fo φ Im w h φ Im' w h'∧RepDs fo φ Im' w ds vs∧(rs.mapM (bAk a.tmps)).run P w=.ok vs w
 | [],res,hc,Im,h,k,hs,he,hr=>by
  simp at hc
  subst hc
  exact⟨[],Im,h,[],hr,.refl hs,⟨rfl,fun i hi=>absurd hi (by simp)⟩,by simp⟩
 | x :: rs,res,hc,Im,h,k,hs,he,hr=>by
  simp only[List.mapM_cons,Option.bind_eq_bind,Option.bind_eq_some_iff,Option.pure_def,Option.some.injEq]at hc
  obtain⟨y,h1,ys,h2,rfl⟩:=hc
  have fin:∀ (d:D) (v:Value),RepD fo φ Im w d v->(bAk a.tmps x).run P w=.ok v w->(aXZ own (fun d'=>aXt own ys fun ds=>k (d' :: ds)) d).run F ⟨e,h⟩=some r ->
    ∃ ds Im' h' vs,(k ds).run F ⟨e,h'⟩=some r∧Stp fo φ Im w h φ Im' w h'∧RepDs fo φ Im' w ds vs∧((x :: rs).mapM (bAk a.tmps)).run P w=.ok vs w:=by
   intro d v hd hv hr
   obtain⟨d',Im1,h1',g1,s1,r1⟩:=aRp hs hd hr
   obtain⟨ds,Im2,h2',vs,g2,s2,r2,r3⟩:=aML hsz rs ys h2 s1.fr.hs (he.stp hs s1) g1
   refine⟨_,Im2,h2',v :: vs,g2,s1.trans s2,⟨by simp[r2.1],fun i hi hi'=>?_⟩,?_⟩
   ·cases i with
    | zero=>exact r1.stp s1.fr.hs s2
    | succ i=>exact r2.2 i (by simpa using hi) (by simpa using hi')
   ·simp only[List.mapM_cons,Sem.run_bind,hv,Result.andThen_ok,r3,Sem.run_pure]
  unfold bM6 at h1
  split at h1
  ·rename_i t
   split at h1
   ·rename_i hlt
    injection h1 with h1;subst h1
    obtain⟨d,q1,hr⟩:=Option.bind_eq_some_iff.1 hr
    obtain⟨v,q2,q3⟩:=he t d q1
    rw[if_pos hlt]at q2
    exact fin d v q3 (by simp only[bAk,Sem.run_pure,hsz t v q2]) hr
   ·cases h1
  ·rename_i ad t
   split at h1
   ·rename_i hlt
    obtain⟨n,hn,rfl⟩:=Option.map_eq_some_iff.1 h1
    obtain⟨d,q1,hr⟩:=Option.bind_eq_some_iff.1 hr
    obtain⟨v,q2,q3⟩:=he ad d q1
    rw[if_pos hlt]at q2
    obtain⟨d',v',z1,z2,z3⟩:=aOg (P:=P) hs q3 hn hr
    refine fin d' v' z2 ?_ z1
    have hp:∃ x,v=.pointer (some x):=by
     unfold Instr.loadAt at z3
     cases v with
     | pointer p=>
      cases p with
      | some x=>exact⟨x,rfl⟩
      | none=>simp[Instr.sureAddr]at z3
     | _=>simp[Instr.sureAddr]at z3
    obtain⟨x,rfl⟩:=hp
    simp only[bAk,Sem.run_bind,hsz ad _ q2]
    simpa[Instr.loadAt,Instr.sureAddr,asAddr]using z3
   ·cases h1
end
end Am
end Go.Proofs.YtkmbhgggpfbffaaGreatDoor
