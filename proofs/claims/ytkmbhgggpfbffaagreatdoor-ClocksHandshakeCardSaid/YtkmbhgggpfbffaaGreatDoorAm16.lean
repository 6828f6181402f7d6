/- All operations but calls, joined. -/
import Derived.Test.YtkmbhgggpfbffaaGreatDoorAm31
set_option linter.unusedVariables false
set_option linter.unusedSimpArgs false
set_option linter.constructorNameAsVariable false
namespace Go.Proofs.YtkmbhgggpfbffaaGreatDoor
namespace Am
section
variable {P:Program} {fo:Fo} {vm:FuncId->Nat} {φ:Lay} {Im:Nat->Prop} {w:World} {h:aAR} {a:Act} {av:List Value} {e:Env} {F:Cf} {β:Type} {r:β×St}
theorem aX2 (hfo:∀ f,fo (vm f)=some f)(hs:HS fo φ Im w h)(he:ER fo φ Im w a av e){t1:Option TypeId}{k1 nm:Nat}{x:Operand}{x':Od}{lo hi mx:Option Operand}{lo' hi' mx':Option Od}
  (hx:cOd P vm t1 k1 x=some x') (hlo:aPh P vm nm lo=some lo') (hhi:aPh P vm nm hi=some hi') (hmx:aPh P vm nm mx=some mx') {t:TypeId} (ht:P.underlying t=some .string) {k:D->M β}
  (hr:(evO nm k (.sl x' 0 lo' hi' mx')).run F ⟨e,h⟩=some r):Gives P fo φ Im w h e F r (Instr.sliceAt t (a.eval x) (lo.map a.eval) (hi.map a.eval) (mx.map a.eval)) k:=by
 obtain⟨d,φ1,h1,g1,s1,r1⟩:=aAH hfo hs he hx hr
 have he1:=he.stp hs s1
 unfold slO at g1
 split at g1
 ·rename_i s
  obtain⟨l,φ2,h2,g2,s2,a1,a2,a3⟩:=aAX hfo s1.fr.hs he1 hlo g1
  obtain⟨hh,φ3,h3,g3,s3,b1,b2,b3⟩:=aAX hfo s2.fr.hs (he1.stp s1.fr.hs s2) hhi g2
  obtain⟨⟨hmn,_,c0,c1,c2⟩,g4⟩:=aAU g3
  have hv:=r1.p_inv.s_inv
  have hmx0:mx=none:=by
    cases mx with
    | none=>rfl
    | some y=>obtain⟨y',_,rfl⟩:=Option.map_eq_some_iff.1 hmx;simp at hmn
  subst hmx0
  have hb:=aFG (P:=P) (w:=w) false s.size s.size (lo.map a.eval) (hi.map a.eval) none l hh s.size (fun q=>a1 (omap_none.1 q)) (fun v hv=>by obtain⟨y,h1,rfl⟩:=Option.map_eq_some_iff.1 hv;exact a3 y h1)
     (fun q=>b1 (omap_none.1 q)) (fun v hv=>by obtain⟨y,h1,rfl⟩:=Option.map_eq_some_iff.1 hv;exact b3 y h1) (fun _=>rfl) (fun v hv=>by cases hv) (fun q=>by cases q) c0 c1 (by omega) (by omega)
  refine⟨_,φ3,h3,_,g4,(s1.trans s2).trans s3,.p _ _ (.s _),?_⟩
  rw[hv]
  simp[Instr.sliceAt,run_underlying ht,Instr.slice,hb]
 ·obtain⟨l,φ2,h2,g2,s2,a1,a2,a3⟩:=aAX hfo s1.fr.hs he1 hlo g1
  obtain⟨hh,φ3,h3,g3,s3,b1,b2,b3⟩:=aAX hfo s2.fr.hs (he1.stp s1.fr.hs s2) hhi g2
  obtain⟨⟨_,_,hz',_⟩,_⟩:=aAU g3
  exact absurd hz' (Nat.lt_irrefl 0)
 ·obtain⟨o,hk,g2⟩:=aBN g1
  rename_i key
  have no:∀ fz sz (xs:List (List V)),(aEc 0 (fun l=>aEc xs.length (fun h=>aEc h (slA 0 key 0 xs.length sz (!fz) xs mx' l h k) mx') hi') lo').run F ⟨e,h1⟩=some r->False:=fun fz sz xs g=>by
    obtain⟨l,φ2,h2,g2,s2,a1,a2,a3⟩:=aAX hfo s1.fr.hs he1 hlo g
    obtain⟨hh,φ3,h3,g3,s3,b1,b2,b3⟩:=aAX hfo s2.fr.hs (he1.stp s1.fr.hs s2) hhi g2
    obtain⟨m,φ4,h4,g4,s4,m1,m2,m3⟩:=aAX hfo s3.fr.hs ((he1.stp s1.fr.hs s2).stp s2.fr.hs s3) hmx g3
    obtain⟨⟨_,c,_⟩,_⟩:=aAU g4
    exact absurd c (Nat.lt_irrefl 0)
  rcases aCI g2 with⟨sz,xs,rfl,g⟩ | ⟨sz,xs,rfl,g⟩
  · exact (no _ _ _ g).elim
  · exact (no _ _ _ g).elim
 ·obtain⟨o,hk,g2⟩:=aBN g1
  rename_i key off len ap
  have no:∀ fz sz (xs:List (List V)),(aEc 0 (fun l=>aEc len (fun h=>aEc h (slA 0 key off len sz (ap&&!fz) xs mx' l h k) mx') hi') lo').run F ⟨e,h1⟩=some r->False:=fun fz sz xs g=>by
    obtain⟨l,φ2,h2,g2,s2,a1,a2,a3⟩:=aAX hfo s1.fr.hs he1 hlo g
    obtain⟨hh,φ3,h3,g3,s3,b1,b2,b3⟩:=aAX hfo s2.fr.hs (he1.stp s1.fr.hs s2) hhi g2
    obtain⟨m,φ4,h4,g4,s4,m1,m2,m3⟩:=aAX hfo s3.fr.hs ((he1.stp s1.fr.hs s2).stp s2.fr.hs s3) hmx g3
    obtain⟨⟨_,c,_⟩,_⟩:=aAU g4
    exact absurd c (Nat.lt_irrefl 0)
  rcases aCI g2 with⟨sz,xs,rfl,g⟩ | ⟨sz,xs,rfl,g⟩
  · exact (no _ _ _ g).elim
  · exact (no _ _ _ g).elim
 ·cases g1
theorem aYK (hfo:∀ f,fo (vm f)=some f)(hs:HS fo φ Im w h)(he:ER fo φ Im w a av e){t1:Option TypeId}{k1 nm:Nat}{x:Operand}{x':Od}(hx:cOd P vm t1 k1 x=some x'){t ty kt et:TypeId}(hu:P.underlying t=some (.map kt et)){k:D->M β}
  (hr:(evO nm k (.ln 2 x')).run F ⟨e,h⟩=some r):Gives P fo φ Im w h e F r (Builtin.len_ #[t] ty #[a.eval x]) k:=by
 obtain⟨d,φ1,h1,g1,s1,r1⟩:=aAH hfo hs he hx hr
 unfold lnO at g1
 split at g1
 ·simp_all
 ·simp_all
 ·obtain⟨o,hk,g2⟩:=aBN g1
  unfold mpK at g2
  split at g2
  · rename_i c es
    obtain⟨g,es',hφ,ev,hg,hrep⟩:=aMO s1.fr.hs hk r1
    refine⟨_,φ1,h1,_,g2,s1,.p _ _ (.i _ _),?_⟩
    rw[ev]
    simp[Builtin.len_,run_underlying hu,MapKept.run_getObj_map hg,Result.andThen,goInt,hrep.1]
  · cases g2
 ·cases g1
theorem aNY (hs:HS fo φ Im w h){nm:Nat}{k:D->M β}{d:D}{v:Value}(hd:RepD fo φ Im w d v)(hr:(aKO nm k d).run F ⟨e,h⟩=some r) :
  ∃ d' φ' h',(k d').run F ⟨e,h'⟩=some r∧Stp fo φ Im w h φ' Im w h'∧RepD fo φ' Im w d' v:=by
 unfold aKO at hr
 split at hr
 ·rename_i key off len
  cases hd with
  | arr _ _ _ _ l ad c hφ q1 q2 q3 q4 q5=>
  obtain⟨o,hk,g2⟩:=aBN hr
  obtain⟨sz,xs,rfl,g3⟩:=aJI g2
  obtain⟨hlen,g4⟩:=aAU g3
  obtain⟨o',hk',g5⟩:=aFf g4
  obtain⟨hn,g6⟩:=aFd g5
  have hne:nm≠key:=fun he=>by subst he;rw[aAV,if_pos rfl]at hn;cases hn
  have hn':lk h nm=none:=by rw[aAV,if_neg (fun q=>hne q.symm)]at hn;exact hn
  obtain⟨l2,p1,p2,p3,p4,p5,p6,p7⟩:=hs.rep _ _ hk
  rw[hφ]at p1;injection p1 with p1;subst p1
  have hc:=q4 rfl
  by_cases hre:l.real=true
  ·have hro:RepOb fo (fun k=>if k=nm then some ⟨l.blk,l.off+off*sz,len,c,sz,decide (c≠0)⟩else φ k) Im w nm (.arr sz (xs.drop off)):=by
    refine⟨⟨l.blk,l.off+off*sz,len,c,sz,decide (c≠0)⟩,if_pos rfl,rfl,?_,q3,?_,?_,?_⟩
    ·rw[List.length_drop];show _=len;omega
    ·intro i hi;rw[List.getElem_drop];exact p5 _ _
    ·intro hh;exact Decidable.byContradiction fun q=>by simp[show c≠0 from q]at hh
    ·intro hh
     obtain⟨cc,ce,z1,z2,z3⟩:=p7 hre
     refine⟨cc,ce,z1,?_,fun i j hi hj=>?_⟩
     ·show l.off+off*sz+c*sz<=cc.size
      have:l.cap*sz=off*sz+c*sz:=by rw[<- hc,Nat.add_mul]
      omega
     ·have hi2:off+i<xs.length:=by rw[List.length_drop]at hi;omega
      have hj':j<xs[off+i].length:=by simpa[List.getElem_drop]using hj
      obtain⟨x,y1,y2⟩:=z3 (off+i) j hi2 hj'
      refine⟨x,?_,?_⟩
      ·rw[<- y1]
       show cc[l.off+off*sz+i*sz+j]? = _
       rw[Nat.add_mul];congr 1;omega
      ·simpa[List.getElem_drop]using y2
   refine⟨.own nm,fun k=>if k=nm then some ⟨l.blk,l.off+off*sz,len,c,sz,decide (c≠0)⟩else φ k,_,g6,aQ7 (l':=⟨l.blk,l.off+off*sz,len,c,sz,decide (c≠0)⟩) hs hk rfl hφ hre hn' rfl (fun _ _=>rfl) rfl rfl rfl rfl hro,?_⟩
   ·have hv:=RepD.own (fo:=fo) (φ:=fun k=>if k=nm then some ⟨l.blk,l.off+off*sz,len,c,sz,decide (c≠0)⟩else φ k) (Im:=Im) (w:=w) nm ⟨l.blk,l.off+off*sz,len,c,sz,decide (c≠0)⟩ ad (if_pos rfl)
    by_cases hc0:c=0
    ·have:len=0:=by omega
     subst hc0 this
     simpa using hv
    ·obtain⟨_,ha⟩:=q5 hc0
     have e:(if (decide (c≠0))=true then Value.slice (some ⟨l.blk,l.off+off*sz,none⟩) len c else .slice ad 0 0)=Value.slice ad len c:=by
      rw[if_pos (decide_eq_true hc0),ha,<- p2]
     exact e▸hv
  ·have hre':l.real=false:=by cases hx:l.real <;> simp_all
   have hcap:=p6 hre'
   have hc0:c=0:=by omega
   have hl0:len=0:=by omega
   subst hc0 hl0
   have hs1:=aNv hs hk
   have hs2:=aGK hs1.fr.hs (sz:=sz) hn
   have hx:xs.drop off=[]:=by rw[List.drop_eq_nil_iff];omega
   rw[hx]at g6
   refine⟨.own nm,_,_,g6,hs1.trans hs2,?_⟩
   exact RepD.own nm ⟨0,0,0,0,sz,false⟩ ad (if_pos rfl)
 ·cases hr
theorem bDl (hfo:∀ f,fo (vm f)=some f)(hs:HS fo φ Im w h)(he:ER fo φ Im w a av e){t1:Option TypeId}{k1 nm nm':Nat}{x:Operand}{x':Od}{lo hi mx:Option Operand}{lo' hi' mx':Option Od}
  (hx:cOd P vm t1 k1 x=some x') (hlo:aPh P vm nm lo=some lo') (hhi:aPh P vm nm hi=some hi') (hmx:aPh P vm nm mx=some mx') (hm:¬((mx.isSome&&hi.isNone)=true)) {t el:TypeId} (ht:P.underlying t=some (.slice el)) (hz:P.cellsOf el≠0) {k:D->M β}
  (hr:(evO nm' k (.sk x' (P.cellsOf el) lo' hi' mx')).run F ⟨e,h⟩=some r):Gives P fo φ Im w h e F r (Instr.sliceAt t (a.eval x) (lo.map a.eval) (hi.map a.eval) (mx.map a.eval)) k:=by
 have hr':(evO nm (aKO nm' k) (.sl x' (P.cellsOf el) lo' hi' mx')).run F ⟨e,h⟩=some r:=hr
 obtain⟨d,φ1,h1,v,g1,s1,r1,hX⟩:=aV8 hfo hs he hx hlo hhi hmx hm ht hz hr'
 obtain⟨d',φ2,h2,g2,s2,r2⟩:=aNY s1.fr.hs r1 g1
 exact⟨d',φ2,h2,v,g2,s1.trans s2,r2,hX⟩
theorem aUj {vmode:Nat->List Nat}{fo':Nat->Option FuncId}{hint:Option (Nat×List Nat)}(hfo:∀ f,fo (vm f)=some f)(hs:HS fo φ Im w h)(he:ER fo φ Im w a av e){o:Oper}{op:O}{nm:Nat}(hc:cOp P vm vmode fo' hint nm o=some op)(hn:(∀ f args tys,o.op≠.call { callee:=.value (.func f),args,argTypes:=tys })∧∀ x args tys,o.op≠.call { callee:=.value (.tmp x),args,argTypes:=tys }){k:D->M β}
  (hr:(evO nm k op).run F ⟨e,h⟩=some r):Good P fo φ Im w h e F r (execOp a.eval o) k:=by
 unfold cOp at hc
 split at hc
 case h_1 | h_2 => 
  rename_i ho
  split at hc
  · split at hc
    ·rename_i p hp
     injection hc with hc;subst hc
     obtain⟨sz,x',hsz,hx,rfl⟩:=aPv hp
     exact Gives.good (by simp[execOp,ho]) (aR9 hfo hs he hsz hx hr)
    ·obtain⟨x',hx,rfl⟩:=Option.map_eq_some_iff.1 hc
     obtain⟨rfl,sz,rfl⟩:=aPT hx
     exact Gives.good (by simp[execOp,ho]) (bCB (a:=a) sz hs hr)
  · obtain⟨x',hx,rfl⟩:=Option.map_eq_some_iff.1 hc
    exact Gives.good (by simp[execOp,ho]) (bBG hfo hs he hx hr)
 case h_3=>
  rename_i ho
  obtain⟨c',h1,hc⟩:=Option.bind_eq_some_iff.1 hc
  obtain⟨a',h2,hc⟩:=Option.bind_eq_some_iff.1 hc
  obtain⟨b',h3,rfl⟩:=Option.map_eq_some_iff.1 hc
  refine Gives.good ?_ (bE6 hfo hs he h1 h2 h3 hr)
  simp only[execOp,ho,Sem.run_bind,Sem.run_pure]
  cases Sem.run P (asBool (a.eval _)) w <;> rfl
 case h_4=>
  rename_i bop bt bx by' byt ho
  unfold bRM at hc
  split at hc
  · obtain⟨a',h1,hc⟩:=Option.bind_eq_some_iff.1 hc
    obtain⟨b',h2,rfl⟩:=Option.map_eq_some_iff.1 hc
    exact Gives.good (by simp only[execOp,ho,Sem.run_bind,Sem.run_pure]) (aTN (t:=bt) hfo hs he h1 h2 hr)
  · obtain⟨a',h1,hc⟩:=Option.bind_eq_some_iff.1 hc
    obtain⟨b',h2,rfl⟩:=Option.map_eq_some_iff.1 hc
    exact Gives.good (by simp only[execOp,ho,Sem.run_bind,Sem.run_pure]) (aTN (t:=bt) hfo hs he h1 h2 hr)
  · rename_i ht
    split at hc
    ·obtain⟨a',h1,hc⟩:=Option.bind_eq_some_iff.1 hc
     obtain⟨b',h2,rfl⟩:=Option.map_eq_some_iff.1 hc
     exact Gives.good (by simp only[execOp,ho,Sem.run_bind,Sem.run_pure];rfl) (aV5 hfo hs he h1 h2 ht hr)
    ·obtain⟨a',h1,hc⟩:=Option.bind_eq_some_iff.1 hc
     obtain⟨b',h2,rfl⟩:=Option.map_eq_some_iff.1 hc
     exact Gives.good (by simp only[execOp,ho,Sem.run_bind,Sem.run_pure];rfl) (aV5 hfo hs he h1 h2 ht hr)
    ·cases hc
  · split at hc
    ·rename_i ht
     split at hc
     ·obtain⟨a',h1,hc⟩:=Option.bind_eq_some_iff.1 hc
      obtain⟨b',h2,rfl⟩:=Option.map_eq_some_iff.1 hc
      exact Gives.good (by simp only[execOp,ho,Sem.run_bind,Sem.run_pure];rfl) (aTA hfo hs he h1 h2 ht hr)
     ·obtain⟨a',h1,hc⟩:=Option.bind_eq_some_iff.1 hc
      obtain⟨b',h2,rfl⟩:=Option.map_eq_some_iff.1 hc
      exact Gives.good (by simp only[execOp,ho,Sem.run_bind,Sem.run_pure];rfl) (aTA hfo hs he h1 h2 ht hr)
     ·cases hc
    ·obtain⟨kind,ht,hc⟩:=Option.bind_eq_some_iff.1 hc
     split at hc
     ·obtain⟨a',h1,rfl⟩:=Option.map_eq_some_iff.1 hc
      exact Gives.good (by simp only[execOp,ho,Sem.run_bind,Sem.run_pure];rfl) (aU0 hfo hs he h1 ht hr)
     ·obtain⟨a',h1,rfl⟩:=Option.map_eq_some_iff.1 hc
      exact Gives.good (by simp only[execOp,ho,Sem.run_bind,Sem.run_pure];rfl) (aU0 hfo hs he h1 ht hr)
     ·cases hc
 case h_5=>
  rename_i ho
  obtain⟨x',hx,rfl⟩:=Option.map_eq_some_iff.1 hc
  exact Gives.good (by simp only[execOp,ho,Sem.run_bind,Sem.run_pure]) (bDm hfo hs he hx hr)
 case h_6=>
  rename_i ho
  obtain⟨n,h1,hc⟩:=Option.bind_eq_some_iff.1 hc
  obtain⟨x',hx,rfl⟩:=Option.map_eq_some_iff.1 hc
  exact Gives.good (by simp only[execOp,ho,Sem.run_bind,Sem.run_pure]) (bEU hfo hs he hx h1 hr)
 case h_7=>
  rename_i ho
  split at hc
  · cases hc
  · obtain⟨n,h1,hc⟩:=Option.bind_eq_some_iff.1 hc
    obtain⟨a',h2,hc⟩:=Option.bind_eq_some_iff.1 hc
    obtain⟨b',h3,rfl⟩:=Option.map_eq_some_iff.1 hc
    exact bFy hfo hs he h2 h3 h1 ho hr
 case h_8=>
  rename_i ho
  split at hc
  · rename_i fs ht
    obtain⟨fl,h1,hc⟩:=Option.bind_eq_some_iff.1 hc
    split at hc
    ·cases hc
    ·rename_i hz
     obtain⟨x',hx,rfl⟩:=Option.map_eq_some_iff.1 hc
     exact Gives.good (by simp only[execOp,ho,Sem.run_bind,Sem.run_pure]) (bFt hfo hs he hx ht h1 hz hr)
  · cases hc
 case h_9=>
  rename_i ho
  split at hc
  · rename_i fs ht
    obtain⟨fl,h1,hc⟩:=Option.bind_eq_some_iff.1 hc
    obtain⟨n,h2,hc⟩:=Option.bind_eq_some_iff.1 hc
    obtain⟨x',hx,rfl⟩:=Option.map_eq_some_iff.1 hc
    exact Gives.good (by simp only[execOp,ho,Sem.run_bind,Sem.run_pure]) (bGm hfo hs he hx ht h1 h2 hr)
  · cases hc
 case h_10=>
  rename_i ho
  split at hc
  · rename_i el ht
    split at hc
    ·cases hc
    ·rename_i hz
     obtain⟨a',h2,hc⟩:=Option.bind_eq_some_iff.1 hc
     obtain⟨b',h3,rfl⟩:=Option.map_eq_some_iff.1 hc
     exact Gives.good (by simp only[execOp,ho,Sem.run_bind,Sem.run_pure]) (bDW hfo hs he h2 h3 ht hz hr)
  · rename_i len el ht
    split at hc
    ·cases hc
    ·rename_i hz
     obtain⟨a',h2,hc⟩:=Option.bind_eq_some_iff.1 hc
     obtain⟨b',h3,rfl⟩:=Option.map_eq_some_iff.1 hc
     exact Gives.good (by simp only[execOp,ho,Sem.run_bind,Sem.run_pure]) (bDw hfo hs he h2 h3 ht hz hr)
  · cases hc
 case h_11=>
  rename_i ho
  split at hc
  · rename_i len el ht
    obtain⟨n,h1,hc⟩:=Option.bind_eq_some_iff.1 hc
    obtain⟨a',h2,hc⟩:=Option.bind_eq_some_iff.1 hc
    obtain⟨b',h3,rfl⟩:=Option.map_eq_some_iff.1 hc
    exact Gives.good (by simp only[execOp,ho,Sem.run_bind,Sem.run_pure]) (bEE hfo hs he h2 h3 ht h1 hr)
  · rename_i ht
    obtain⟨a',h2,hc⟩:=Option.bind_eq_some_iff.1 hc
    obtain⟨b',h3,rfl⟩:=Option.map_eq_some_iff.1 hc
    exact Gives.good (by simp only[execOp,ho,Sem.run_bind,Sem.run_pure]) (bDF hfo hs he h2 h3 ht hr)
  · cases hc
 case h_12=>
  rename_i ho
  obtain⟨x',hx,rfl⟩:=Option.map_eq_some_iff.1 hc
  exact bB8 hfo hs he hx ho hr
 case h_13=>
  rename_i ho
  obtain⟨z,hz,rfl⟩:=Option.map_eq_some_iff.1 hc
  exact bDS hs hz ho hr
 case h_14=>
  rename_i ho
  split at hc
  · rename_i fs ht
    obtain⟨z,h1,hc⟩:=Option.bind_eq_some_iff.1 hc
    obtain⟨places,h2,hc⟩:=Option.bind_eq_some_iff.1 hc
    obtain⟨b',h3,rfl⟩:=Option.map_eq_some_iff.1 hc
    exact aTs hfo hs he h1 ht h2 h3 ho hr
  · rename_i len el ht
    obtain⟨z,h1,hc⟩:=Option.bind_eq_some_iff.1 hc
    obtain⟨ie,h2,hc⟩:=Option.bind_eq_some_iff.1 hc
    obtain⟨b',h3,rfl⟩:=Option.map_eq_some_iff.1 hc
    exact aUJ hfo hs he h1 ht h2 h3 ho hr
  · cases hc
 case h_15=>
  rename_i ho
  split at hc
  · rename_i el ht
    split at hc
    ·cases hc
    ·rename_i hz
     simp only[Bool.or_eq_true,decide_eq_true_eq,not_or]at hz
     obtain⟨z,h1,hc⟩:=Option.bind_eq_some_iff.1 hc
     obtain⟨b',h3,rfl⟩:=Option.map_eq_some_iff.1 hc
     exact bF2 hfo hs he ht hz.1 hz.2 h1 h3 ho hr
  · cases hc
 case h_16=>
  rename_i ho
  split at hc
  · rename_i el ht
    split at hc
    ·cases hc
    ·rename_i hz
     simp only[Bool.or_eq_true,decide_eq_true_eq,not_or]at hz
     obtain⟨z,h1,hc⟩:=Option.bind_eq_some_iff.1 hc
     obtain⟨a',h2,hc⟩:=Option.bind_eq_some_iff.1 hc
     obtain⟨b',h3,rfl⟩:=Option.map_eq_some_iff.1 hc
     exact bEv hfo hs he h2 h3 ht hz.1 hz.2 h1 ho hr
  · cases hc
 case h_17=>
  rename_i ho
  split at hc
  · cases hc
  · rename_i hm
    split at hc
    ·rename_i el ht
     split at hc
     ·cases hc
     ·rename_i hz
      obtain⟨x',h1,hc⟩:=Option.bind_eq_some_iff.1 hc
      obtain⟨lo',h2,hc⟩:=Option.bind_eq_some_iff.1 hc
      obtain⟨hi',h3,hc⟩:=Option.bind_eq_some_iff.1 hc
      obtain⟨mx',h4,rfl⟩:=Option.map_eq_some_iff.1 hc
      by_cases hh:hint.isSome=true
      ·rw[if_pos hh]at hr
       exact Gives.good (by simp only[execOp,ho,Sem.run_bind,Sem.run_pure]) (bDl hfo hs he h1 h2 h3 h4 hm ht hz hr)
      ·rw[if_neg hh]at hr
       exact Gives.good (by simp only[execOp,ho,Sem.run_bind,Sem.run_pure]) (aV8 hfo hs he h1 h2 h3 h4 hm ht hz hr)
    ·rename_i ht
     obtain⟨x',h1,hc⟩:=Option.bind_eq_some_iff.1 hc
     obtain⟨lo',h2,hc⟩:=Option.bind_eq_some_iff.1 hc
     obtain⟨hi',h3,hc⟩:=Option.bind_eq_some_iff.1 hc
     obtain⟨mx',h4,rfl⟩:=Option.map_eq_some_iff.1 hc
     exact Gives.good (by simp only[execOp,ho,Sem.run_bind,Sem.run_pure]) (aX2 hfo hs he h1 h2 h3 h4 ht hr)
    ·cases hc
 case h_18=>
  rename_i ho
  obtain⟨x',hx,rfl⟩:=Option.map_eq_some_iff.1 hc
  exact bDX hfo hs he hx ho hr
 case h_19=>
  rename_i ho
  obtain⟨x',hx,rfl⟩:=Option.map_eq_some_iff.1 hc
  exact Gives.good (by simp only[execOp,ho,Sem.run_bind,Sem.run_pure]) (bBQ hfo hs he hx hr)
 case h_20=>
  rename_i ho
  split at hc
  · rename_i ks kd h1 h2
    obtain⟨x',hx,rfl⟩:=Option.map_eq_some_iff.1 hc
    exact Gives.good (by simp only[execOp,ho,Sem.run_bind,Sem.run_pure]) (bEo hfo hs he hx h1 h2 hr)
  · rename_i el h1 h2
    split at hc
    ·rename_i hu
     obtain⟨x',hx,rfl⟩:=Option.map_eq_some_iff.1 hc
     exact GivesW.good (by simp only[execOp,ho,Sem.run_bind,Sem.run_pure]) (aXY hfo hs he hx h1 h2 (aSR hu) hr)
    ·cases hc
  · rename_i el h1 h2
    split at hc
    ·rename_i hu
     obtain⟨x',hx,rfl⟩:=Option.map_eq_some_iff.1 hc
     exact Gives.good (by simp only[execOp,ho,Sem.run_bind,Sem.run_pure]) (aYl hfo hs he hx h1 h2 (aSR hu.1) hr)
    ·cases hc
  · cases hc
 case h_21=>
  rename_i t ho
  obtain⟨_,_,rfl⟩:=Option.map_eq_some_iff.1 hc
  exact GivesW.good (by simp only[execOp,ho,Sem.run_bind,Sem.run_pure,Option.map_none]) (bF6 (t:=t) hs hr)
 case h_22=>
  rename_i ho
  obtain⟨⟨kd,z⟩,h0,hc⟩:=Option.bind_eq_some_iff.1 hc
  obtain⟨x',h1,hc⟩:=Option.bind_eq_some_iff.1 hc
  obtain⟨i',h2,rfl⟩:=Option.map_eq_some_iff.1 hc
  exact Gives.good (by simp only[execOp,ho,Sem.run_bind,Sem.run_pure]) (bEA hfo hs he h1 h2 h0 hr)
 case h_23=>
  rename_i ho
  split at hc
  · cases hc
  · obtain⟨el,_,hc⟩:=Option.bind_eq_some_iff.1 hc
    obtain⟨⟨kd,z⟩,h0,hc⟩:=Option.bind_eq_some_iff.1 hc
    obtain⟨x',h1,hc⟩:=Option.bind_eq_some_iff.1 hc
    obtain⟨i',h2,hc⟩:=Option.bind_eq_some_iff.1 hc
    obtain⟨v',h3,rfl⟩:=Option.map_eq_some_iff.1 hc
    exact bEw hfo hs he h1 h2 h3 h0 (.inl ho) hr
 case h_24=>
  rename_i ho
  obtain⟨⟨kd,z⟩,h0,hc⟩:=Option.bind_eq_some_iff.1 hc
  obtain⟨x',h1,hc⟩:=Option.bind_eq_some_iff.1 hc
  obtain⟨i',h2,rfl⟩:=Option.map_eq_some_iff.1 hc
  exact GivesW.good (by simp only[execOp,ho,Sem.run_bind,Sem.run_pure]) (bBv hfo hs he h1 h2 h0 hr)
 case h_25=>
  rename_i ho
  split at hc
  · cases hc
  · obtain⟨el,_,hc⟩:=Option.bind_eq_some_iff.1 hc
    obtain⟨⟨kd,z⟩,h0,hc⟩:=Option.bind_eq_some_iff.1 hc
    obtain⟨x',h1,hc⟩:=Option.bind_eq_some_iff.1 hc
    obtain⟨i',h2,hc⟩:=Option.bind_eq_some_iff.1 hc
    obtain⟨v',h3,rfl⟩:=Option.map_eq_some_iff.1 hc
    exact bFS hfo hs he h1 h2 h3 ho hr
 case h_26=>
  rename_i args argTypes ho
  split at hc
  · rename_i x i t ts hx ht
    have e1:args=#[x,i]:=Array.ext' (by simpa using hx)
    have e2:argTypes[0]? = some t:=by rw[<- Array.getElem?_toList,ht];rfl
    subst e1
    obtain⟨⟨kd,z⟩,h0,hc⟩:=Option.bind_eq_some_iff.1 hc
    obtain⟨x',h1,hc⟩:=Option.bind_eq_some_iff.1 hc
    obtain⟨i',h2,rfl⟩:=Option.map_eq_some_iff.1 hc
    exact GivesW.good (by simp[execOp,ho,resolve,invoke,builtin]) (bEg (ty:=o.type) hfo hs he h1 h2 h0 e2 hr)
  · cases hc
 case h_27=>
  rename_i ho
  split at hc
  · rename_i hf
    obtain⟨xs,hx,rfl⟩:=Option.map_eq_some_iff.1 hc
    exact bFC hfo hs he hx hf ho hr
  · cases hc
 case h_28=>
  rename_i args argTypes ho
  split at hc
  · rename_i x t hx ht
    have e1:args=#[x]:=Array.ext' (by simpa using hx)
    have e2:argTypes=#[t]:=Array.ext' (by simpa using ht)
    subst e1 e2
    split at hc
    ·rename_i hu
     obtain⟨x',hx,rfl⟩:=Option.map_eq_some_iff.1 hc
     exact Gives.good (by simp[execOp,ho,resolve,invoke,builtin]) (aYz (ty:=o.type) hfo hs he hx hu hr)
    ·rename_i hu
     obtain⟨x',hx,rfl⟩:=Option.map_eq_some_iff.1 hc
     exact Gives.good (by simp[execOp,ho,resolve,invoke,builtin]) (aX9 (ty:=o.type) hfo hs he hx hu hr)
    ·rename_i hu
     obtain⟨x',hx,rfl⟩:=Option.map_eq_some_iff.1 hc
     exact Gives.good (by simp[execOp,ho,resolve,invoke,builtin]) (aYK (t:=t) (ty:=o.type) hfo hs he hx hu hr)
    ·cases hc
  · cases hc
 case h_29=>
  rename_i args argTypes ho
  split at hc
  · rename_i x y t t' hx ht
    have e1:args=#[x,y]:=Array.ext' (by simpa using hx)
    have e2:argTypes=#[t,t']:=Array.ext' (by simpa using ht)
    subst e1 e2
    split at hc
    ·rename_i el el' hu hu'
     split at hc
     ·cases hc
     ·rename_i hz
      simp only[Bool.or_eq_true,decide_eq_true_eq,not_or]at hz
      obtain⟨⟨z1,z2⟩,z3⟩:=hz
      obtain⟨x',h1,hc⟩:=Option.bind_eq_some_iff.1 hc
      obtain⟨y',h2,rfl⟩:=Option.map_eq_some_iff.1 hc
      split at hr
      ·have hr':(evO nm (slO (P.cellsOf el) none none none k) (.ap (P.cellsOf el) (P.bytesOf el) x' y')).run F ⟨e,h⟩=some r:=hr
       have g:=aUm (ty:=o.type) hfo hs he h1 h2 hu hu' z1 z2 (by cases hzz:aHL P el <;> simp_all) hr'
       obtain⟨d,φ',Im',w',h',v,g1,g2,g3,g4⟩:=g
       obtain⟨d',g5,g6⟩:=aMK g2.fr.hs z1 g3 g1
       exact GivesW.good (by simp[execOp,ho,resolve,invoke,builtin]) ⟨d',φ',Im',w',h',v,g5,g2,g6,g4⟩
      ·exact GivesW.good (by simp[execOp,ho,resolve,invoke,builtin]) (aUm (ty:=o.type) hfo hs he h1 h2 hu hu' z1 z2 (by cases hzz:aHL P el <;> simp_all) hr)
    ·cases hc
  · cases hc
 case h_30=>
  rename_i args argTypes ho
  obtain⟨xs,hx,rfl⟩:=Option.map_eq_some_iff.1 hc
  exact Gives.good (by
    simp only[execOp,ho,resolve,invoke,builtin,Sem.run_bind,Sem.run_pure,Result.andThen_ok,if_true]
    rw[show (List.map a.eval args.toList).toArray=args.map a.eval from Array.ext' (by simp)]) (aVv (mx:=true) (ts:=argTypes) (ty:=o.type) hfo hs he hx hr)
 case h_31=>
  rename_i args argTypes ho
  obtain⟨xs,hx,rfl⟩:=Option.map_eq_some_iff.1 hc
  exact Gives.good (by
    simp only[execOp,ho,resolve,invoke,builtin,Sem.run_bind,Sem.run_pure,Result.andThen_ok,Bool.false_eq_true,if_false]
    rw[show (List.map a.eval args.toList).toArray=args.map a.eval from Array.ext' (by simp)]) (aVv (mx:=false) (ts:=argTypes) (ty:=o.type) hfo hs he hx hr)
 case h_32=>
  rename_i ho
  exact absurd ho (hn.1 _ _ _)
 case h_33=>
  rename_i ho
  exact absurd ho (hn.2 _ _ _)
 case h_34=>cases hc
end
end Am
end Go.Proofs.YtkmbhgggpfbffaaGreatDoor
