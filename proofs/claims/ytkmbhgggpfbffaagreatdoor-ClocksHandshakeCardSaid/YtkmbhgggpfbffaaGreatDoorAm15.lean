/- Structs, slices, closures. -/
import Derived.Test.YtkmbhgggpfbffaaGreatDoorAm14
set_option linter.unusedVariables false
set_option linter.unusedSimpArgs false
set_option linter.constructorNameAsVariable false
namespace Go.Proofs.YtkmbhgggpfbffaaGreatDoor
namespace Am
section
variable {P:Program} {fo:Fo} {vm:FuncId->Nat} {φ:Lay} {Im:Nat->Prop} {w:World} {h:aAR} {a:Act} {av:List Value} {e:Env} {F:Cf} {β:Type} {r:β×St}
def FR (fo:Fo)(φ:Lay)(Im:Nat->Prop)(w:World)(z:V)(x:Value):Option D->Prop
 | some d=>d.one=true∧RepD fo φ Im w d x
 | none=>ZR z x
theorem FR.stp {φ':Lay}{Im':Nat->Prop}{w':World}{h':aAR}{z:V}{x:Value}{c:Option D}(hr:FR fo φ Im w z x c)(hs:HS fo φ Im w h)(s:Stp fo φ Im w h φ' Im' w' h'):FR fo φ' Im' w' z x c:=by
 cases c with
 | none=>exact hr
 | some d=>exact⟨hr.1,hr.2.stp hs s⟩
theorem aHO:∀ (z:List V) (nm:Nat) (cs:List (Option D)) (vs:List Value) {φ:Lay} {h:aAR} {k:List D->M β},HS fo φ Im w h->z.length=vs.length->(∀ i (hi:i<z.length) (hi':i<vs.length) (hc:i<cs.length),FR fo φ Im w z[i] vs[i] cs[i]) ->
  (fillZ nm z cs k).run F ⟨e,h⟩=some r->∃ ds φ' h',(k ds).run F ⟨e,h'⟩=some r∧Stp fo φ Im w h φ' Im w h'∧ds.length=vs.length∧(∀ d,d∈ds->d.one=true)∧∀ i (hi:i<ds.length) (hi':i<vs.length),RepD fo φ' Im w ds[i] vs[i]
 | [],nm,[],vs,φ,h,k,hs,hl,hz,hr=>by
  have:vs=[]:=List.eq_nil_of_length_eq_zero hl.symm
  subst this
  exact⟨[],φ,h,hr,.refl hs,rfl,(fun d hd=>by cases hd),fun i hi=>absurd hi (by simp)⟩
 | [],nm,_ :: _,vs,φ,h,k,hs,hl,hz,hr=>by cases hr
 | v :: z,nm,cs,[],φ,h,k,hs,hl,hz,hr=>by simp at hl
 | v :: z,nm,[],x :: vs,φ,h,k,hs,hl,hz,hr=>by cases v <;> cases hr
 | v :: z,nm,some d :: cs,x :: vs,φ,h,k,hs,hl,hz,hr=>by
  have hz0:=hz 0 (by simp) (by simp) (by simp)
  have hr':(fillZ (nm+1) z cs fun ds=>k (d :: ds)).run F ⟨e,h⟩=some r:=by cases v <;> exact hr
  obtain⟨ds,φ',h',g2,s2,q1,q2,q3⟩:=aHO z (nm+1) cs vs hs (by simpa using hl) (fun i hi hi' hc=>hz (i+1) (by simpa using hi) (by simpa using hi') (by simpa using hc)) hr'
  refine⟨_,φ',h',g2,s2,by simp[q1],fun d' hd=>?_,fun i hi hi'=>?_⟩
  · rcases List.mem_cons.1 hd with rfl | hd
    ·exact hz0.1
    ·exact q2 d' hd
  · cases i with
    | zero=>exact hz0.2.stp hs s2
    | succ i=>exact q3 i (by simpa using hi) (by simpa using hi')
 | v :: z,nm,none :: cs,x :: vs,φ,h,k,hs,hl,hz,hr=>by
  have hz0:ZR v x:=hz 0 (by simp) (by simp) (by simp)
  have hz1:∀ i (hi:i<z.length) (hi':i<vs.length) (hc:i<cs.length),FR fo φ Im w z[i] vs[i] cs[i]:=fun i hi hi' hc=>hz (i+1) (by simpa using hi) (by simpa using hi') (by simpa using hc)
  rcases hz0 with⟨sz,rfl,rfl⟩ | ⟨hns,hrep⟩
  · obtain⟨hn,g1⟩:=aFd hr
    have s1:=aGK (sz:=sz) hs hn
    obtain⟨ds,φ',h',g2,s2,q1,q2,q3⟩:=aHO z (nm+1) cs vs s1.fr.hs (by simpa using hl) (fun i hi hi' hc=>(hz1 i hi hi' hc).stp hs s1) g1
    refine⟨_,φ',h',g2,s1.trans s2,by simp[q1],fun d hd=>?_,fun i hi hi'=>?_⟩
    ·rcases List.mem_cons.1 hd with rfl | hd
     ·rfl
     ·exact q2 d hd
    ·cases i with
     | zero=>exact RepD.own nm ⟨0,0,0,0,sz,false⟩ none (s2.up _ _ (if_pos rfl))
     | succ i=>exact q3 i (by simpa using hi) (by simpa using hi')
  · have hr':(fillZ (nm+1) z cs fun ds=>k (.p v :: ds)).run F ⟨e,h⟩=some r:=by
     cases v <;> first | exact hr | exact absurd rfl (hns _ _)
    obtain⟨ds,φ',h',g2,s2,q1,q2,q3⟩:=aHO z (nm+1) cs vs hs (by simpa using hl) hz1 hr'
    refine⟨_,φ',h',g2,s2,by simp[q1],fun d hd=>?_,fun i hi hi'=>?_⟩
    ·rcases List.mem_cons.1 hd with rfl | hd
     ·rfl
     ·exact q2 d hd
    ·cases i with
     | zero=>exact .p _ _ (hrep _ _ _)
     | succ i=>exact q3 i (by simpa using hi) (by simpa using hi')
theorem aHh (ps:Array (Nat×Operand)):(ps.map fun (i,x)=>(i,a.eval x)).toList=ps.toList.map fun x=>(x.1,a.eval x.2):=by
 rw[Array.toList_map]
theorem aK3 (hfo:∀ f,fo (vm f)=some f)(hs:HS fo φ Im w h)(he:ER fo φ Im w a av e){nm key:Nat}{t:TypeId}{z:List V}(hz:aHL P t=some z){place:Nat->Option (Nat×Nat×TypeId)}{plc:Nat->Option (Nat×Nat)}(hpl:∀ i x,place i=some x->plc i=some (x.1,x.2.1))
  {ps:Array (Nat×Operand)} {ps':List (Nat×Nat×Od)} (hc:aI2 P vm place ps.toList key=some ps')
  (hb:∀ i zv cells,P.info? t=some i->i.zero=some zv->Instr.fill plc zv.cells (ps.toList.map fun x=>(x.1,a.eval x.2))=some cells->P.built t (ps.map fun (i,x)=>(i,a.eval x)).toList=some cells) {o:Oper} (ho:o.op=.build t ps) {k:D->M β}
  (hr:(evO nm k (.bl z ps')).run F ⟨e,h⟩=some r):Good P fo φ Im w h e F r (execOp a.eval o) k:=by
 obtain⟨i,zv,h1,h2,h3,h4,h5⟩:=aIo hz
 obtain⟨ds,φ1,hh,g1,s1,r1⟩:=aIf hfo hpl ps.toList key ps' hc hs he hr
 obtain⟨cs,hcs,g2⟩:=aBO g1
 obtain⟨cells,c1,c2⟩:=aIs (zv:=zv.cells.toList) ds _ (z.map fun _=>none) cs zv.cells r1 ⟨by simp[h4],by simp,fun q d hq=>by simp at hq,fun q hq=>by simp⟩ hcs
 obtain⟨p1,p2,p3,p4⟩:=c2
 obtain⟨ds',φ2,h',g3,s2,q1,q2,q3⟩:=aHO z nm cs cells.toList s1.fr.hs (by rw[h4,p2];simp) (fun q hq hq' hqc=>by
  cases hcq:cs[q]with
  | none=>
    have:=p4 q (by rw[List.getElem?_eq_getElem hqc,hcq])
    have hzq:=h5 q hq (by rw[<- h4];exact hq)
    rw[List.getElem?_eq_getElem (by rw[<- h4];exact hq),Array.getElem?_eq_getElem (by simpa using hq')]at this
    injection this with this
    rw[<- this]at hzq
    show ZR _ _
    simpa using hzq
  | some d=>
    obtain⟨d1,x,d2,d3⟩:=p3 q d (by rw[List.getElem?_eq_getElem hqc,hcq])
    rw[Array.getElem?_eq_getElem (by simpa using hq')]at d2
    injection d2 with d2
    subst d2
    exact⟨d1,by simpa using d3⟩) g2
 refine⟨_,φ2,Im,w,h',.agg cells,g3,s1.trans s2,?_,.inl ?_⟩
 ·have:=RepD.agg (fo:=fo) (φ:=φ2) (Im:=Im) (w:=w) ds' cells.toList q1 q2 q3
  simpa using this
 ·simp only[execOp,ho,Sem.run_bind,run_build w t _ cells (hb i zv cells h1 h2 c1),Result.andThen_ok,Sem.run_pure]
theorem aMx (sz:Nat):∀ (n:Nat) (vs:List V),vs.length=n*sz->(aFA sz n vs).length=n∧(∀ i (hi:i<(aFA sz n vs).length),(aFA sz n vs)[i].length=sz) ∧
  ∀ i j (hi:i<(aFA sz n vs).length) (hj:j<(aFA sz n vs)[i].length),vs[i*sz+j]? = some (aFA sz n vs)[i][j]
 | 0,vs,hl=>⟨rfl,fun i hi=>absurd hi (by simp[aFA]),fun i j hi=>absurd hi (by simp[aFA])⟩
 | n+1,vs,hl=>by
  rw[Nat.add_mul,Nat.one_mul]at hl
  obtain⟨h1,h2,h3⟩:=aMx sz n (vs.drop sz) (by simp;omega)
  refine⟨by simp[aFA,h1],fun i hi=>?_,fun i j hi hj=>?_⟩
  ·cases i with
   | zero=>simp[aFA];omega
   | succ i=>exact h2 i (by simpa[aFA]using hi)
  ·cases i with
   | zero=>
    have hj':j<(vs.take sz).length:=hj
    show vs[0*sz+j]? = some (vs.take sz)[j]
    rw[List.getElem_take,Nat.zero_mul,Nat.zero_add,List.getElem?_eq_getElem]
   | succ i=>
    have:=h3 i j (by simpa[aFA]using hi) hj
    show vs[(i+1)*sz+j]? = some _
    rw[List.getElem?_drop]at this
    rw[Nat.add_mul,Nat.one_mul,show i*sz+sz+j=sz+(i*sz+j)from by omega]
    exact this
theorem aW6 {d:D}{v:Value}(hd:RepD fo φ Im w d v):∃ us:List Value,v.cells=us.toArray∧d.cells.length=us.length∧∀ i (hi:i<d.cells.length) (hi':i<us.length),RepD fo φ Im w d.cells[i] us[i]:=by
 have one:d.cells=[d]->v.cells=#[v]->∃ us:List Value,v.cells=us.toArray∧d.cells.length=us.length∧∀ i (hi:i<d.cells.length) (hi':i<us.length),RepD fo φ Im w d.cells[i] us[i]:=by
  intro h1 h2
  refine⟨[v],h2,by rw[h1];rfl,fun i hi hi'=>?_⟩
  have:i=0:=by simpa using hi'
  subst this
  simpa[h1]using hd
 cases hd with
 | agg xs us hl' ho hr'=>exact⟨us,rfl,hl',hr'⟩
 | p u x hx=>exact one rfl (by have:=hx.one;cases v <;> first | rfl | simp[Value.oneCell']at this)
 | own k2 l a0 hφ=>exact one rfl (by cases l.real <;> rfl)
 | _=>exact one rfl rfl
theorem aKf {place:Nat->Option (Nat×Nat)}:∀ (ps:List (Nat×Nat×D)) (vs:List (Nat×Value)) (cs:List V) (cells:Array Value) {φ:Lay} {Im:Nat->Prop} {h:aAR} {k:List V->M β},HS fo φ Im w h->PR fo φ Im w place ps vs->cs.length=cells.size ->
  ( ∀ i (hi:i<cs.length) (hi':i<cells.size),RepV fo Im w cs[i] cells[i])->(partsV ps cs k).run F ⟨e,h⟩=some r ->
  ∃ cs' cells' Im' h',(k cs').run F ⟨e,h'⟩=some r∧Instr.fill place cells vs=some cells'∧Stp fo φ Im w h φ Im' w h'∧cs'.length=cells'.size∧cells'.size=cells.size∧∀ i (hi:i<cs'.length) (hi':i<cells'.size),RepV fo Im' w cs'[i] cells'[i]
 | [],[],cs,cells,φ,Im,h,k,hs,_,hl,hc,hr=>⟨cs,cells,Im,h,hr,rfl,.refl hs,hl,rfl,hc⟩
 | (off,size,d) :: ps,(i,v) :: t,cs,cells,φ,Im,h,k,hs,⟨h1,h2,h3⟩,hl,hc,hr=>by
  have hone:∀ (us:List Value),v.cells=us.toArray->d.cells.length=us.length->(∀ i (hi:i<d.cells.length) (hi':i<us.length),RepD fo φ Im w d.cells[i] us[i])->∃ cs' cells' Im' h',(k cs').run F ⟨e,h'⟩=some r∧Instr.fill place cells ((i,v) :: t)=some cells'∧Stp fo φ Im w h φ Im' w h'∧cs'.length=cells'.size∧cells'.size=cells.size∧∀ i (hi:i<cs'.length) (hi':i<cells'.size),RepV fo Im' w cs'[i] cells'[i]:=by
     intro us u1 u2 u4
     obtain⟨ws,Im1,hh,g1,s1,w1,w2,_⟩:=aJw 300 d.cells _ φ Im h us hs u2 u4 hr
     obtain⟨⟨p1,p2⟩,g2⟩:=aAU g1
     obtain⟨f1,f2⟩:=aMR off us 0 cells
     have hul:us.length=size:=by rw[<- p1];exact w1.symm
     have hun:Instr.fill place cells ((i,v) :: t)=Instr.fill place ((us.zipIdx 0).foldl (fun cs (c,j)=>cs.setIfInBounds (off+j) c) cells) t:=by
      rw[Instr.fill,h1]
      simp only[u1]
      rw[if_neg (by simp;omega)]
      congr 1
      simp
     have hm:∀ q,(aKo cs off ws)[q]? = if q<off then cs[q]? else if q<off+ws.length then ws[q-off]? else cs[q]? := fun q=>aIO cs ws off q (by omega)
     have hsl:(aKo cs off ws).length=cs.length:=by simp[aKo];omega
     obtain⟨cs',cells',Im',h',e1,e2,e3,e4,e5,e6⟩:=aKf ps t (aKo cs off ws) _ s1.fr.hs (h3.stp hs s1) (by rw[hsl,f1,hl]) (fun q hq hq'=>by
      have m1:=hm q
      have m2:=f2 q (by rw[f1]at hq';exact hq')
      rw[List.getElem?_eq_getElem hq]at m1
      rw[Array.getElem?_eq_getElem hq']at m2
      have hqc:q<cs.length:=by rw[<- hsl];exact hq
      by_cases b1:q<off
      ·rw[if_pos b1,List.getElem?_eq_getElem hqc]at m1
       rw[if_neg (by omega),Array.getElem?_eq_getElem (by omega)]at m2
       injection m1 with m1;injection m2 with m2
       rw[m1,m2]
       exact (hc q hqc (by omega)).stp hs s1
      ·rw[if_neg b1]at m1
       by_cases b2:q<off+ws.length
       ·rw[if_pos b2,List.getElem?_eq_getElem (by omega)]at m1
        rw[if_pos (by omega),List.getElem?_eq_getElem (by omega)]at m2
        injection m1 with m1;injection m2 with m2
        rw[m1,m2]
        simpa using w2 (q-off) (by omega) (by omega)
       ·rw[if_neg b2,List.getElem?_eq_getElem hqc]at m1
        rw[if_neg (by omega),Array.getElem?_eq_getElem (by omega)]at m2
        injection m1 with m1;injection m2 with m2
        rw[m1,m2]
        exact (hc q hqc (by omega)).stp hs s1) g2
     exact⟨cs',cells',Im',h',e1,hun.trans e2,s1.trans e3,e4,e5.trans f1,e6⟩
  obtain⟨us,u1,u2,u3⟩:=aW6 h2
  exact hone us u1 u2 u3
 | [],_ :: _,_,_,_,_,_,_,_,hp,_,_,_=>hp.elim
 | _ :: _,[],_,_,_,_,_,_,_,hp,_,_,_=>hp.elim
theorem aTs (hfo:∀ f,fo (vm f)=some f)(hs:HS fo φ Im w h)(he:ER fo φ Im w a av e){nm key:Nat}{t:TypeId}{z:List V}(hz:aHL P t=some z){fs:Array Field}(ht:P.underlying t=some (.struct fs)){places:List (Nat×Nat)}
  (hpl:(fs.toList.mapM fun f=>(P.info? f.type).map fun i=>(f.offset,i.size))=some places) {ps:Array (Nat×Operand)} {ps':List (Nat×Nat×Od)}
  (hc:aI2 P vm (fun i=>(places.toArray[i]?).bind fun x=>(fs[i]?).map fun f=>(x.1,x.2,f.type)) ps.toList key=some ps') {o:Oper} (ho:o.op=.build t ps) {k:D->M β}
  (hr:(evO nm k (.bl z ps')).run F ⟨e,h⟩=some r):Good P fo φ Im w h e F r (execOp a.eval o) k:=by
 refine aK3 (plc:=(places.toArray[·]?)) hfo hs he hz (fun i x hx=>?_) hc (fun i zv cells h1 h2 h3=>?_) ho hr
 ·obtain⟨y,h1,h2⟩:=Option.bind_eq_some_iff.1 hx
  obtain⟨f,_,rfl⟩:=Option.map_eq_some_iff.1 h2
  exact h1
 ·unfold Program.built
  rw[h1,ht]
  simp only[h2,hpl,aHh]
  exact h3
theorem aUJ (hfo:∀ f,fo (vm f)=some f)(hs:HS fo φ Im w h)(he:ER fo φ Im w a av e){nm key:Nat}{t:TypeId}{z:List V}(hz:aHL P t=some z){len:Nat}{el:TypeId}(ht:P.underlying t=some (.array len el)){ie:TypeInfo}
  (hie:P.info? el=some ie) {ps:Array (Nat×Operand)} {ps':List (Nat×Nat×Od)}
  (hc:aI2 P vm (fun i=>some (i*ie.size,ie.size,el)) ps.toList key=some ps') {o:Oper} (ho:o.op=.build t ps) {k:D->M β}
  (hr:(evO nm k (.bl z ps')).run F ⟨e,h⟩=some r):Good P fo φ Im w h e F r (execOp a.eval o) k:=by
 refine aK3 (plc:=fun i=>some (i*ie.size,ie.size)) hfo hs he hz (fun i x hx=>?_) hc (fun i zv cells h1 h2 h3=>?_) ho hr
 ·injection hx with hx;subst hx;rfl
 ·unfold Program.built
  rw[h1,ht]
  simp only[h2,hie,aHh]
  exact h3
theorem bSE {v:V}{x:Value}(hz:ZR v x):RepV fo Im w v x:=by
 rcases hz with⟨sz,rfl,rfl⟩ | ⟨_,h2⟩
 ·exact .sl sz [] none 0 0 (fun _ _=>undef) rfl (Nat.le_refl _) (fun i hi=>absurd hi (by simp)) (fun hh=>absurd rfl hh) (fun i j hi=>absurd hi (by simp))
 ·exact h2 _ _ _
theorem aV9 {z:List V}{zs:List Value}(hl:z.length=zs.length)(hz:∀ i (hi:i<z.length) (hi':i<zs.length),ZR z[i] zs[i])(n:Nat) :
  ((List.replicate n z).flatten).length=n*zs.length∧∀ q (hq:q<((List.replicate n z).flatten).length),∃ hq2:q%zs.length<zs.length,RepV fo Im w ((List.replicate n z).flatten)[q] zs[q%zs.length]:=by
 have hlen:∀ n,((List.replicate n z).flatten).length=n*zs.length:=by
  intro n;simp[hl]
 refine⟨hlen n,?_⟩
 induction n with
 | zero=>intro q hq;simp at hq
 | succ n ih=>
  intro q hq
  have hq':q<(n+1)*zs.length:=by rw[<- hlen];exact hq
  rw[Nat.add_mul,Nat.one_mul]at hq'
  have hpos:0<zs.length:=by
    rcases Nat.eq_zero_or_pos zs.length with h0 | h0
    ·rw[h0]at hq';simp at hq'
    ·exact h0
  refine⟨Nat.mod_lt _ hpos,?_⟩
  have hcons:(List.replicate (n+1) z).flatten=z++(List.replicate n z).flatten:=by rw[List.replicate_succ,List.flatten_cons]
  by_cases hlt:q<z.length
  · have he:((List.replicate (n+1) z).flatten)[q]=z[q]:=by
     simp only[hcons]
     exact List.getElem_append_left hlt
    rw[he]
    have hm:q%zs.length=q:=Nat.mod_eq_of_lt (by omega)
    simp only[hm]
    exact bSE (hz q hlt (by omega))
  · have hq2:q-z.length<((List.replicate n z).flatten).length:=by rw[hlen];omega
    have he:((List.replicate (n+1) z).flatten)[q]=((List.replicate n z).flatten)[q-z.length]:=by
     simp only[hcons]
     exact List.getElem_append_right (by omega)
    rw[he]
    obtain⟨h1,h2⟩:=ih (q-z.length) hq2
    have hm:q%zs.length=(q-z.length)%zs.length:=by
     rw[Nat.mod_eq_sub_mod (by omega),hl]
    simp only[hm]
    exact h2
theorem bF2 (hfo:∀ f,fo (vm f)=some f)(hs:HS fo φ Im w h)(he:ER fo φ Im w a av e){nm key:Nat}{t el:TypeId}(ht:P.underlying t=some (.slice el)){len:Nat}(hz0:P.cellsOf el≠0)(hsm:¬len*P.cellsOf el>2^24){z:List V}(hz:aHL P el=some z)
  {ps:Array (Nat×Operand)} {ps':List (Nat×Nat×Od)} (hc:aI2 P vm (fun i=>some (i*P.cellsOf el,P.cellsOf el,el)) ps.toList key=some ps') {o:Oper} (ho:o.op=.buildSlice t len ps) {k:D->M β}
  (hr:(evO nm k (.bs (P.cellsOf el) len z ps')).run F ⟨e,h⟩=some r):Good P fo φ Im w h e F r (execOp a.eval o) k:=by
 obtain⟨i,zv,h1,h2,h3,h4,h5⟩:=aIo hz
 have hsz:P.cellsOf el=i.size:=by simp[Program.cellsOf,h1]
 obtain⟨ds,φ1,hh,g1,s1,r1⟩:=aIf (plc:=fun i=>some (i*P.cellsOf el,P.cellsOf el)) hfo (fun i x hx=>by injection hx with hx;subst hx;rfl) ps.toList key ps' hc hs he hr
 have hzl:zv.cells.toList.length=P.cellsOf el:=by simpa using h3
 obtain⟨z1,z2⟩:=aV9 (fo:=fo) (Im:=Im) (w:=w) h4 h5 len
 have hcz:((Array.range (len*P.cellsOf el)).map (zv.cells[· % zv.cells.size]!)).size=len*P.cellsOf el:=by simp
 obtain⟨vs,cells,Im',h',g2,f1,s2,q1,q2,q3⟩:=aKf ds _ _ ((Array.range (len*P.cellsOf el)).map (zv.cells[· % zv.cells.size]!)) s1.fr.hs r1 (by rw[z1,hcz,hzl]) (fun q hq hq'=>by
  obtain⟨m1,m2⟩:=z2 q hq
  have:((Array.range (len*P.cellsOf el)).map (zv.cells[· % zv.cells.size]!))[q]=zv.cells.toList[q%zv.cells.toList.length]:=by
    simp only[Array.getElem_map,Array.getElem_range]
    rw[getElem!_pos zv.cells _ (by simpa using m1)]
    simp
  rw[this]
  exact m2) g1
 obtain⟨hn,g3⟩:=aFd g2
 obtain⟨c1,c2,c3⟩:=aMx (P.cellsOf el) len vs (by rw[q1,q2,hcz])
 have s3:=aNF s2.fr.hs hn (sz:=P.cellsOf el) (cap:=len) (xs:=aFA (P.cellsOf el) len vs) c2 (by omega) (c:=cells) (by rw[q2,hcz];exact Nat.le_refl _) (fun i2 j hi hj=>by
  have:=c3 i2 j hi hj
  obtain⟨hlt,he2⟩:=List.getElem?_eq_some_iff.1 this
  have:=q3 _ hlt (by omega)
  rw[he2]at this
  exact⟨_,Array.getElem?_eq_getElem (by omega),this⟩) el
 refine⟨_,_,_,_,_,.slice (some ⟨w.heap.size,0,none⟩) len len,g3,(s1.trans s2).trans s3,?_,.inl ?_⟩
 ·have:=RepD.own (fo:=fo) (Im:=Im') (w:=w.alloc (.cells cells el)) (φ:=fun k=>if k=nm then some ⟨w.heap.size,0,(aFA (P.cellsOf el) len vs).length,len,P.cellsOf el,true⟩else φ1 k) nm _ none (if_pos rfl)
  simpa[c1]using this
 ·by_cases hp:len*P.cellsOf el=0
  · have hl0:len=0:=by
     rcases Nat.mul_eq_zero.1 hp with h0 | h0
     ·exact h0
     ·exact absurd h0 hz0
    subst hl0
    have hcs:cells=#[]:=Array.eq_empty_of_size_eq_zero (by rw[q2,hcz,Nat.zero_mul])
    subst hcs
    have f1':Instr.fill (fun j=>some (j*i.size,i.size)) #[] (ps.toList.map fun x=>(x.1,a.eval x.2))=some #[]:=by
     have:=f1
     rw[hsz]at this
     simpa[Array.range_zero']using this
    simp only[execOp,ho,Instr.buildSlice]
    simp[run_underlying ht,sizeOf,typeInfo,h1,aHh,f1',newRow,Array.range_zero']
  · rw[hsz]at f1 hsm hp
    simp only[execOp,ho,Sem.run_bind,run_buildSlice w t el len (ps.map fun (i,x)=>(i,a.eval x)) cells i zv ht h1 h2 hsm hp (by rw[aHh];exact f1),Result.andThen_ok,Sem.run_pure]
theorem bEv (hfo:∀ f,fo (vm f)=some f)(hs:HS fo φ Im w h)(he:ER fo φ Im w a av e){t1 t2:Option TypeId}{k1 k2 nm:Nat}{x y:Operand}{x' y':Od}(hx:cOd P vm t1 k1 x=some x')(hy:cOd P vm t2 k2 y=some y'){t el:TypeId}(ht:P.underlying t=some (.slice el))
  (hz0:P.cellsOf el≠0) (hb0:P.bytesOf el≠0) {z:List V} (hz:aHL P el=some z) {o:Oper} (ho:o.op=.makeSlice t x y) {k:D->M β}
  (hr:(evO nm k (.ms (P.cellsOf el) (P.bytesOf el) z x' y')).run F ⟨e,h⟩=some r):Good P fo φ Im w h e F r (execOp a.eval o) k:=by
 obtain⟨i,zv,h1,h2,h3,h4,h5⟩:=aIo hz
 have hsz:P.cellsOf el=i.size:=by simp[Program.cellsOf,h1]
 have hby:P.bytesOf el=i.bytes:=by simp[Program.bytesOf,h1]
 obtain⟨kd1,n,φ1,hh1,g1,s1,e1⟩:=vlI hfo hs he hx hr
 obtain⟨kd2,c,φ2,hh2,g2,s2,e2⟩:=vlI hfo s1.fr.hs (he.stp hs s1) hy g1
 obtain⟨⟨n0,n1,n2⟩,g3⟩:=aAU g2
 obtain⟨hn,g4⟩:=aFd g3
 unfold aJm at n2
 have hc63:c.toNat<=140737488355328:=by
  have:c.toNat<=c.toNat*P.bytesOf el:=Nat.le_mul_of_pos_right _ (by omega)
  omega
 have hcs:(madeCells zv.cells (c.toNat*i.size)).size=c.toNat*i.size:=by simp[madeCells]
 have hzl:zv.cells.size=i.size:=by rw[h3,hsz]
 have s3:=aNF s2.fr.hs hn (sz:=P.cellsOf el) (cap:=c.toNat) (xs:=List.replicate n.toNat z) (fun j hj=>by simp only[List.getElem_replicate];rw[h4];simpa using h3) (by simp;omega) (c:=madeCells zv.cells (c.toNat*i.size)) (by rw[hcs,hsz];exact Nat.le_refl _) (fun i2 j hi hj=>by
  simp only[List.length_replicate]at hi
  simp only[List.getElem_replicate]at hj ⊢
  have hj2:j<i.size:=by rw[<- hzl];rw[h4]at hj;simpa using hj
  have hlt:i2*i.size+j<c.toNat*i.size:=by
    have:(i2+1)*i.size<=c.toNat*i.size:=Nat.mul_le_mul_right _ (by omega)
    rw[Nat.add_mul,Nat.one_mul]at this
    omega
  refine⟨zv.cells.toList[j]'(by rw[<- h4];exact hj),?_,bSE (h5 j hj _)⟩
  rw[hsz,Array.getElem?_eq_getElem (by rw[hcs];exact hlt)]
  simp only[madeCells,Array.getElem_map,Array.getElem_range]
  have hmod:(i2*i.size+j)%zv.cells.size=j:=by
    rw[hzl,Nat.mul_comm,Nat.mul_add_mod,Nat.mod_eq_of_lt hj2]
  rw[hmod,getElem!_pos zv.cells j (by rw[hzl];exact hj2)]
  simp) el
 refine⟨_,_,_,_,_,.slice (some ⟨w.heap.size,0,none⟩) n.toNat c.toNat,g4,(s1.trans s2).trans s3,?_,.inl ?_⟩
 ·have:=RepD.own (fo:=fo) (Im:=Im) (w:=w.alloc (.cells (madeCells zv.cells (c.toNat*i.size)) el)) (φ:=fun k=>if k=nm then some ⟨w.heap.size,0,(List.replicate n.toNat z).length,c.toNat,P.cellsOf el,true⟩else φ2 k) nm _ none (if_pos rfl)
  simpa using this
 ·have hrun:=run_make (P:=P) w t el i zv ht h1 h2 kd1 kd2 n c n0 n1 (by
    rw[hby]at n2
    have hcc:(c:Int)=(c.toNat:Int):=by omega
    rw[hcc,<- Int.natCast_mul,Nat.mul_comm]
    omega) (by omega)
  simp only[execOp,ho,e1,e2,Sem.run_bind,hrun,Result.andThen_ok,Sem.run_pure]
theorem aOz:∀ {ds:List D} {vs:List V},aZk ds=some vs->ds=vs.map .p
 | [],vs,hp=>by injection hp with hp;subst hp;rfl
 | d :: ds,vs,hp=>by
  unfold aZk at hp
  split at hp
  ·cases ‹_=[]›
  ·rename_i u r heq
   injection heq with e1 e2
   subst e1 e2
   obtain⟨us,h1,rfl⟩:=Option.map_eq_some_iff.1 hp
   rw[aOz h1];rfl
  ·cases hp
theorem bFC (hfo:∀ f,fo (vm f)=some f)(hs:HS fo φ Im w h)(he:ER fo φ Im w a av e){nm key:Nat}{caps:Array Operand}{caps':List Od}(hc:aRV P vm (caps.toList.map fun x=>(x,none)) key=some caps'){f:FuncId}{first:Array Operand}(hf:first.size=0){o:Oper}(ho:o.op=.makeFunc (.func f) first caps){k:D->M β}
  (hr:(evO nm k (.mf (vm f) caps')).run F ⟨e,h⟩=some r):Good P fo φ Im w h e F r (execOp a.eval o) k:=by
 obtain⟨ds,φ1,h1,g1,s1,hl,r1⟩:=aJx hfo _ _ _ hc hs he hr
 have hfe:first=#[]:=Array.eq_empty_of_size_eq_zero hf
 have hrun:(execOp a.eval o).run P w=.ok (.value (.func (.func f) #[] (caps.toList.map a.eval).toArray)) w:=by
  simp[execOp,ho,Instr.makeFunc,hfe]
  apply Array.ext'
  simp
 unfold mfO at g1
 split at g1
 ·rename_i vs hvs
  have:=aOz hvs
  subst this
  refine⟨_,φ1,Im,w,h1,_,g1,s1,.p _ _ (.fn (vm f) f vs (caps.toList.map a.eval) (hfo f) (by simpa using hl) (fun i hi hi'=>?_)),.inl hrun⟩
  have:=r1 i (by simpa using hi) (by simpa using hi')
  simp only[List.getElem_map]at this ⊢
  exact this.p_inv
 ·refine⟨_,φ1,Im,w,h1,_,g1,s1,.fn (vm f) f ds (caps.toList.map a.eval) (hfo f) (by simpa using hl) (fun i hi hi'=>?_),.inl hrun⟩
  have:=r1 i hi (by simpa using hi')
  simpa using this
end
end Am
end Go.Proofs.YtkmbhgggpfbffaaGreatDoor
