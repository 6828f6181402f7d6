/- Operations that write: stores, append. -/
import Derived.Test.YtkmbhgggpfbffaaGreatDoorAm10
set_option linter.unusedVariables false
set_option linter.unusedSimpArgs false
set_option linter.constructorNameAsVariable false
namespace Go.Proofs.YtkmbhgggpfbffaaGreatDoor
namespace Am
section
variable {P:Program} {fo:Fo} {vm:FuncId->Nat} {φ:Lay} {Im:Nat->Prop} {w:World} {h:aAR} {a:Act} {av:List Value} {e:Env} {F:Cf} {β:Type} {r:β×St}
theorem aJi (hs:HS fo φ Im w h){key:Nat}{o o':Ob}(hk:lk h key=some o)(hm:o.mut=true){l:RL}(hφ:φ key=some l)(hre:l.real=true){w':World}
  (hw:∀ g,g≠l.blk->w'.heap[g]? = w.heap[g]?) (hsz:w'.heap.size=w.heap.size) (hos:w'.os=w.os) (htape:w'.tape=w.tape) (cBc:w'.output=w.output)
  (ho:RepOb fo φ Im w' key o'):Stp fo φ Im w h φ Im w' ((key,o') :: h):=by
 have hown:Own φ h l.blk:=⟨key,o,l,hk,hm,hφ,hre,rfl⟩
 have hni:∀ g,Im g->g≠l.blk:=fun g hg he=>hs.imm _ hown (he▸hg)
 refine⟨⟨hs.update (fun _ _ h=>h) (fun _ _=>rfl) (fun _ h=>h) (fun g hg=>hw g (hni g hg)) (fun k' o2 l' hne h1 h2 h3 h4=>hw _ (hs.sep k' key o2 o l' l h1 hk h2 hm h3 hφ h4 hre hne)) ho ?_ ?_ (fun g hg=>by rw[hsz];exact hs.imb g hg),fun _ h=>h,fun g _ hno=>hw g (fun he=>hno (he▸hown)),?_,fun _ h=>.inl h,by omega,hos,htape,cBc⟩,fun _ _ h=>h⟩
 ·intro l' hl' hmm hr
  rw[hφ]at hl';injection hl' with hl';subst hl'
  exact⟨hs.imm _ hown,fun k' o2 l2 hne h1 h2 h3 h4=>hs.sep k' key o2 o l2 l h1 hk h2 hm h3 hφ h4 hre hne⟩
 ·intro k' o2 l' hne h1 h2 h3 h4
  exact hs.imm _ ⟨k',o2,l',h1,h2,h3,h4,rfl⟩
 ·rintro g ⟨k',o2,l',h1,h2,h3,h4,rfl⟩
  rw[aAV]at h1
  split at h1
  · rename_i he;subst he
    rw[hφ]at h3;injection h3 with h3;subst h3
    exact .inl hown
  · exact .inl ⟨k',o2,l',h1,h2,h3,h4,rfl⟩
theorem aQ7 (hs:HS fo φ Im w h){key nm:Nat}{o o':Ob}(hk:lk h key=some o)(hm:o.mut=true){l l':RL}(hφ:φ key=some l)(hre:l.real=true)(hn:lk h nm=none)(hb:l'.blk=l.blk){w':World}
  (hw:∀ g,g≠l.blk->w'.heap[g]? = w.heap[g]?) (hsz:w'.heap.size=w.heap.size) (hos:w'.os=w.os) (htape:w'.tape=w.tape) (cBc:w'.output=w.output)
  (ho:RepOb fo (fun k=>if k=nm then some l' else φ k) Im w' nm o'):Stp fo φ Im w h (fun k=>if k=nm then some l' else φ k) Im w' ((nm,o') :: (key,.dead) :: h):=by
 have hne:nm≠key:=fun he=>by subst he;rw[hk]at hn;cases hn
 have hown:Own φ h l.blk:=⟨key,o,l,hk,hm,hφ,hre,rfl⟩
 have hni:∀ g,Im g->g≠l.blk:=fun g hg he=>hs.imm _ hown (he▸hg)
 have hup:∀ k l2,φ k=some l2->(if k=nm then some l' else φ k)=some l2:=by
  intro k l2 hl2
  by_cases e:k=nm
  · subst e;rw[hs.dom k hn]at hl2;cases hl2
  · rw[if_neg e];exact hl2
 have hs1:HS fo φ Im w ((key,.dead) :: h):=hs.update (fun _ _ h=>h) (fun _ _=>rfl) (fun _ h=>h) (fun _ _=>rfl) (fun _ _ _ _ _ _ _ _=>rfl) trivial (fun _ _ hmm=>by cases hmm)
  (fun k' o2 l2 _ h1 h2 h3 h4=>hs.imm _ ⟨k',o2,l2,h1,h2,h3,h4,rfl⟩) hs.imb
 have hd:∀ k' o2,lk ((key,Ob.dead) :: h) k'=some o2->o2.mut=true->k'≠key∧lk h k'=some o2:=by
  intro k' o2 h1 h2
  rw[aAV]at h1
  split at h1
  · injection h1 with h1;subst h1;cases h2
  · rename_i he;exact⟨fun x=>he x.symm,h1⟩
 refine⟨⟨hs1.update (φ':=fun k=>if k=nm then some l' else φ k) hup (fun k' e=>if_neg e) (fun _ h=>h) (fun g hg=>hw g (hni g hg)) ?_ ho ?_ ?_ (fun g hg=>by rw[hsz];exact hs.imb g hg),fun _ h=>h,fun g _ hno=>hw g (fun he=>hno (he▸hown)),?_,fun _ h=>.inl h,by omega,hos,htape,cBc⟩,hup⟩
 ·intro k' o2 l2 _ h1 h2 h3 h4
  obtain⟨hne',h1'⟩:=hd k' o2 h1 h2
  exact hw _ (hs.sep k' key o2 o l2 l h1' hk h2 hm h3 hφ h4 hre hne')
 ·intro l2 hl2 hmm hr
  rw[if_pos rfl]at hl2;injection hl2 with hl2;subst hl2
  refine⟨by rw[hb];exact hs.imm _ hown,fun k' o2 l3 _ h1 h2 h3 h4=>?_⟩
  obtain⟨hne',h1'⟩:=hd k' o2 h1 h2
  rw[hb]
  exact hs.sep k' key o2 o l3 l h1' hk h2 hm h3 hφ h4 hre hne'
 ·intro k' o2 l2 _ h1 h2 h3 h4
  obtain⟨hne',h1'⟩:=hd k' o2 h1 h2
  exact hs.imm _ ⟨k',o2,l2,h1',h2,h3,h4,rfl⟩
 ·rintro g ⟨k',o2,l2,h1,h2,h3,h4,rfl⟩
  rw[aAV]at h1
  by_cases e:nm=k'
  · subst e
    simp only[if_true]at h3
    injection h3 with h3
    subst h3
    rw[hb];exact .inl hown
  · rw[if_neg e]at h1
    simp only[if_neg (fun x=>e x.symm:¬k'=nm)]at h3
    obtain⟨_,h1'⟩:=hd k' o2 h1 h2
    exact .inl ⟨k',o2,l2,h1',h2,h3,h4,rfl⟩
theorem aNv (hs:HS fo φ Im w h){key:Nat}{o:Ob}(hk:lk h key=some o):Stp fo φ Im w h φ Im w ((key,.dead) :: h):=by
 refine⟨⟨hs.update (fun _ _ h=>h) (fun _ _=>rfl) (fun _ h=>h) (fun _ _=>rfl) (fun _ _ _ _ _ _ _ _=>rfl) trivial (fun _ _ hmm=>by cases hmm)
  (fun k' o2 l2 _ h1 h2 h3 h4=>hs.imm _ ⟨k',o2,l2,h1,h2,h3,h4,rfl⟩) hs.imb,fun _ h=>h,fun _ _ _=>rfl,?_,fun _ h=>.inl h,Nat.le_refl _,rfl,rfl,rfl⟩,fun _ _ h=>h⟩
 rintro g ⟨k',o2,l2,h1,h2,h3,h4,rfl⟩
 rw[aAV]at h1
 split at h1
 ·injection h1 with h1;subst h1;cases h2
 ·exact .inl ⟨k',o2,l2,h1,h2,h3,h4,rfl⟩
theorem aDT (w:World)(g:Nat)(cs:Array Value){k:Nat}(hk:k≠g):(w.setRow g cs).heap[k]? = w.heap[k]? := by
 unfold World.setRow
 simp only[Array.getElem?_modify]
 rw[if_neg (fun e=>hk e.symm)]
theorem aHM (w:World)(g:Nat)(cs:Array Value):(w.setRow g cs).heap.size=w.heap.size:=by simp[World.setRow]
theorem aIO {α:Type}(c news:List α)(p q:Nat)(hp:p+news.length<=c.length) :
  (c.take p++news++c.drop (p+news.length))[q]? = if q<p then c[q]? else if q<p+news.length then news[q-p]? else c[q]? := by
 have hl:(c.take p).length=p:=by simp;omega
 by_cases h1:q<p
 ·rw[if_pos h1,List.append_assoc,List.getElem?_append_left (by omega),List.getElem?_take_of_lt h1]
 ·rw[if_neg h1]
  by_cases h2:q<p+news.length
  · rw[if_pos h2,List.getElem?_append_left (by simp;omega),List.getElem?_append_right (by omega),hl]
  · rw[if_neg h2,List.getElem?_append_right (by simp;omega),List.getElem?_drop]
    congr 1
    simp
    omega
theorem aVa (hs:HS fo φ Im w h){key off:Nat}{cs:List D}(hk:lk h key=some (.box cs))(ho:off<cs.length){d:D}(hd1:d.one=true){v:Value}(hd:RepD fo φ Im w d v){l:RL}(hφ:φ key=some l) :
  ∃ w',(store ⟨l.blk,l.off+off,none⟩ v).run P w=.ok () w'∧Stp fo φ Im w h φ Im w' ((key,.box (cs.set off d)) :: h):=by
 obtain⟨g,el,vs,h1,h2,h3,h4,h5⟩:=hs.rep key _ hk
 rw[h1]at hφ;injection hφ with hφ;subst hφ
 have hv:off<vs.length:=by omega
 have hcell:w.cell? ⟨g,off,none⟩=some vs[off]:=by simp[World.cell?,h2,List.getElem?_eq_getElem hv]
 have hfro:w.frozen? ⟨g,off,none⟩=false:=by simp[World.frozen?,h2]
 refine⟨w.setRow g (vs.set off v).toArray,?_,?_⟩
 ·show (store ⟨g,0+off,none⟩ v).run P w=_
  rw[Nat.zero_add,run_store P w _ v _ (hd.one hd1),hcell]
  simp only[hfro,Bool.false_eq_true,if_false]
  rw[setCell_eq_setRow w g off vs.toArray el (0,0) v h2]
  simp
 ·have hni:∀ g',Im g'->(w.setRow g (vs.set off v).toArray).heap[g']? = w.heap[g']? := fun g' hg=>aDT w g _ (fun he=>hs.imm _ ⟨key,_,_,hk,rfl,h1,rfl,rfl⟩ (he▸hg))
  refine aJi hs hk rfl h1 rfl (fun g' hg=>aDT w g _ hg) (aHM w g _) rfl rfl rfl ⟨g,el,vs.set off v,h1,setRow_heap w g _ _ el _ h2,by simp[h3],fun x hx=>?_,fun i hi hi'=>?_⟩
  ·rcases List.mem_or_eq_of_mem_set hx with hx | hx
   ·exact h4 x hx
   ·rw[hx];exact hd1
  ·by_cases he:off=i
   ·subst he
    simp only[List.getElem_set_self]
    exact hd.mono (fun _ _ h=>h) (fun _ h=>h) hni
   ·simp only[List.getElem_set_ne he]
    exact (h5 i (by simpa using hi) (by simpa using hi')).mono (fun _ _ h=>h) (fun _ h=>h) hni
theorem aPk {m:M β}{l:RL}{key:Nat}:∀ (xs:List D) (off i:Nat) (vs:List Value) (h:aAR) (w:World),HS fo φ Im w h->φ key=some l->xs.length=vs.length ->
  (∀ i (hi:i<xs.length) (hi':i<vs.length),RepD fo φ Im w xs[i] vs[i])->(aWb key (off+i) xs m).run F ⟨e,h⟩=some r ->
  ∃ w' h',(storeCells ⟨l.blk,l.off+off,none⟩ vs i).run P w=.ok () w'∧m.run F ⟨e,h'⟩=some r∧Stp fo φ Im w h φ Im w' h':=by
 intro xs
 induction xs with
 | nil=>
  intro off i vs h w hs hφ hl hrep hr
  have:vs=[]:=by cases vs with | nil=>rfl | cons _ _=>simp at hl
  subst this
  exact⟨w,h,rfl,hr,.refl hs⟩
 | cons d xs ih=>
  intro off i vs h w hs hφ hl hrep hr
  cases vs with
  | nil=>simp at hl
  | cons v vs=>
    obtain⟨o,h1,h2⟩:=Option.bind_eq_some_iff.1 hr
    obtain⟨o',h3,h4⟩:=Option.bind_eq_some_iff.1 h2
    unfold aHR at h3
    split at h3
    ·rename_i cs off' d'
     split at h3
     ·rename_i hlt
      split at h3
      ·rename_i hone
       injection h3 with h3;subst h3
       obtain⟨w1,e1,s1⟩:=aVa (P:=P) hs h1 hlt hone (hrep 0 (by simp) (by simp)) hφ
       obtain⟨w2,h2',e2,g2,s2⟩:=ih off (i+1) vs _ w1 s1.fr.hs hφ (by simpa using hl) (fun j hj hj'=>(hrep (j+1) (by simpa using hj) (by simpa using hj')).stp hs s1) (by rw[<- Nat.add_assoc];exact h4)
       refine⟨w2,h2',?_,g2,s1.trans s2⟩
       simp only[storeCells,Sem.run_bind]
       rw[aHc,Nat.add_assoc,List.getElem_cons_zero]at *
       rw[e1]
       simp only[Result.andThen_ok]
       exact e2
      ·cases h3
     ·cases h3
    ·cases h3
theorem aWF {n:Option Nat}{x:D}{v:Value}(hd:RepD fo φ Im w x v){xs:List D}(hx:stX n x=some xs){t:TypeId}(ht:aIW P t=some n) :
  ∃ vs:List Value,v.cells=vs.toArray∧xs.length=vs.length∧(∀ x,x∈xs->x.one=true)∧(∀ i (hi:i<xs.length) (hi':i<vs.length),RepD fo φ Im w xs[i] vs[i])∧(sizeOf t).run P w=.ok xs.length w:=by
 obtain⟨hA,hS,hS'⟩:=aIc ht w
 have one:∀ d,d.one=true->RepD fo φ Im w d v->xs=[d]->n=none->∃ vs:List Value,v.cells=vs.toArray∧xs.length=vs.length∧(∀ x,x∈xs->x.one=true)∧(∀ i (hi:i<xs.length) (hi':i<vs.length),RepD fo φ Im w xs[i] vs[i])∧(sizeOf t).run P w=.ok xs.length w:=by
  intro d h1 rd h2 h3
  subst h2 h3
  have hv:=rd.one h1
  refine⟨[v],by cases v <;> first | rfl | (simp[Value.oneCell']at hv),rfl,fun x hx=>by simp at hx;subst hx;exact h1,fun i hi hi'=>?_,by simpa using hS⟩
  have:i=0:=by simpa using hi'
  subst this;exact rd
 unfold stX at hx
 split at hx
 ·cases hx
 ·cases hx
 ·cases hx
 ·rename_i d h1 h2 h3
  injection hx with hx
  refine one x ?_ hd hx.symm rfl
  cases x <;> first | rfl | (exact absurd rfl (h1 _)) | (exact absurd rfl (h2 _)) | exact absurd rfl h3
 ·rename_i m xs'
  split at hx
  ·rename_i hm
   injection hx with hx;subst hx
   cases hd with
   | agg _ vs hl ho hr=>exact⟨vs,rfl,hl,ho,hr,by rw[hm];simpa using hS⟩
  ·cases hx
 ·cases hx
theorem bFy (hfo:∀ f,fo (vm f)=some f)(hs:HS fo φ Im w h)(he:ER fo φ Im w a av e){t1 t2:Option TypeId}{k1 k2 nm:Nat}{x y:Operand}{x' y':Od}(hx:cOd P vm t1 k1 x=some x')(hy:cOd P vm t2 k2 y=some y'){t:TypeId}{n:Option Nat}(ht:aIW P t=some n){o:Oper}(ho:o.op=.store t x y){k:D->M β}
  (hr:(evO nm k (.st n x' y')).run F ⟨e,h⟩=some r):Good P fo φ Im w h e F r (execOp a.eval o) k:=by
 obtain⟨d,φ1,h1,g1,s1,r1⟩:=aAH hfo hs he hx hr
 obtain⟨d2,φ2,h2,g2,s2,r2⟩:=aAH hfo s1.fr.hs (he.stp hs s1) hy g1
 have r1':=r1.stp s1.fr.hs s2
 obtain⟨xs,hxs,g3⟩:=aBO g2
 obtain⟨vs,c1,c2,c3,c4,c5⟩:=aWF r2 hxs ht
 have hrun:∀ (ad:Addr) (w':World),a.eval x=.pointer (some ad)->(storeCells ad vs).run P w=.ok () w'->(execOp a.eval o).run P w=.ok .skip w':=by
  intro ad w' hv hst
  simp[execOp,ho,Instr.storeAt,hv,Instr.sureAddr,storeVar,c5,c1,c2,hst]
 generalize hv:a.eval x=vx at r1'
 unfold stC at g3
 split at g3
 ·rename_i key off
  obtain⟨l,hφ,rfl⟩:=r1'.ptr_inv
  · skip
    obtain⟨w',h',q1,q2,q3⟩:=aPk (P:=P) (l:=l) xs off 0 vs h2 w s2.fr.hs hφ c2 c4 g3
    exact⟨_,_,_,w',h',undef,q2,(s1.trans s2).trans q3,.und,.inr ⟨hrun _ w' hv q1,rfl⟩⟩
 ·rename_i key i off
  obtain⟨us,Im3,h3,g4,s3,hl3,r3,f3⟩:=aJw 300 xs _ φ2 Im h2 vs s2.fr.hs c2 c4 g3
  obtain⟨ob,hk,g5⟩:=aBN g4
  cases r1' with
  | ep _ _ _ l hφ hi hre=>
    unfold stE at g5
    split at g5
    ·rename_i sz es
     obtain⟨cs,hcs,g6⟩:=aBO g5
     obtain⟨hle,g7⟩:=aAU g6
     obtain⟨_,_,g8⟩:=aFf g7
     obtain⟨hlt,hcs⟩:=List.getElem?_eq_some_iff.1 hcs
     subst hcs
     have hrp:=s3.fr.hs.rep key _ hk
     obtain⟨l',p1,p2,p3,p4,p5,p6,p7⟩:=hrp
     have hl':l'=l:=by have:=s3.up _ _ hφ;rw[this]at p1;injection p1 with p1;exact p1.symm
     subst hl'
     obtain⟨c,el,b1,b2,b3⟩:=p7 hre
     have hcap:i*sz+sz<=l'.cap*sz:=by
      have:i+1<=l'.cap:=by omega
      calc i*sz+sz=(i+1)*sz:=by rw[Nat.add_mul,Nat.one_mul]
       _<=l'.cap*sz:=Nat.mul_le_mul_right _ this
     have hw5:=p5 i hlt
     have hfit:(l'.off+i*l'.sz+off)+vs.length<=c.size:=by rw[p2,<- hl3];omega
     have hst:=run_storeCells_at P l'.blk (l'.off+i*l'.sz+off) el vs 0 c w b1 (by simpa using hfit) (fun v hv=>by
      obtain⟨j,hj,rfl⟩:=List.getElem_of_mem hv
      exact (r3 j (by omega) hj).one)
     rw[Nat.add_zero]at hst
     generalize hc':(c.toList.take (l'.off+i*l'.sz+off)++vs++c.toList.drop (l'.off+i*l'.sz+off+vs.length)).toArray=c' at hst
     have hget:∀ q,c'[q]? = if q<l'.off+i*l'.sz+off then c[q]? else if q<l'.off+i*l'.sz+off+vs.length then vs[q-(l'.off+i*l'.sz+off)]? else c[q]? := by
      intro q
      rw[<- hc',List.getElem?_toArray,aIO _ _ _ _ (by simpa using hfit)]
      simp
     have hown:Own φ2 h3 l'.blk:=⟨key,_,l',hk,rfl,s3.up _ _ hφ,hre,rfl⟩
     have hni:∀ g',Im3 g'->(w.setRow l'.blk c').heap[g']? = w.heap[g']? := fun g' hg=>aDT w _ _ (fun he=>s3.fr.hs.imm _ hown (he▸hg))
     have hsz':c.size<=c'.size:=by
      rw[<- hc'];simp;omega
     have s4:=aJi s3.fr.hs (o':=.arr sz (es.set i (aKo es[i] off us))) hk rfl (s3.up _ _ hφ) hre (w':=w.setRow l'.blk c') (fun g' hg=>aDT w _ _ hg) (aHM w _ _) rfl rfl rfl
      ⟨l',s3.up _ _ hφ,p2,by simpa using p3,p4,fun j hj=>by
       by_cases he:i=j
       ·subst he;simp[aKo];omega
       ·rw[List.getElem_set_ne he];exact p5 j (by simpa using hj),p6,fun _=>⟨c',el,setRow_heap w _ _ _ el _ b1,by omega,fun i2 j hi2 hj=>by
       have hi2':i2<es.length:=by simpa using hi2
       have hw2:=p5 i2 hi2'
       by_cases he:i=i2
       ·subst he
        simp only[List.getElem_set_self]at hj ⊢
        have hj2:j<sz:=by simp[aKo]at hj;omega
        have hs1:(aKo es[i] off us)[j]? = if j<off then es[i][j]? else if j<off+us.length then us[j-off]? else es[i][j]? := aIO _ _ _ _ (by omega)
        rw[List.getElem?_eq_getElem hj]at hs1
        rw[hget]
        by_cases h1:j<off
        ·rw[if_pos h1,List.getElem?_eq_getElem (by omega)]at hs1
         injection hs1 with hs1
         rw[if_pos (by rw[p2];omega),hs1]
         obtain⟨x,q1,q2⟩:=b3 i j hi2' (by omega)
         exact⟨x,q1,q2.mono (fun _ h=>h) hni⟩
        ·rw[if_neg h1]at hs1
         by_cases h2':j<off+us.length
         ·rw[if_pos h2',List.getElem?_eq_getElem (by omega)]at hs1
          injection hs1 with hs1
          rw[if_neg (by rw[p2];omega),if_pos (by rw[p2];omega),hs1]
          refine⟨vs[j-off]'(by omega),?_,(r3 (j-off) (by omega) (by omega)).mono (fun _ h=>h) hni⟩
          rw[<- List.getElem?_eq_getElem]
          congr 1
          rw[p2];omega
         ·rw[if_neg h2',List.getElem?_eq_getElem (by omega)]at hs1
          injection hs1 with hs1
          rw[if_neg (by rw[p2];omega),if_neg (by rw[p2];omega),hs1]
          obtain⟨x,q1,q2⟩:=b3 i j hi2' (by omega)
          exact⟨x,q1,q2.mono (fun _ h=>h) hni⟩
       ·simp only[List.getElem_set_ne he]at hj ⊢
        obtain⟨x,q1,q2⟩:=b3 i2 j hi2' hj
        refine⟨x,?_,q2.mono (fun _ h=>h) hni⟩
        rw[hget,<- q1]
        rcases Nat.lt_or_gt_of_ne he with hlt2 | hgt
        ·have:(i+1)*sz<=i2*sz:=Nat.mul_le_mul_right _ hlt2
         rw[Nat.add_mul,Nat.one_mul]at this
         rw[if_neg (by rw[p2];omega),if_neg (by rw[p2];omega)]
        ·have:(i2+1)*sz<=i*sz:=Nat.mul_le_mul_right _ hgt
         rw[Nat.add_mul,Nat.one_mul]at this
         rw[if_pos (by rw[p2];omega)]⟩⟩
     exact⟨_,_,_,_,_,undef,g8,((s1.trans s2).trans s3).trans s4,.und,.inr ⟨hrun _ _ hv hst,rfl⟩⟩
    ·cases g5
 ·cases g3
end
end Am
end Go.Proofs.YtkmbhgggpfbffaaGreatDoor
