/- append; new variables, structs, slices. -/
import Derived.Test.YtkmbhgggpfbffaaGreatDoorAm11
import Derived.Laws.AppendOwn
import Derived.Deep.Upon
set_option linter.unusedVariables false
set_option linter.unusedSimpArgs false
set_option linter.constructorNameAsVariable false
namespace Go.Proofs.YtkmbhgggpfbffaaGreatDoor
namespace Am
section
variable {P:Program} {fo:Fo} {vm:FuncId->Nat} {φ:Lay} {Im:Nat->Prop} {w:World} {h:aAR} {a:Act} {av:List Value} {e:Env} {F:Cf} {β:Type} {r:β×St}
theorem aQM {n sz t:Nat}(h:t<n*sz):t/sz<n∧t%sz<sz∧t/sz*sz+t%sz=t:=by
 have hsz:0<sz:=by
  rcases Nat.eq_zero_or_pos sz with h0 | h0
  ·subst h0;simp at h
  ·exact h0
 exact⟨(Nat.div_lt_iff_lt_mul hsz).2 h,Nat.mod_lt _ hsz,Nat.div_add_mod' t sz⟩
theorem aMv {sz:Nat}{ys:List (List V)}(hy:∀ i (hi:i<ys.length),ys[i].length=sz){g o:Nat}
  (hr:∀ i j (hi:i<ys.length) (hj:j<ys[i].length),∃ x,w.cell? ⟨g,o+i*sz+j,none⟩=some x∧RepV fo Im w ys[i][j] x) :
  ∃ news:List Value,news.length=ys.length*sz∧(∀ t u,news[t]? = some u->w.cell? ⟨g,o+t,none⟩=some u)∧(∀ u,u∈news->u.oneCell'=true) ∧
    ∀ i j (hi:i<ys.length) (hj:j<ys[i].length),∃ x,news[i*sz+j]? = some x∧RepV fo Im w ys[i][j] x:=by
 have hv:∀ t:Nat,∃ x,∀ (hi:t/sz<ys.length) (hj:t%sz<ys[t/sz].length),w.cell? ⟨g,o+(t/sz)*sz+t%sz,none⟩=some x∧RepV fo Im w ys[t/sz][t%sz] x:=by
  intro t
  by_cases hi:t/sz<ys.length
  · by_cases hj:t%sz<ys[t/sz].length
    ·obtain⟨x,q⟩:=hr _ _ hi hj;exact⟨x,fun _ _=>q⟩
    ·exact⟨undef,fun _ h=>absurd h hj⟩
  · exact⟨undef,fun h=>absurd h hi⟩
 refine⟨(List.range (ys.length*sz)).map fun t=>Classical.choose (hv t),by simp,fun t u ht=>?_,fun u hu=>?_,fun i j hi hj=>?_⟩
 ·obtain⟨hlt,he⟩:=List.getElem?_eq_some_iff.1 ht
  simp only[List.length_map,List.length_range]at hlt
  simp only[List.getElem_map,List.getElem_range]at he
  obtain⟨h1,h2,h3⟩:=aQM hlt
  have:=(Classical.choose_spec (hv t) h1 (by rw[hy _ h1];exact h2)).1
  rw[he]at this
  rw[<- this]
  congr 2
  omega
 ·obtain⟨t,ht,rfl⟩:=List.mem_map.1 hu
  obtain⟨h1,h2,h3⟩:=aQM (List.mem_range.1 ht)
  exact (Classical.choose_spec (hv t) h1 (by rw[hy _ h1];exact h2)).2.one
 ·have hj':j<sz:=by rw[<- hy i hi];exact hj
  have hlt:i*sz+j<ys.length*sz:=by
    calc i*sz+j<i*sz+sz:=by omega
     _=(i+1)*sz:=by rw[Nat.add_mul,Nat.one_mul]
     _<=ys.length*sz:=Nat.mul_le_mul_right _ hi
  have hd:(i*sz+j)/sz=i:=by
    rw[Nat.mul_comm,Nat.mul_add_div (by omega),Nat.div_eq_of_lt hj',Nat.add_zero]
  have hm:(i*sz+j)%sz=j:=by
    rw[Nat.mul_comm,Nat.mul_add_mod,Nat.mod_eq_of_lt hj']
  refine⟨Classical.choose (hv (i*sz+j)),by simp[List.getElem?_range hlt],?_⟩
  have hcs:=Classical.choose_spec (hv (i*sz+j))
  generalize Classical.choose (hv (i*sz+j))=x at hcs
  simp only[hd,hm]at hcs
  exact (hcs hi hj).2
theorem bI2 {tx el':TypeId}(hk:P.underlying tx=some (.slice el')){sz:Nat}{ys:List (List V)}{ad:Option Addr}{c:Nat}(hy:∀ i (hi:i<ys.length),ys[i].length=sz)
  (hne:ys≠[]->∃ g o,ad=some ⟨g,o,none⟩∧∀ i j (hi:i<ys.length) (hj:j<ys[i].length),∃ x,w.cell? ⟨g,o+i*sz+j,none⟩=some x∧RepV fo Im w ys[i][j] x) :
  ∃ news:List Value,Src P sz tx (.slice ad ys.length c) ys.length news w∧news.length=ys.length*sz∧(∀ u,u∈news->u.oneCell'=true)∧∀ i j (hi:i<ys.length) (hj:j<ys[i].length),∃ x,news[i*sz+j]? = some x∧RepV fo Im w ys[i][j] x:=by
 by_cases h0:ys=[]
 ·subst h0
  refine⟨[],?_,by simp,by simp,fun i j hi=>absurd hi (by simp)⟩
  cases ad with
  | none=>exact Src.ofNil w hk c
  | some ad=>exact Src.ofSlice w hk ad 0 c [] (by simp) (by simp) (by simp)
 ·obtain⟨g,o,rfl,hr⟩:=hne h0
  obtain⟨news,h1,h2,h3,h4⟩:=aMv hy hr
  exact⟨news,Src.ofSlice w hk ⟨g,o,none⟩ ys.length c news h1 (fun j u hj=>by rw[aHc];exact h2 j u hj) h3,h1,h3,h4⟩
theorem aLH {t tx ty el:TypeId}{i:TypeInfo}(ht:P.underlying t=some (.slice el))(hi:P.info? el=some i){b off sLen sCap n:Nat}{x:Value}{news:List Value}(hs:Src P i.size tx x n news w)(hroom:sLen+n<=sCap)
  {c:Array Value} {et:TypeId} (hb:w.heap[b]? = some (.cells c et (0,0))) (hfit:off+sLen*i.size+news.length<=c.size) :
  (Builtin.append_ #[t,tx] ty #[.slice (some ⟨b,off,none⟩) sLen sCap,x]).run P w =
    .ok (.slice (some ⟨b,off,none⟩) (sLen+n) sCap) (w.setRow b (c.toList.take (off+sLen*i.size)++news++c.toList.drop (off+sLen*i.size+news.length)).toArray):=by
 have hst:=run_storeCells_at P b (off+sLen*i.size) et news 0 c w hb (by simpa using hfit) hs.one
 simp only[Nat.add_zero]at hst
 rcases hs.kind with⟨e',hk⟩ | hk <;> simp[Builtin.append_,run_underlying ht,run_underlying hk,sizeOf,typeInfo,hi,hs.len,hroom,hs.cells,Addr.add_lit,hst]
theorem aKS (hs:HS fo φ Im w h){t tx ty el el':TypeId}(ht:P.underlying t=some (.slice el))(htx:P.underlying tx=some (.slice el'))(hz:P.cellsOf el≠0)(hb0:P.bytesOf el≠0)(hzero:(aHL P el).isSome=true)
  {key nm:Nat} {xs:List (List V)} (hk:lk h key=some (.arr (P.cellsOf el) xs)) {l:RL} (hφ:φ key=some l) (hn:lk h nm=none) {off len c:Nat} {ad:Option Addr} (hlen:off+len=xs.length) (hcap:off+c=l.cap) (hle:len<=c) (had:c≠0->l.real=true∧ad=some ⟨l.blk,l.off+off*l.sz,none⟩)
  {ys:List (List V)} (hy:∀ i (hi:i<ys.length),ys[i].length=P.cellsOf el) {x:Value} {news:List Value} (hsrc:Src P (P.cellsOf el) tx x ys.length news w) (hnl:news.length=ys.length*P.cellsOf el)
  (hnr:∀ i j (hi:i<ys.length) (hj:j<ys[i].length),∃ v,news[i*P.cellsOf el+j]? = some v∧RepV fo Im w ys[i][j] v) (hroomy:aJm (xs.length+ys.length) (P.bytesOf el)) :
  ∃ v w' φ',(Builtin.append_ #[t,tx] ty #[.slice ad len c,x]).run P w=.ok v w'∧Stp fo φ Im w h φ' Im w' ((nm,.arr (P.cellsOf el) (xs.drop off++ys)) :: (key,.dead) :: h)∧RepD fo φ' Im w' (.own nm) v:=by
 obtain⟨i,hi,hsz⟩:=aIi hz
 have hbytes:P.bytesOf el=i.bytes:=by simp[Program.bytesOf,hi]
 obtain⟨zc,hzc⟩:=Option.isSome_iff_exists.1 hzero
 have hzv:∃ z,i.zero=some z∧z.cells.size=P.cellsOf el:=by
  unfold aHL at hzc
  simp only[Option.bind_eq_some_iff]at hzc
  obtain⟨z,_,h2⟩:=hzc
  split at h2
  · rename_i v hv
    split at h2
    ·rename_i hmm
     simp only[Bool.and_eq_true,beq_iff_eq]at hmm
     refine⟨v,by simpa[hi]using hv,?_⟩
     have:∀ (a:List V) (b:List Value),aHn a b=true->a.length=b.length:=by
      intro a
      induction a with
      | nil=>intro b hb;cases b with | nil=>rfl | cons _ _=>simp[aHn]at hb
      | cons x a ih=>intro b hb;cases b with | nil=>simp[aHn]at hb | cons y b=>simp only[aHn,Bool.and_eq_true]at hb;simp[ih b hb.2]
     have h3:=this _ _ hmm.1
     rw[<- hmm.2,h3];simp
    ·cases h2
  · cases h2
 obtain⟨z,hz1,hz2⟩:=hzv
 obtain⟨l',q1,q2,q3,q4,q5,q6,q7⟩:=hs.rep key _ hk
 rw[hφ]at q1;injection q1 with q1;subst q1
 have hxy:∀ i (hi:i<(xs.drop off++ys).length),(xs.drop off++ys)[i].length=P.cellsOf el:=by
  intro i hi
  rw[List.getElem_append]
  split
  · rw[List.getElem_drop];exact q5 _ _
  · exact hy _ _
 have hdl:(xs.drop off).length=len:=by simp;omega
 have hkill:=aNv hs hk
 have hn2:lk ((key,Ob.dead) :: h) nm=none:=by
  rw[aAV,if_neg (fun hh=>?_)]
  · exact hn
  · rw[hh]at hk;rw[hk]at hn;cases hn
 by_cases hroom:len+ys.length<=c
 ·by_cases hc0:c=0
  · have hlen0:len=0:=by omega
    have hys:ys=[]:=List.eq_nil_of_length_eq_zero (by omega)
    subst hys hlen0 hc0
    have hxd:xs.drop off=[]:=List.eq_nil_of_length_eq_zero hdl
    have hnw:news=[]:=List.eq_nil_of_length_eq_zero (by simpa using hnl)
    subst hnw
    rw[hxd]
    exact⟨_,_,_,run_append_nothing w t tx ty el i ht hi ad 0 0 (Nat.le_refl _) x (by rw[hsz]at hsrc;simpa using hsrc),hkill.trans (aGK hkill.fr.hs hn2),.own nm ⟨0,0,0,0,P.cellsOf el,false⟩ ad (if_pos rfl)⟩
  · obtain⟨hre,rfl⟩:=had hc0
    obtain⟨cc,et,b1,b2,b3⟩:=q7 hre
    have hcapsz:(off+len+ys.length)*P.cellsOf el<=l.cap*P.cellsOf el:=Nat.mul_le_mul_right _ (by omega)
    have hfit:l.off+off*l.sz+len*i.size+news.length<=cc.size:=by
     rw[hnl,q2,<- hsz]
     rw[Nat.add_mul,Nat.add_mul]at hcapsz
     omega
    have hrun:=aLH (P:=P) (ty:=ty) ht hi (b:=l.blk) (off:=l.off+off*l.sz) (sLen:=len) (sCap:=c) (n:=ys.length) (hsz▸hsrc) hroom b1 hfit
    generalize hc':(cc.toList.take (l.off+off*l.sz+len*i.size)++news++cc.toList.drop (l.off+off*l.sz+len*i.size+news.length)).toArray=c' at hrun
    have hget:∀ q,c'[q]? = if q<l.off+off*l.sz+len*i.size then cc[q]? else if q<l.off+off*l.sz+len*i.size+news.length then news[q-(l.off+off*l.sz+len*i.size)]? else cc[q]? := by
     intro q
     rw[<- hc',List.getElem?_toArray,aIO _ _ _ _ (by simpa using hfit)]
     simp
    have hsz':cc.size<=c'.size:=by rw[<- hc'];simp;omega
    have hown:Own φ h l.blk:=⟨key,_,l,hk,rfl,hφ,hre,rfl⟩
    have hni:∀ g',Im g'->(w.setRow l.blk c').heap[g']? = w.heap[g']? := fun g' hg=>aDT w _ _ (fun he=>hs.imm _ hown (he▸hg))
    refine⟨_,_,_,hrun,aQ7 hs (o':=.arr (P.cellsOf el) (xs.drop off++ys)) hk rfl (l':=⟨l.blk,l.off+off*l.sz,len+ys.length,c,P.cellsOf el,true⟩) hφ hre hn rfl (fun g' hg=>aDT w _ _ hg) (aHM w _ _) rfl rfl rfl
     ⟨_,if_pos rfl,rfl,by simp;omega,hroom,hxy,(fun hh=>by cases hh),fun _=>⟨c',et,setRow_heap w _ _ _ et _ b1,?_,fun i2 j hi2 hj=>?_⟩⟩,?_⟩
    ·have:(off+c)*P.cellsOf el=l.cap*P.cellsOf el:=by rw[hcap]
     rw[Nat.add_mul]at this
     show l.off+off*l.sz+c*P.cellsOf el<=c'.size
     rw[q2];omega
    ·have hw2:=hxy i2 hi2
     show ∃ x,c'[l.off+off*l.sz+i2*P.cellsOf el+j]? = some x∧_
     rw[hget]
     by_cases hlt:i2<len
     ·have hb2:(i2+1)*P.cellsOf el<=len*P.cellsOf el:=Nat.mul_le_mul_right _ hlt
      rw[Nat.add_mul,Nat.one_mul]at hb2
      rw[if_pos (by rw[<- hsz];omega)]
      have hi3:off+i2<xs.length:=by omega
      have hxe:(xs.drop off++ys)[i2]=xs[off+i2]:=by
       rw[List.getElem_append_left (by rw[hdl];exact hlt),List.getElem_drop]
      obtain⟨x,e1,e2⟩:=b3 (off+i2) j hi3 (by rw[<- hxe];exact hj)
      refine⟨x,?_,by simp only[hxe];exact e2.mono (fun _ h=>h) hni⟩
      rw[<- e1,q2,Nat.add_mul]
      congr 1
      omega
     ·have hi3:i2-len<ys.length:=by simp only[List.length_append,hdl]at hi2;omega
      have hxe:(xs.drop off++ys)[i2]=ys[i2-len]:=by
       rw[List.getElem_append_right (by rw[hdl];omega)]
       simp only[hdl]
      obtain⟨x,e1,e2⟩:=hnr (i2-len) j hi3 (by rw[<- hxe];exact hj)
      have hj':j<P.cellsOf el:=by rw[<- hw2];exact hj
      have hi4:len*P.cellsOf el+(i2-len)*P.cellsOf el=i2*P.cellsOf el:=by rw[<- Nat.add_mul];congr 1;omega
      have hlt2:(i2-len)*P.cellsOf el+j<news.length:=(List.getElem?_eq_some_iff.1 e1).1
      refine⟨x,?_,by simp only[hxe];exact e2.mono (fun _ h=>h) hni⟩
      rw[if_neg (by rw[<- hsz];omega),if_pos (by rw[<- hsz];omega),<- e1]
      congr 1
      rw[<- hsz];omega
    ·exact RepD.own nm ⟨l.blk,l.off+off*l.sz,len+ys.length,c,P.cellsOf el,true⟩ none (if_pos rfl)
 ·have hg:c<len+ys.length:=by omega
  have hle2:len+ys.length<=xs.length+ys.length:=by omega
  have hneed:(len+ys.length)*i.bytes<=140737488355328:=Nat.le_trans (Nat.mul_le_mul_right _ hle2) (hbytes▸hroomy)
  have h63:((len+ys.length:Nat):Int)<=9223372036854775807:=by
    have:len+ys.length<=(len+ys.length)*i.bytes:=Nat.le_mul_of_pos_right _ (by rw[<- hbytes];omega)
    omega
  have holds:∃ olds:List Value,olds.length=len*P.cellsOf el∧(∀ t u,olds[t]? = some u->len≠0∧w.cell? ⟨l.blk,l.off+off*l.sz+t,none⟩=some u) ∧
     ∀ i j (hi:i<(xs.drop off).length) (hj:j<(xs.drop off)[i].length),∃ x,olds[i*P.cellsOf el+j]? = some x∧RepV fo Im w (xs.drop off)[i][j] x:=by
    by_cases hl0:len=0
    ·refine⟨[],by simp[hl0],fun t u ht=>by simp at ht,fun i j hi=>?_⟩
     exact absurd hi (by rw[hdl];omega)
    ·obtain⟨hre,_⟩:=had (by omega)
     obtain⟨cc,et,b1,b2,b3⟩:=q7 hre
     obtain⟨olds,o1,o2,o3,o4⟩:=aMv (fo:=fo) (Im:=Im) (w:=w) (sz:=P.cellsOf el) (ys:=xs.drop off) (fun i hi=>by rw[List.getElem_drop];exact q5 _ _) (g:=l.blk) (o:=l.off+off*l.sz) (fun i j hi hj=>by
      simp only[List.getElem_drop]at hj ⊢
      obtain⟨x,e1,e2⟩:=b3 (off+i) j (by rw[List.length_drop]at hi;omega) hj
      refine⟨x,?_,e2⟩
      simp only[World.cell?,b1]
      rw[show l.off+off*l.sz+i*P.cellsOf el+j=l.off+(off+i)*P.cellsOf el+j from by rw[q2,Nat.add_mul];omega]
      exact e1)
     exact⟨olds,by rw[o1,hdl],fun t u ht=>⟨hl0,o2 t u ht⟩,o4⟩
  obtain⟨olds,o1,o2,o3⟩:=holds
  have hold:(Builtin.firstCells i.size len (.slice ad len c)).run P w.drew=.ok olds.toArray w.drew:=by
    by_cases hl0:len=0
    ·have:olds=[]:=List.eq_nil_of_length_eq_zero (by rw[o1,hl0,Nat.zero_mul])
     subst this hl0
     cases ad with
     | none=>exact run_firstCells_none w.drew i.size 0 0 c
     | some ad=>exact run_firstCells_some w.drew i.size 0 ad 0 c [] (by simp) (by simp)
    ·obtain⟨_,rfl⟩:=had (by omega)
     exact run_firstCells_some w.drew i.size len _ len c olds (by rw[o1,hsz]) (fun j u hj=>by rw[aHc];simpa using (o2 j u hj).2)
  have hrun:=run_append_grow_src (P:=P) w t tx ty el i z ht hi hz1 ad len c olds hold x ys.length news (hsz▸hsrc) hg h63 (growslice_fits hg hneed)
  have hge:=grownCap_ge w (len+ys.length) c el
  generalize hcap2:grownCap w (len+ys.length) c el=cap2 at hrun hge
  have hdrew:Stp fo φ Im w h φ Im w.drew h:=by
    have hcell:∀ g:Nat,w.drew.heap[g]? = w.heap[g]? := fun _=>rfl
    have hsd:HS fo φ Im w.drew h:=⟨fun k o hk=>(hs.rep k o hk).keep (fun _ _ h=>h) (fun _ h=>h) (fun _ _=>rfl) (fun _ _ _ _=>rfl),hs.sep,hs.imm,hs.imb,hs.dom,hs.tb⟩
    exact⟨⟨hsd,fun _ h=>h,fun _ _ _=>rfl,fun _ h=>.inl h,fun _ h=>.inl h,Nat.le_refl _,rfl,rfl,rfl⟩,fun _ _ h=>h⟩
  have hk1:=hdrew.trans (aNv hdrew.fr.hs hk)
  have hlx:(xs.drop off++ys).length=len+ys.length:=by rw[List.length_append,hdl]
  have hzl:∀ n,(Builtin.zeroCells z.cells n).size=n*P.cellsOf el:=by
    intro n
    simp[Builtin.zeroCells,hz2]
  have s3:=aNF hk1.fr.hs hn2 (sz:=P.cellsOf el) (cap:=cap2) (xs:=xs.drop off++ys) hxy (by omega) (c:=(olds++news).toArray++Builtin.zeroCells z.cells (cap2-(len+ys.length))) (by
    rw[Array.size_append,hzl]
    simp only[List.size_toArray,List.length_append,o1,hnl]
    rw[<- Nat.add_mul,<- Nat.add_mul]
    exact Nat.mul_le_mul_right _ (by omega)) (fun i2 j hi2 hj=>by
    have hw2:=hxy i2 hi2
    have hj':j<P.cellsOf el:=by rw[<- hw2];exact hj
    by_cases hlt:i2<len
    ·have hxe:(xs.drop off++ys)[i2]=(xs.drop off)[i2]'(by omega):=List.getElem_append_left (by rw[hdl];exact hlt)
     obtain⟨x,e1,e2⟩:=o3 i2 j (by omega) (by rw[<- hxe];exact hj)
     have hb2:i2*P.cellsOf el+j<olds.length:=(List.getElem?_eq_some_iff.1 e1).1
     refine⟨x,?_,by simp only[hxe];exact e2.mono (fun _ h=>h) (fun _ _=>rfl)⟩
     rw[Array.getElem?_append_left (by simp;omega),List.getElem?_toArray,List.getElem?_append_left hb2]
     exact e1
    ·have hi3:i2-len<ys.length:=by omega
     have hxe:(xs.drop off++ys)[i2]=ys[i2-len]:=by
      rw[List.getElem_append_right (by rw[hdl];omega)]
      simp only[hdl]
     obtain⟨x,e1,e2⟩:=hnr (i2-len) j hi3 (by rw[<- hxe];exact hj)
     have hi4:len*P.cellsOf el+(i2-len)*P.cellsOf el=i2*P.cellsOf el:=by rw[<- Nat.add_mul];congr 1;omega
     have hb2:(i2-len)*P.cellsOf el+j<news.length:=(List.getElem?_eq_some_iff.1 e1).1
     refine⟨x,?_,by simp only[hxe];exact e2.mono (fun _ h=>h) (fun _ _=>rfl)⟩
     rw[Array.getElem?_append_left (by simp;omega),List.getElem?_toArray,List.getElem?_append_right (by omega),<- e1]
     congr 1
     omega) el
  refine⟨_,_,_,hrun,hk1.trans s3,?_⟩
  have:=RepD.own (fo:=fo) (Im:=Im) (w:=w.drew.alloc (.cells ((olds++news).toArray++Builtin.zeroCells z.cells (cap2-(len+ys.length))) el)) (φ:=fun k=>if k=nm then some ⟨w.drew.heap.size,0,(xs.drop off++ys).length,cap2,P.cellsOf el,true⟩else φ k) nm _ none (if_pos rfl)
  simpa[hlx]using this
end
end Am
end Go.Proofs.YtkmbhgggpfbffaaGreatDoor
