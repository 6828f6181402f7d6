/- append, joined. -/
import Derived.Test.YtkmbhgggpfbffaaGreatDoorAm12
set_option linter.unusedVariables false
set_option linter.unusedSimpArgs false
set_option linter.constructorNameAsVariable false
namespace Go.Proofs.YtkmbhgggpfbffaaGreatDoor
namespace Am
section
variable (P:Program) (fo:Fo) (φ:Lay) (Im:Nat->Prop) (w:World) (h:aAR) (e:Env) (F:Cf) {β:Type} (r:β×St)
def GivesW (X:Sem Value)(k:D->M β):Prop:=∃ d φ' Im' w' h' v,(k d).run F ⟨e,h'⟩=some r∧Stp fo φ Im w h φ' Im' w' h'∧RepD fo φ' Im' w' d v∧X.run P w=.ok v w'
end
section
variable {P:Program} {fo:Fo} {vm:FuncId->Nat} {φ:Lay} {Im:Nat->Prop} {w:World} {h:aAR} {a:Act} {av:List Value} {e:Env} {F:Cf} {β:Type} {r:β×St}
theorem GivesW.good {X:Sem Value}{Y:Sem Next}{k:D->M β}(hY:Y.run P w=(X.run P w).andThen fun v w'=>.ok (.value v) w')(g:GivesW P fo φ Im w h e F r X k):Good P fo φ Im w h e F r Y k:=by
 obtain⟨d,φ',Im',w',h',v,h1,h2,h3,h4⟩:=g
 exact⟨d,φ',Im',w',h',v,h1,h2,h3,.inl (by rw[hY,h4];rfl)⟩
theorem Gives.toW {X:Sem Value}{k:D->M β}(g:Gives P fo φ Im w h e F r X k):GivesW P fo φ Im w h e F r X k:=by
 obtain⟨d,φ',h',v,h1,h2,h3,h4⟩:=g
 exact⟨d,φ',Im,w,h',v,h1,h2,h3,h4⟩
theorem aTD (hs:HS fo φ Im w h){h':aAR}(hh:∀ k,lk h' k=lk h k):Stp fo φ Im w h φ Im w h':=
 ⟨⟨⟨fun k o hk=>hs.rep k o (by rw[<- hh];exact hk),fun k k' o o' l l' h1 h2=>hs.sep k k' o o' l l' (by rw[<- hh];exact h1) (by rw[<- hh];exact h2),
  fun g ⟨k,o,l,h1,h2,h3,h4,h5⟩=>hs.imm g ⟨k,o,l,by rw[<- hh];exact h1,h2,h3,h4,h5⟩,hs.imb,(fun k hk=>hs.dom k (by rw[<- hh];exact hk)),hs.tb⟩,
  fun _ h=>h,fun _ _ _=>rfl,fun g ⟨k,o,l,h1,h2,h3,h4,h5⟩=>.inl ⟨k,o,l,by rw[<- hh];exact h1,h2,h3,h4,h5⟩,fun _ h=>.inl h,Nat.le_refl _,rfl,rfl,rfl⟩,fun _ _ h=>h⟩
theorem aJI {k:Nat->List (List V)->M β}{o:Ob}{s:St}(hr:(aNx k o).run F s=some r):∃ sz xs,o=.arr sz xs∧(k sz xs).run F s=some r:=by
 unfold aNx at hr;split at hr
 ·exact⟨_,_,rfl,hr⟩
 ·cases hr
theorem aSt (hs:HS fo φ Im w h){t tx ty el el':TypeId}(ht:P.underlying t=some (.slice el))(hz:P.cellsOf el≠0)
  {key:Nat} {xs:List (List V)} (hk:lk h key=some (.arr (P.cellsOf el) xs)) {l:RL} (hφ:φ key=some l) {off len c:Nat} {ad:Option Addr} (hle:len<=c) (hcap:off+c=l.cap) (had:c≠0->l.real=true∧ad=some ⟨l.blk,l.off+off*l.sz,none⟩)
  {ys:List (List V)} (hy:∀ i (hi:i<ys.length),ys[i].length=P.cellsOf el) {x:Value} {news:List Value} (hsrc:Src P (P.cellsOf el) tx x ys.length news w) (hnl:news.length=ys.length*P.cellsOf el)
  (hnr:∀ i j (hi:i<ys.length) (hj:j<ys[i].length),∃ v,news[i*P.cellsOf el+j]? = some v∧RepV fo Im w ys[i][j] v) (hin:off+len+ys.length<=xs.length) :
  ∃ w' c' ,(Builtin.append_ #[t,tx] ty #[.slice ad len c,x]).run P w=.ok (.slice ad (len+ys.length) c) w'∧Stp fo φ Im w h φ Im w' ((key,.arr (P.cellsOf el) (xs.take (off+len)++ys++xs.drop (off+len+ys.length))) :: h) ∧
    len+ys.length<=c∧c'=c:=by
 obtain⟨i,hi,hsz⟩:=aIi hz
 obtain⟨l',q1,q2,q3,q4,q5,q6,q7⟩:=hs.rep key _ hk
 rw[hφ]at q1;injection q1 with q1;subst q1
 have hroom:len+ys.length<=c:=by omega
 by_cases hys:ys=[]
 ·subst hys
  have hnw:news=[]:=List.eq_nil_of_length_eq_zero (by simpa using hnl)
  subst hnw
  refine⟨w,c,run_append_nothing w t tx ty el i ht hi ad len c hle x (by rw[hsz]at hsrc;simpa using hsrc),aTD hs (fun k=>?_),hroom,rfl⟩
  rw[aAV]
  split
  · rename_i he;subst he;rw[hk];simp
  · rfl
 ·have hpos:0<ys.length:=List.length_pos_iff.2 hys
  obtain⟨hre,rfl⟩:=had (by omega)
  obtain⟨cc,et,b1,b2,b3⟩:=q7 hre
  have hcapsz:(off+len+ys.length)*P.cellsOf el<=l.cap*P.cellsOf el:=Nat.mul_le_mul_right _ (by omega)
  have hfit:l.off+off*l.sz+len*i.size+news.length<=cc.size:=by
    rw[hnl,q2,<- hsz]
    rw[Nat.add_mul,Nat.add_mul]at hcapsz
    omega
  have hrun:=aLH (P:=P) (ty:=ty) ht hi (b:=l.blk) (off:=l.off+off*l.sz) (sLen:=len) (sCap:=c) (n:=ys.length) (hsz▸hsrc) hroom b1 hfit
  generalize hc':(cc.toList.take (l.off+off*l.sz+len*i.size)++news++cc.toList.drop (l.off+off*l.sz+len*i.size+news.length)).toArray=c' at hrun
  have hget:∀ q,c'[q]? = if q<l.off+off*l.sz+len*i.size then cc[q]? else if q<l.off+off*l.sz+len*i.size+news.length then news[q-(l.off+off*l.sz+len*i.size)]? else cc[q]? := by
    intro q
    rw[<- hc',List.getElem?_toArray,aIO _ _ _ _ (by simpa using hfit)]
    simp
  have hsz':cc.size<=c'.size:=by rw[<- hc'];simp;omega
  have hown:Own φ h l.blk:=⟨key,_,l,hk,rfl,hφ,hre,rfl⟩
  have hni:∀ g',Im g'->(w.setRow l.blk c').heap[g']? = w.heap[g']? := fun g' hg=>aDT w _ _ (fun he=>hs.imm _ hown (he▸hg))
  have hmid:∀ q,(xs.take (off+len)++ys++xs.drop (off+len+ys.length))[q]? = if q<off+len then xs[q]? else if q<off+len+ys.length then ys[q-(off+len)]? else xs[q]? := fun q=>aIO xs ys (off+len) q hin
  have hlen:(xs.take (off+len)++ys++xs.drop (off+len+ys.length)).length=xs.length:=by simp;omega
  have hcase:∀ q (hq:q<(xs.take (off+len)++ys++xs.drop (off+len+ys.length)).length),
     (∃ hq':q<xs.length,(q<off+len∨off+len+ys.length<=q)∧(xs.take (off+len)++ys++xs.drop (off+len+ys.length))[q]=xs[q]) ∨
     (∃ hq':q-(off+len)<ys.length,off+len<=q∧(xs.take (off+len)++ys++xs.drop (off+len+ys.length))[q]=ys[q-(off+len)]):=by
    intro q hq
    have hm:=hmid q
    rw[List.getElem?_eq_getElem hq]at hm
    by_cases h1:q<off+len
    ·rw[if_pos h1,List.getElem?_eq_getElem (by omega)]at hm
     injection hm with hm
     exact .inl ⟨by omega,.inl h1,hm⟩
    ·rw[if_neg h1]at hm
     by_cases h2:q<off+len+ys.length
     · rw[if_pos h2,List.getElem?_eq_getElem (by omega)]at hm
       injection hm with hm
       exact .inr ⟨by omega,by omega,hm⟩
     · rw[if_neg h2,List.getElem?_eq_getElem (by omega)]at hm
       injection hm with hm
       exact .inl ⟨by omega,.inr (by omega),hm⟩
  refine⟨_,c,hrun,aJi hs (o':=.arr (P.cellsOf el) (xs.take (off+len)++ys++xs.drop (off+len+ys.length))) hk rfl hφ hre (fun g' hg=>aDT w _ _ hg) (aHM w _ _) rfl rfl rfl
    ⟨l,hφ,q2,by rw[hlen,q3],q4,fun q hq=>?_,(fun hh=>by rw[hre]at hh;cases hh),fun _=>⟨c',et,setRow_heap w _ _ _ et _ b1,by omega,fun q j hq hj=>?_⟩⟩,hroom,rfl⟩
  · rcases hcase q hq with⟨h1,_,h3⟩ | ⟨h1,_,h3⟩
    ·rw[h3];exact q5 _ _
    ·rw[h3];exact hy _ _
  · rw[hget]
    rcases hcase q hq with⟨h1,h2,h3⟩ | ⟨h1,h2,h3⟩
    ·have hj':j<xs[q].length:=by rw[<- h3];exact hj
     have hjz:j<P.cellsOf el:=by rw[<- q5 q h1];exact hj'
     obtain⟨x,e1,e2⟩:=b3 q j h1 hj'
     refine⟨x,?_,by simp only[h3];exact e2.mono (fun _ h=>h) hni⟩
     rcases h2 with h2 | h2
     · have:(q+1)*P.cellsOf el<=(off+len)*P.cellsOf el:=Nat.mul_le_mul_right _ h2
       rw[Nat.add_mul,Nat.one_mul,Nat.add_mul]at this
       rw[if_pos (by rw[q2,<- hsz];omega)]
       exact e1
     · have:(off+len+ys.length)*P.cellsOf el<=q*P.cellsOf el:=Nat.mul_le_mul_right _ h2
       rw[Nat.add_mul,Nat.add_mul]at this
       rw[if_neg (by rw[q2,<- hsz];omega),if_neg (by rw[q2,<- hsz,hnl];omega)]
       exact e1
    ·have hj':j<ys[q-(off+len)].length:=by rw[<- h3];exact hj
     have hjz:j<P.cellsOf el:=by rw[<- hy _ h1];exact hj'
     obtain⟨x,e1,e2⟩:=hnr (q-(off+len)) j h1 hj'
     have hb2:=(List.getElem?_eq_some_iff.1 e1).1
     have hi4:(off+len)*P.cellsOf el+(q-(off+len))*P.cellsOf el=q*P.cellsOf el:=by rw[<- Nat.add_mul];congr 1;omega
     rw[Nat.add_mul]at hi4
     refine⟨x,?_,by simp only[h3];exact e2.mono (fun _ h=>h) hni⟩
     rw[if_neg (by rw[q2,<- hsz];omega),if_pos (by rw[q2,<- hsz];omega)]
     rw[show l.off+q*P.cellsOf el+j-(l.off+off*l.sz+len*i.size)=(q-(off+len))*P.cellsOf el+j from by rw[q2,<- hsz];omega]
     exact e1
theorem aUm (hfo:∀ f,fo (vm f)=some f)(hs:HS fo φ Im w h)(he:ER fo φ Im w a av e){t1 t2:Option TypeId}{k1 k2 nm:Nat}{x y:Operand}{x' y':Od}(hx:cOd P vm t1 k1 x=some x')(hy:cOd P vm t2 k2 y=some y')
  {t t' ty el el':TypeId} (ht:P.underlying t=some (.slice el)) (ht':P.underlying t'=some (.slice el')) (hz:P.cellsOf el≠0) (hb0:P.bytesOf el≠0) (hzero:(aHL P el).isSome=true) {k:D->M β}
  (hr:(evO nm k (.ap (P.cellsOf el) (P.bytesOf el) x' y')).run F ⟨e,h⟩=some r):GivesW P fo φ Im w h e F r (Builtin.append_ #[t,t'] ty #[a.eval x,a.eval y]) k:=by
 obtain⟨d,φ1,h1,g1,s1,r1⟩:=aAH hfo hs he hx hr
 obtain⟨d2,φ2,h2,g2,s2,r2⟩:=aAH hfo s1.fr.hs (he.stp hs s1) hy g1
 have r1':=r1.stp s1.fr.hs s2
 have hs2:=s2.fr.hs
 generalize hvx:a.eval x=vx at r1'
 generalize hvy:a.eval y=vy at r2
 obtain⟨sz,ys,ad,c,g3,rfl,hyl,hyr⟩:=aHI hs2 r2 g2
 obtain⟨rfl,g4⟩:=aAU g3
 obtain⟨news,n1,n2,n3,n4⟩:=bI2 (P:=P) (fo:=fo) (Im:=Im) (w:=w) ht' (ad:=ad) (c:=c) hyl hyr
 unfold apX at g4
 split at g4
 ·rename_i key
  obtain⟨o,hk,g5⟩:=aBN g4
  obtain⟨sz',xs,rfl,g6⟩:=aJI g5
  obtain⟨⟨rfl,hroomy⟩,g7⟩:=aAU g6
  obtain⟨_,_,g8⟩:=aFf g7
  obtain⟨hn,g9⟩:=aFd g8
  have hn':lk h2 nm=none:=by
    rw[aAV]at hn
    split at hn
    ·cases hn
    ·exact hn
  cases r1' with
  | own _ l a0 hφ=>
    obtain⟨e1,e2,e3,e4,e5,_⟩:=aCG hs2 hk (.inl rfl) hφ
    obtain⟨v,w',φ',q1,q2,q3⟩:=aKS (P:=P) (ty:=ty) hs2 ht ht' hz hb0 hzero hk hφ hn' (off:=0) (len:=xs.length) (c:=l.cap) (ad:=if l.real=true then some ⟨l.blk,l.off,none⟩else a0) (by omega) (by omega) (by omega) (fun hc=>by
     cases hre:l.real with
     | true=>simp
     | false=>exact absurd (e5 hre) hc) hyl n1 n2 n4 hroomy
    refine⟨_,_,_,_,_,v,g9,(s1.trans s2).trans (by simpa using q2),q3,?_⟩
    rw[<- q1]
    congr 3
    cases hre:l.real with
    | true=>simp[e2]
    | false=>have:=e5 hre;simp;omega
 ·rename_i key off len
  obtain⟨o,hk,g5⟩:=aBN g4
  obtain⟨sz',xs,rfl,g6⟩:=aJI g5
  obtain⟨⟨rfl,hroomy⟩,g7⟩:=aAU g6
  cases r1' with
  | arr _ _ _ _ l ad1 c1 hφ p1 p2 p3 p4 p5=>
    obtain⟨e1,e2,e3,e4,e5,_⟩:=aCG hs2 hk (.inl rfl) hφ
    unfold aNR at g7
    split at g7
    ·rename_i heq
     obtain⟨_,_,g8⟩:=aFf g7
     obtain⟨hn,g9⟩:=aFd g8
     have hn':lk h2 nm=none:=by
      rw[aAV]at hn
      split at hn
      ·cases hn
      ·exact hn
     obtain⟨v,w',φ',q1,q2,q3⟩:=aKS (P:=P) (ty:=ty) hs2 ht ht' hz hb0 hzero hk hφ hn' (off:=off) (len:=len) (c:=c1) (ad:=ad1) (by simpa using heq) (p4 rfl) p3 p5 hyl n1 n2 n4 hroomy
     exact⟨_,_,_,_,_,v,g9,(s1.trans s2).trans q2,q3,q1⟩
    ·obtain⟨hin,g8⟩:=aAU g7
     obtain⟨_,_,g9⟩:=aFf g8
     obtain⟨w',c',q1,q2,q3,rfl⟩:=aSt (P:=P) (ty:=ty) (el':=el') hs2 ht hz hk hφ p3 (p4 rfl) p5 hyl n1 n2 n4 hin
     exact⟨_,_,_,_,_,_,g9,(s1.trans s2).trans q2,.arr key off _ true l ad1 c' (q2.up _ _ hφ) (by omega) p2 q3 p4 p5,q1⟩
 ·cases g4
end
end Am
end Go.Proofs.YtkmbhgggpfbffaaGreatDoor
