/- Functions, to their ends. -/
import Derived.Test.YtkmbhgggpfbffaaGreatDoorAm23
set_option linter.unusedVariables false
set_option linter.unusedSimpArgs false
set_option linter.constructorNameAsVariable false
namespace Go.Proofs.YtkmbhgggpfbffaaGreatDoor
namespace Am
mutual
theorem aZY:∀ d:D,(d.ren fun k=>k)=d
 | .p u=>rfl
 | .own k=>rfl
 | .arr k off len ap=>rfl
 | .ptr k off=>rfl
 | .ep k i off=>rfl
 | .mp k=>rfl
 | .fn v caps=>by simp only[D.ren,aK1 caps]
 | .ifc t a xs=>by simp only[D.ren,aK1 xs]
 | .agg xs=>by simp only[D.ren,aK1 xs]
 | .tup xs=>by simp only[D.ren,aK1 xs]
 | .und=>rfl
theorem aK1:∀ ds:List D,D.renL (fun k=>k) ds=ds
 | []=>rfl
 | d :: ds=>by simp only[D.renL,aZY d,aK1 ds]
end
theorem aN7:∀ (ds:List D) (i:Nat) (e:Env) (t:Nat) (d:D),lk (params i ds e) t=some d->(∃ h:t-i<ds.length,i<=t∧ds[t-i]=d)∨((t<i∨i+ds.length<=t)∧lk e t=some d)
 | [],i,e,t,d,hl=>.inr ⟨by simp;omega,hl⟩
 | x :: ds,i,e,t,d,hl=>by
  unfold params at hl
  rw[aAV]at hl
  split at hl
  ·rename_i he
   subst he
   injection hl with hl
   exact .inl ⟨by simp,Nat.le_refl _,by simpa using hl⟩
  ·rename_i he
   rcases aN7 ds (i+1) e t d hl with⟨h1,h2,h3⟩ | ⟨h1,h2⟩
   ·refine .inl ⟨by simp;omega,by omega,?_⟩
    have:t-i=(t-(i+1))+1:=by omega
    simp only[this,List.getElem_cons_succ]
    exact h3
   ·exact .inr ⟨by simp;omega,h2⟩
theorem aV4:∀ (ds:List D) (i:Nat) (t:Nat) (d:D),lk (aI1 i ds) t=some d->∃ h:t-(100000+i)<ds.length,100000+i<=t∧ds[t-(100000+i)]=d
 | [],i,t,d,hl=>by cases hl
 | x :: ds,i,t,d,hl=>by
  have rest:lk (aI1 (i+1) ds) t=some d->∃ h:t-(100000+i)<(x :: ds).length,100000+i<=t∧(x :: ds)[t-(100000+i)]=d:=by
   intro hl
   obtain⟨h1,h2,h3⟩:=aV4 ds (i+1) t d hl
   refine⟨by simp;omega,by omega,?_⟩
   have:t-(100000+i)=(t-(100000+(i+1)))+1:=by omega
   simp only[this,List.getElem_cons_succ]
   exact h3
  unfold aI1 at hl
  split at hl
  ·exact rest hl
  ·rw[aAV]at hl
   split at hl
   ·rename_i he
    subst he
    injection hl with hl
    exact⟨by simp,Nat.le_refl _,by simpa using hl⟩
   ·exact rest hl
theorem aQT:∀ (ds:List D) (i j:Nat) (hj:j<ds.length),(ds[j]).refs≠[]->lk (aI1 i ds) (100000+i+j)=some ds[j]
 | [],i,j,hj,_=>by simp at hj
 | x :: ds,i,j,hj,hn=>by
  unfold aI1
  cases j with
  | zero=>
   simp only[List.getElem_cons_zero]at hn ⊢
   rw[if_neg (by simpa using hn),aAV,if_pos (by omega)]
  | succ j=>
   have:=aQT ds (i+1) j (by simpa using hj) hn
   rw[show 100000+(i+1)+j=100000+i+(j+1)from by omega]at this
   split
   ·exact this
   ·rw[aAV,if_neg (by omega)]
    exact this
theorem aLI:∀ (ds:List D) (i:Nat),D.refsL ((aI1 i ds).map (·.2))=D.refsL ds
 | [],i=>rfl
 | x :: ds,i=>by
  unfold aI1
  split
  ·rename_i he
   have:x.refs=[]:=by simpa using he
   simp only[D.refsL,this,List.nil_append]
   exact aLI ds (i+1)
  ·simp only[List.map_cons,D.refsL,aLI ds (i+1)]
theorem aIS:∀ (ds:List D) (i:Nat),aCD (aI1 i ds)=aI1 i ds
 | [],i=>rfl
 | x :: ds,i=>by
  unfold aI1
  split
  ·exact aIS ds (i+1)
  ·have:=aIS ds (i+1)
   unfold aCD at this ⊢
   rw[List.filter_cons,if_pos (by simp),this]
theorem aJl:∀ (ds:List D) (i:Nat) (e:Env),i+ds.length<=100000->aCD (params i ds e)=aCD e
 | [],i,e,_=>rfl
 | x :: ds,i,e,hle=>by
  have:=aJl ds (i+1) e (by simp at hle;omega)
  unfold params
  unfold aCD at this ⊢
  rw[List.filter_cons,if_neg (by simp at hle ⊢;omega)]
  exact this
section
variable {P:Program} {fo:Fo} {vm:FuncId->Nat} {vmode:Nat->List Nat} {φ:Lay} {Im:Nat->Prop} {w:World} {h:aAR} {a:Act} {av:List Value} {e:Env} {F:Cf}
theorem aRl {ds:List D}{vs:List Value}(hr:RepDs fo φ Im w ds vs):RepD fo φ Im w (aId ds) (bMl vs):=by
 obtain⟨hl,hr⟩:=hr
 match ds,vs with
 | [],[]=>exact .tup [] [] rfl (fun i hi=>absurd hi (by simp))
 | [d],[v]=>exact hr 0 (by simp) (by simp)
 | d :: d' :: ds,v :: v' :: vs=>exact .tup _ _ hl hr
 | [],_ :: _=>simp at hl
 | _ :: _,[]=>simp at hl
 | [_],_ :: _ :: _=>simp at hl
 | _ :: _ :: _,[_]=>simp at hl
theorem aOx (hF:aD0 P fo F)(hfo:∀ f,fo (vm f)=some f)(hD:aKM P vm vmode fo F){hint:Hint}{ver:Ver}(hc:aXy P vm vmode fo hint ver.fid ver.own=some ver){n:Nat}{ds:List D}{roots:List Nat}{res:List D}{h2:aAR}
  (hr:aXv F n ver ds h=some (roots,res,h2)) {args gv:List Value} (hs:HS fo φ Im w h) (hrep0:RepDs fo φ Im w ds args) (hgv:RepDs fo φ Im w (aFi ds h) gv):Lands P (callFunc ver.fid args.toArray) w (aC2 fo φ Im w h (ds++aFi ds h) (args++gv) roots res h2):=by
 have hrep:RepDs fo φ Im w (ds++aFi ds h) (args++gv):=aLy hrep0 hgv
 unfold aXy at hc
 obtain⟨fn,hfn,hc⟩:=Option.bind_eq_some_iff.1 hc
 obtain⟨body,hbody,hc⟩:=Option.bind_eq_some_iff.1 hc
 split at hc
 case isFalse=>cases hc
 rename_i hok
 obtain⟨hname,h5,hnp⟩:=hok
 obtain⟨x,hx,hc⟩:=Option.bind_eq_some_iff.1 hc
 obtain⟨rs,hrs,hver⟩:=Option.map_eq_some_iff.1 hc
 have hcode:ver.code=keeps fn.ntmps hint.jn x.1 1 (aIn rs) (fun _=>0) (aIn rs):=by rw[<- hver]
 have hres:ver.res=rs:=by rw[<- hver]
 have hvnp:ver.np=fn.params.size+fn.nfree:=by rw[<- hver]
 have hof:Of P vm vmode fo fn.ntmps body ver.code:=by rw[hcode];exact aXI h5 (aYO _ _ _ hx) _ _ _ _
 unfold aXv at hr
 split at hr
 case isFalse=>cases hr
 rename_i hlen
 obtain⟨⟨ex,s'⟩,hev,cBc⟩:=Option.bind_eq_some_iff.1 hr
 have hdl:ds.length<=100000:=by rw[hlen,hvnp];exact hnp
 have henter:(callFunc ver.fid args.toArray).run P w=.ok (.enter ver.fid args.toArray) w:=by
  have h1:fn.name ≠ "runtime.NumGoroutine" := by simpa using hname
  simp[callFunc,hfn,h1,hbody]
 unfold Lands
 rw[henter]
 refine calls_of_wp hfn hbody ?_
 have hinv:Inv fo w (Own φ h) Im (ds++aFi ds h) φ (args++gv) fn.ntmps { env:=params 0 ds (aI1 0 (ds++aFi ds h)),heap:=h } { tmps:=args.toArray++Array.replicate (fn.ntmps-args.toArray.size) undef,defers:=[] } w:=by
  refine⟨φ,Im,.refl hs,fun t d hl=>?_,rfl,by simp;omega,fun k=>k,?_,fun k hk=>?_⟩
  · rcases aN7 ds 0 _ t d hl with⟨q1,_,q3⟩ | ⟨q1,q2⟩
    ·simp only[Nat.sub_zero]at q1 q3
     have ht:t<args.length:=by rw[<- hrep0.1];exact q1
     refine⟨args[t],?_,by rw[<- q3];exact hrep0.2 t q1 ht⟩
     rw[if_pos (by omega)]
     show (args.toArray++Array.replicate (fn.ntmps-args.toArray.size) undef)[t]? = some args[t]
     rw[Array.getElem?_append_left (by simpa using ht),List.getElem?_toArray,List.getElem?_eq_getElem ht]
    ·obtain⟨p1,p2,p3⟩:=aV4 (ds++aFi ds h) 0 t d q2
     simp only[Nat.add_zero]at p1 p2 p3
     have ht:t-100000<(args++gv).length:=by rw[<- hrep.1];exact p1
     refine⟨(args++gv)[t-100000],?_,by rw[<- p3];exact hrep.2 _ p1 ht⟩
     rw[if_neg (by omega),List.getElem?_eq_getElem ht]
  · show aCD (params 0 ds (aI1 0 (ds++aFi ds h)))=_
    rw[aJl ds 0 _ (by omega),aIS]
    have:(fun x:Nat×D=>(x.1,x.2.ren fun k=>k))=id:=by
     funext x
     simp[aZY]
    rw[this,List.map_id]
  · obtain⟨d,d1,d2⟩:=refsL_mem.1 hk
    obtain⟨i,hi,rfl⟩:=List.getElem_of_mem d1
    obtain⟨l,hl⟩:=aNG (hrep.2 i hi (by rw[<- hrep.1];exact hi)) k d2
    exact⟨l,hl,hl⟩
 refine aTE hF hfo hD h5 hof n _ ex s' hev _ w hinv _ fun a1 w1 hi=>?_
 obtain⟨φ1,Im1,hfr,he,hd0,hsz,g0,hg0,hl0⟩:=hi
 have hout':((aXt ver.own ver.res .ret).run F s').bind bFm=some (roots,res,h2)∧(aTc ex=.normal∨aTc ex=.ret):=by
  cases ex with
  | nrm=>exact⟨cBc,.inl rfl⟩
  | ret=>exact⟨cBc,.inr rfl⟩
  | ex id=>cases cBc
 obtain⟨hout',hex⟩:=hout'
 obtain⟨⟨dr,s2⟩,hrun,hend⟩:=Option.bind_eq_some_iff.1 hout'
 obtain⟨e1,h1⟩:=s'
 obtain⟨dr',Im2,h2',vs,z1,z2,z3,z4⟩:=aML (P:=P) (fo:=fo) (φ:=φ1) (w:=w1) (a:=a1) (av:=args++gv) (e:=e1) (F:=F) (own:=ver.own) (fun t v hv=>by rw[Array.getD_eq_getD_getElem?,hv];rfl) fn.results.toList ver.res (by rw[hres];exact hrs) hfr.hs he hrun
 injection z1 with z1
 injection z1 with z1 z1'
 subst z1 z1'
 have hfr2:=hfr.trans z2.fr
 have he2:ER fo φ1 Im2 w1 a1 (args++gv) e1:=he.stp hfr.hs z2
 obtain⟨⟨cs,hcan⟩,hc1,hc2⟩:=Option.bind_eq_some_iff.1 hend
 obtain⟨ks,hnd,kin,kclo,rfl,kget,khc⟩:=aJV hc1
 injection hc2 with hc2
 injection hc2 with c1 c2
 injection c2 with c2 c3
 subst c3
 simp only[aCd]at c1 c2
 have htake:(List.map (D.ren (idx ks)) ((aCD e1).map (·.2)++dr')).take (aCD e1).length=((aCD e1).map (·.2)).map (D.ren (idx ks)):=by
  rw[List.map_append,List.take_append_of_le_length (by simp),List.take_of_length_le (by simp)]
 have hdrop:(List.map (D.ren (idx ks)) ((aCD e1).map (·.2)++dr')).drop (aCD e1).length=dr'.map (D.ren (idx ks)):=by
  rw[List.map_append,List.drop_append_of_le_length (by simp),List.drop_of_length_le (by simp),List.nil_append]
 have c1':roots=D.refsL (((aCD e1).map (·.2)).map (D.ren (idx ks))):=by rw[<- c1,<- htake]
 have c2':res=dr'.map (D.ren (idx ks)):=by rw[<- c2,<- hdrop]
 obtain⟨hsc,hown⟩:=HS.canon hfr2.hs hnd kclo kget khc
 have hpost:aC2 fo φ Im w h (ds++aFi ds h) (args++gv) roots res hcan (bMl vs) w1:=by
  refine⟨aLU φ1 ks,Im2,fun k=>idx ks (g0 k),⟨hsc,hfr2.im,hfr2.frame,fun g hg=>hfr2.own g ?_,hfr2.imnew,hfr2.size,hfr2.os,hfr2.tape,hfr2.output⟩,?_,?_,⟨by rw[aCd];simpa using hrep.1,fun i hi hi'=>?_⟩,fun x hx=>(khc x hx).2,fun k hk=>?_⟩
  rotate_right
  · obtain⟨l,q1,q2⟩:=hl0 k hk
    refine⟨l,q1,?_⟩
    show aLU φ1 ks (idx ks (g0 k))=some l
    rw[aF8 (kin (g0 k) ?_)]
    ·exact q2
    ·have hm:g0 k∈D.refsL ((aCD e1).map (·.2)):=by
      rw[hg0,aQC,aHw]
      exact List.mem_map.2 ⟨k,hk,rfl⟩
     obtain⟨d,d1,d2⟩:=refsL_mem.1 hm
     exact refsL_mem.2 ⟨d,List.mem_append_left _ d1,d2⟩
  · obtain⟨k,o,l,_,q⟩:=hown g hg
    exact⟨k,o,l,q⟩
  · rw[c2',<- aCd]
    refine aRl (z3.ren fun q hq=>aF8 (kin q ?_))
    obtain⟨d,d1,d2⟩:=refsL_mem.1 hq
    exact refsL_mem.2 ⟨d,List.mem_append_right _ d1,d2⟩
  · rw[c1',<- aCd,aE4,hg0,List.map_map]
    have:List.map ((fun x:Nat×D=>x.2)∘fun x:Nat×D=>(x.1,x.2.ren g0)) (aI1 0 (ds++aFi ds h))=D.renL g0 ((aI1 0 (ds++aFi ds h)).map (·.2)):=by
     rw[aCd,List.map_map]
     rfl
    rw[this,aE4,aLI,List.map_map]
    rfl
  · have hi2:i<(ds++aFi ds h).length:=by simpa[aCd]using hi
    simp only[aCd,List.getElem_map]
    by_cases hn:((ds++aFi ds h)[i]).refs=[]
    ·refine RepD.ren (φ:=φ) ?_ (fun k hk=>by rw[hn]at hk;cases hk)
     exact (hrep.2 i hi2 hi').mono (fun _ _ h=>h) hfr2.im (fun g hg=>hfr2.imold hs.imb (fun g hg ho=>hs.imm g ho hg) g hg)
    ·have hl:lk (aCD e1) (100000+i)=some (((ds++aFi ds h)[i]).ren g0):=by
      rw[hg0]
      have q1:=aQT (ds++aFi ds h) 0 i hi2 hn
      have q2:∀ (L:Env) (t:Nat),lk (L.map fun x=>(x.1,x.2.ren g0)) t=(lk L t).map (D.ren g0):=by
       intro L
       induction L with
       | nil=>intro t;rfl
       | cons x L ih=>
        intro t
        obtain⟨k,d⟩:=x
        simp only[List.map_cons,aAV]
        split
        ·rfl
        ·exact ih t
      rw[q2,show 100000+i=100000+0+i from by omega,q1]
      rfl
     obtain⟨v,v1,v2⟩:=he2 _ _ (aJo (p:=fun k=>decide (100000<=k)) hl)
     rw[if_neg (by omega),show 100000+i-100000=i from by omega,List.getElem?_eq_getElem hi']at v1
     injection v1 with v1
     subst v1
     have:=v2.ren (φ':=aLU φ1 ks) (f:=idx ks) (fun q hq=>aF8 (kin q (refsL_mem.2 ⟨_,List.mem_append_left _ (List.mem_map.2 ⟨_,aHT hl,rfl⟩),hq⟩)))
     rw[aP1]at this
     exact this
 have hb:a1.defers=[]∧∃ v,(results fn a1.tmps).run P w1=.ok v w1∧∃ v',Ending.returned v=.returned v'∧aC2 fo φ Im w h (ds++aFi ds h) (args++gv) roots res hcan v' w1:=⟨hd0,_,aPM z4,_,rfl,hpost⟩
 rcases hex with hex | hex
 ·rw[hex];exact hb
 ·rw[hex];exact hb
structure TabOK (P:Program) (vm:FuncId->Nat) (vmode:Nat->List Nat) (fo:Fo) (T:Tab):Prop where
 ver:∀ v ver,T.ver v=some ver->∃ hint,aXy P vm vmode fo hint ver.fid ver.own=some ver
 fid:∀ v ver f,T.ver v=some ver->fo v=some f->ver.fid=f
 ext:∀ v f ds h roots res h2,T.ver v=none->fo v=some f->T.ext v ds h=some (roots,res,h2) ->
  aFi ds h=[]∧∀ φ Im w args,HS fo φ Im w h->RepDs fo φ Im w ds args->Lands P (callFunc f args.toArray) w (aC2 fo φ Im w h ds args roots res h2)
theorem aOb (hfo:∀ f,fo (vm f)=some f){T:Tab}(hT:TabOK P vm vmode fo T)(hD:∀ F,aD0 P fo F->aKM P vm vmode fo F):∀ n,aD0 P fo (evF T n)
 | 0=>fun v f ds h roots res h2 hv hr=>by cases hr
 | n+1=>fun v f ds h roots res h2 hv hr φ Im w args gv hs hrep hgv=>by
  unfold evF at hr
  cases hver:T.ver v with
  | none=>
   rw[hver]at hr
   obtain⟨hd,he⟩:=hT.ext v f ds h roots res h2 hver hv hr
   rw[hd]at hgv ⊢
   have:gv=[]:=List.eq_nil_of_length_eq_zero hgv.1.symm
   rw[this,List.append_nil,List.append_nil]
   exact he φ Im w args hs hrep
  | some ver=>
   rw[hver]at hr
   obtain⟨hint,hc⟩:=hT.ver v ver hver
   have hF:=aOb hfo hT hD n
   have:=hT.fid v ver f hver hv
   subst this
   exact aOx hF hfo (hD _ hF) hc hr hs hrep hgv
theorem aRQ (hfo:∀ f,fo (vm f)=some f){T:Tab}(hT:TabOK P vm vmode fo T)(hD:∀ F,aD0 P fo F->aKM P vm vmode fo F):aD0 P fo (aAo T):=by
 intro v f ds h roots res h2 hv hr
 obtain⟨n,hn⟩:=runF_some.1 hr
 exact aOb hfo hT hD n v f ds h roots res h2 hv hn
end
end Am
end Go.Proofs.YtkmbhgggpfbffaaGreatDoor
