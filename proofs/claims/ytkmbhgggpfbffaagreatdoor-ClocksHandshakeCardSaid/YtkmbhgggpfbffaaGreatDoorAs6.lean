/- A copy of a slice (the kit's stand-in for slices.Clone): its contract, nil or not. -/
import Derived.Test.YtkmbhgggpfbffaaGreatDoorAs5
import Derived.ProofKit
set_option linter.unusedVariables false
set_option linter.unusedSimpArgs false
set_option linter.constructorNameAsVariable false
namespace Go.Proofs.YtkmbhgggpfbffaaGreatDoor
namespace Am
section
variable {P:Program} {fo:Fo} {vm:FuncId->Nat} {vmode:Nat->List Nat} {φ:Lay} {Im:Nat->Prop} {w:World} {h:aAR}
theorem bCV (d:Nat){t el:TypeId}(hu:P.underlying t=some (.slice el))(n c:Nat):(Op.equalIn (d+1) t (.slice none n c) (.slice none 0 0)).run P w=.ok true w:=by simp[Op.equalIn,run_underlying hu]
theorem aJ8 {t el:TypeId}(hu:P.underlying t=some (.slice el))(ad:Option Addr)(n c:Nat):(binOp .eql t (.slice ad n c) (.slice none 0 0)).run P w=.ok (.bool ad.isNone) w:=by
 simp only[binOp]
 cases ad with
 | some a=>simp[Op.equal,Op.maxDepth,aZJ 9999 hu a n c]
 | none=>simp[Op.equal,Op.maxDepth,bCV 9999 hu n c]
theorem aRx {ds:List D}{args:List Value}{sz:Nat}{w':World}{x:Option Addr}(hs:HS fo φ Im w h)(hrep:RepDs fo φ Im w ds args)(hd:D.refsL ds=[])(hren:∀ g,D.renL g ds=ds)(hrep':RepDs fo (fun k=>if k=0 then some ⟨0,0,0,0,sz,false⟩else none) Im w' ds args)
  (hw:w'=w∨∃ o,w'=w.alloc o):aC2 fo φ Im w h ds args [] [.own 0] [(0,.arr sz [])] (.slice x 0 0) w':=by
 have hsize:w.heap.size<=w'.heap.size:=by rcases hw with rfl | ⟨o,rfl⟩ <;> simp
 have hget:∀ g,g<w.heap.size->w'.heap[g]? = w.heap[g]? := by
  rcases hw with rfl | ⟨o,rfl⟩
  · intro g _;rfl
  · intro g hg;exact aD1 _ _ hg
 refine⟨fun k=>if k=0 then some ⟨0,0,0,0,sz,false⟩else none,Im,id,⟨⟨?_,?_,?_,?_,?_,fun g o ho=>aH4 (hs.tb g o ho) id (fun hi=>hget g (hs.imb g hi))⟩,fun g hg=>hg,fun g hg _=>hget g hg,?_,fun g hg=>.inl hg,hsize,?_,?_,?_⟩,?_,?_,?_,?_,fun k hk=>by rw[hd]at hk;cases hk⟩
 ·intro k o hk
  simp only[lk]at hk
  split at hk
  · rename_i e;subst e;injection hk with hk;subst hk
    exact⟨⟨0,0,0,0,sz,false⟩,by simp,rfl,rfl,Nat.le_refl _,fun i hi=>absurd hi (by simp),fun _=>rfl,fun hh=>by cases hh⟩
  · cases hk
 ·intro k k' o o' l l' h1 h2 _ _ h3 h4 h5 _ _
  split at h3
  · injection h3 with h3;subst h3;cases h5
  · cases h3
 ·rintro g ⟨k,o,l,_,_,h3,h4,_⟩
  dsimp only at h3
  split at h3
  · injection h3 with h3;subst h3;cases h4
  · cases h3
 ·intro g hg;have:=hs.imb g hg;omega
 ·intro k hk
  simp only[lk]at hk
  split at hk
  · cases hk
  · rename_i e;simp[show ¬(k=0)from fun q=>e q.symm]
 ·rintro g ⟨k,o,l,_,_,h3,h4,_⟩
  dsimp only at h3
  split at h3
  · injection h3 with h3;subst h3;cases h4
  · cases h3
 ·rcases hw with rfl | ⟨o,rfl⟩ <;> rfl
 ·rcases hw with rfl | ⟨o,rfl⟩ <;> rfl
 ·rcases hw with rfl | ⟨o,rfl⟩ <;> rfl
 ·have:=RepD.own (fo:=fo) (φ:=fun k=>if k=0 then some ⟨0,0,0,0,sz,false⟩else none) (Im:=Im) (w:=w') 0 ⟨0,0,0,0,sz,false⟩ x (by simp)
  simpa[aId]using this
 ·rw[hd];rfl
 ·rw[hren];exact hrep'
 ·intro x hx
  simp only[List.mem_singleton]at hx
  subst hx;rfl
def aOW (sz bytes:Nat)(zero:List V):C:=
 .seq (.reg [⟨some 2,.mv (.z sz 1000),1000,none,[]⟩]) (.seq (.seq (.reg [⟨some 3,.mv (.t 0),2000,none,[]⟩,⟨some 4,.bn false 4 (.t 3),3000,none,[]⟩]) (.cond (.t 4) (.seq (.reg [⟨some 2,.mv (.z sz 4000),4000,none,[]⟩]) (.ret [2])) .skip))
  (.seq (.reg [⟨some 5,.bs sz 0 zero [],5000,none,[]⟩,⟨some 6,.mv (.t 0),6000,none,[]⟩,⟨some 7,.ap sz bytes (.t 5) (.t 6),7000,none,[]⟩,⟨some 2,.mv (.t 7),8000,none,[]⟩]) (.ret [2])))
theorem aVy {F:Cf}{f sz bytes:Nat}{zero:List V}{y:List V}{ys:List (List V)}(hr:aJm (0+(ys.length+1)) bytes) :
  aXv F 1 ⟨f,1,aOW sz bytes zero,[.t 2],true⟩ [.p (.sl sz (y :: ys))] []=some ([],[.own 0],[(0,.arr sz (y :: ys))]):=by
 have hr':aJm (ys.length+1) bytes:=by simpa using hr
 simp[aXv,aOW,evC,bGq,exO,evO,vl,vls,aRf,M.run,lk,aJz,elems,grd,aKq,aXH,bGp,aLi,partsV,aFA,apX,aNx,aPO,hr',params,aI1,aFi,D.refs,aHy,kept,aCD,canon,aOp,aIg,bLO,bOZ,D.refsL,D.renL,D.ren,Ob.ren,Ob.refs,idx,bDx,exK,aZT,aXt,aXZ,bFm,bO3]
theorem aQc (hfo:∀ f,fo (vm f)=some f)(hm:P.follows .mixedOrders=true){f:FuncId}{sz bytes:Nat}{zero:List V}(hc:aXy P vm vmode fo ⟨fun _=>none,[]⟩ f true=some ⟨f,1,aOW sz bytes zero,[.t 2],true⟩)
  (hemp:∀ (w:World) (x:Option Addr) (c:Nat),Lands P (callFunc f #[.slice x 0 c]) w fun v w'=>∃ y,v=.slice y 0 0∧(w'=w∨∃ o,w'=w.alloc o))
  {xs:List (List V)} (hroom:aJm xs.length bytes) {args:List Value} (hs:HS fo φ Im w []) (hrep:RepDs fo φ Im w [.p (.sl sz xs)] args) :
  Lands P (callFunc f args.toArray) w (aC2 fo φ Im w [] [.p (.sl sz xs)] args [] [.own 0] [(0,.arr sz xs)]):=by
 cases xs with
 | cons y ys=>
  have hF:aD0 P fo (fun _ _ _=>none):=fun v f ds h roots res h2 _ he=>by cases he
  have:=aOx (gv:=[]) hF hfo (bHL hF hfo hm) hc (aVy (by simpa using hroom)) hs hrep ⟨rfl,fun i hi=>absurd hi (by simp[aFi])⟩
  rw[show aFi [D.p (.sl sz (y :: ys))] []=[]from rfl,List.append_nil,List.append_nil]at this
  exact this
 | nil=>
  obtain⟨hl,hv⟩:=hrep
  match args,hl with
  | [v],_=>
    have h0:=hv 0 (by simp) (by simp)
    simp only[List.getElem_cons_zero]at h0
    cases h0 with
    | p u x h0=>
     cases h0 with
     | sl _ _ a n c vals hn hcap hl2 ha hr=>
      have hn0:n=0:=by simpa using hn.symm
      subst hn0
      have hmono:∀ w':World,(w'=w∨∃ o,w'=w.alloc o)->∀ g,Im g->w'.heap[g]? = w.heap[g]? := by
       intro w' hw g hg
       have:=hs.imb g hg
       rcases hw with rfl | ⟨o,rfl⟩
       ·rfl
       ·exact aD1 _ _ this
      refine Lands.mono (hemp w a c) ?_
      ·rintro v w' ⟨y,rfl,hw⟩
       refine aRx hs ⟨rfl,fun i hi hi'=>?_⟩ rfl (fun g=>rfl) ⟨rfl,fun i hi hi'=>?_⟩ hw
       ·exact hv i hi hi'
       ·have:i=0:=by simpa using hi
        subst this
        exact .p _ _ ((RepV.sl sz [] a 0 c vals hn hcap hl2 ha hr).mono (fun _ h=>h) (hmono w' hw))
end
def aM6 (w:World)(e:Ending)(w':World):Prop:=∃ v,e=.returned v∧∃ y,v=.slice y 0 0∧(w'=w∨∃ o,w'=w.alloc o)
theorem aLL {P:Program}{f:FuncId}{fn:Func}{args:Array Value}{w:World}(hname:(fn.name == "runtime.NumGoroutine")=false) (hfn:P.funcs[f]? = some fn) (hbody:fn.body.isSome=true) (hc:Calls P f args w (aM6 w)) :
  Lands P (callFunc f args) w fun v w'=>∃ y,v=.slice y 0 0∧(w'=w∨∃ o,w'=w.alloc o):=by
 obtain⟨body,hb⟩:=Option.isSome_iff_exists.1 hbody
 have h1:fn.name ≠ "runtime.NumGoroutine" := by simpa using hname
 have henter:(callFunc f args).run P w=.ok (.enter f args) w:=by simp[callFunc,hfn,h1,hb]
 unfold Lands
 rw[henter]
 exact hc
def aQ0 {R:Type}(sz bytes:Nat):En R:=fun ds h k=>match ds,h with
 | [.p (.l e)],[]=>bif e.sz == sz&&aBU e.len bytes then k [] [.own 0] [(0,.arr e)]else none
 | _,_=>none
def aMh (sz bytes:Nat):List D->aAR->Option (List Nat×List D×aAR)
 | [.p (.sl s xs)],[]=>if s=sz∧aJm xs.length bytes then some ([],[.own 0],[(0,.arr s xs)])else none
 | _,_=>none
theorem aMn {sz bytes:Nat}{ds:List D}{h:aAR}{r1:List Nat}{r2:List D}{r3:aAR}(he:aMh sz bytes ds h=some (r1,r2,r3)) :
  ∃ s xs,ds=[.p (.sl s xs)]∧h=[]∧s=sz∧aJm xs.length bytes∧r1=[]∧r2=[.own 0]∧r3=[(0,.arr s xs)]:=by
 unfold aMh at he
 split at he
 ·rename_i s xs
  split at he
  ·rename_i hc
   injection he with he
   injection he with e1 e2
   injection e2 with e2 e3
   exact⟨s,xs,rfl,rfl,hc.1,hc.2,e1.symm,e2.symm,e3.symm⟩
  ·cases he
 ·cases he
theorem aN5 {R:Type}{T:Tab}{v sz bytes:Nat}(hv:T.ver v=none)(hx:T.ext v=aMh sz bytes):Snd T v (aQ0 sz bytes:En R):=by
 intro ds h k r hk
 unfold aQ0 at hk
 split at hk
 ·rename_i e
  cases hb:(e.sz == sz&&aBU e.len bytes)with
  | false=>rw[hb]at hk;cases hk
  | true=>
   rw[hb]at hk
   simp only[Bool.and_eq_true,beq_iff_eq]at hb
   refine⟨_,_,_,?_,hk⟩
   rw[aFH hv,hx]
   simp only[DS.encs,DS.enc,S.enc,aE2,List.map_nil,List.map_cons,aMh]
   rw[if_pos ⟨hb.1,by rw[EL.xs_len];exact room_iff.1 hb.2⟩]
   rfl
 ·cases hk
end Am
end Go.Proofs.YtkmbhgggpfbffaaGreatDoor
