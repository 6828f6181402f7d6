/- graph.below by its contract, as a function on plain data. -/
import Derived.Test.YtkmbhgggpfbffaaGreatDoorAs12
import Derived.Test.YtkmbhgggpfbffaaGreatDoorBe3
set_option linter.unusedVariables false
set_option linter.unusedSimpArgs false
set_option linter.constructorNameAsVariable false
set_option maxRecDepth 100000
namespace Go.Proofs.YtkmbhgggpfbffaaGreatDoor
namespace Am
open Go.RowKit (Below)
def aXu (ar:List (List Int)):Nat->List Bool->List Bool
 | 0,o=>o
 | k+1,o=>aXu ar k (aFM k o ((ar[k]?).getD []))
def aOd (ar:List (List Int))(fl:List Int):List Bool:=aXu ar ar.length (aGR (List.replicate ar.length false) fl)
theorem aOD (len:Nat)(f:Nat->List Int)(ar:List (List Int))(hf:∀ k,k<len->f k=(ar[k]?).getD []):∀ (k:Nat) (h:k<=len) (o:List Bool),aXu ar len o=aXu ar (len-k) ((aPj len k h).foldl (fun o x=>aFM x.1 o (f x.1)) o)
 | 0,h,o=>rfl
 | k+1,h,o=>by
  rw[aOD len f ar hf k (by omega) o,aOJ len k h,List.foldl_append]
  show _=aXu ar _ (aFM _ _ _)
  rw[show len-k=(len-1-k)+1 by omega,show len-(k+1)=len-1-k by omega,aXu,hf _ (by omega)]
theorem aWt (f:Nat->List Int)(ar:List (List Int))(fl:List Int)(hf:∀ k,k<ar.length->f k=(ar[k]?).getD []):aOd ar fl=(aPj ar.length ar.length (Nat.le_refl _)).foldl (fun o x=>aFM x.1 o (f x.1)) (aGR (List.replicate ar.length false) fl):=by
 unfold aOd
 rw[aOD ar.length f ar hf ar.length (Nat.le_refl _),Nat.sub_self];rfl
theorem aQp (ar:List (List Int)):∀ (k:Nat) (o:List Bool),(aXu ar k o).length=o.length
 | 0,o=>rfl
 | k+1,o=>by rw[aXu,aQp ar k,aH7]
theorem aNb (ar:List (List Int))(fl:List Int):(aOd ar fl).length=ar.length:=by unfold aOd;rw[aQp,aHC,List.length_replicate]
def aJ7:List (List V)->Option (List (List Int))
 | []=>some []
 | [.i .i64 _,.i .i64 _,.sl 1 xs,.i .i64 _] :: r=>(aIJ xs).bind fun l=>(aJ7 r).map (l :: ·)
 | _=>none
def aOe (ar:List (List Int))(fl:List Int):Bool:=decide (ar.length<=1000000)&&decide (fl.length<=1000000)&&fl.all (fun x=>decide (0<=x∧x<(ar.length:Int)))&&ar.all fun l=>decide (l.length<=1000000)&&l.all fun x=>decide (0<=x∧x<(ar.length:Int))
def aO0 (l:List Bool):List (List V):=l.map fun b=>[.b b]
def aJ9:List D->aAR->Option (List Nat×List D×aAR)
 | [.p (.sl 4 ns),.p (.sl 1 fs)],[]=>match aJ7 ns,aIJ fs with
  | some ar,some fl=>if aOe ar fl=true then some ([],[.own 0],[(0,.arr 1 (aO0 (aOd ar fl)))])else none
  | _,_=>none
 | _,_=>none
theorem aPD {ds:List D}{h:aAR}{r:List Nat×List D×aAR}(he:aJ9 ds h=some r):aFi ds h=[]:=by
 unfold aJ9 at he
 split at he
 ·rfl
 ·cases he
theorem aOo:∀ {ns:List (List V)} {ar:List (List Int)},aJ7 ns=some ar->ns.length=ar.length∧∀ j (h:j<ns.length) (h':j<ar.length),∃ o0 o1 xs o3,ns[j]=[.i .i64 o0,.i .i64 o1,.sl 1 xs,.i .i64 o3]∧aIJ xs=some ar[j]
 | [],ar,h=>by
  unfold aJ7 at h
  injection h with h;subst h
  exact⟨rfl,fun j hj=>absurd hj (by simp)⟩
 | x :: r,ar,h=>by
  unfold aJ7 at h
  split at h
  ·rename_i h1;cases h1
  ·rename_i o0 o1 xs o3 r' h1
   injection h1 with h1 h2
   subst h1 h2
   cases hx:aIJ xs with
   | none=>rw[hx]at h;cases h
   | some l=>
    cases hr:aJ7 r with
    | none=>rw[hx,hr]at h;cases h
    | some m=>
     rw[hx,hr]at h
     injection h with h
     subst h
     obtain⟨i1,i2⟩:=aOo hr
     refine⟨by simp[i1],fun j hj hj'=>?_⟩
     cases j with
     | zero=>exact⟨o0,o1,xs,o3,rfl,hx⟩
     | succ j=>exact i2 j (by simpa using hj) (by simpa using hj')
  ·cases h
section
variable {P:Program} {fo:Fo} {φ:Lay} {Im:Nat->Prop} {w:World} {h:aAR}
theorem aPe (hs:HS fo φ Im w h){xs:List (List V)}{l:List Int}(hx:aIJ xs=some l){x:Value}(hr:RepV fo Im w (.sl 1 xs) x):∃ a c,x=.slice a l.length c∧(l≠[]->∃ g o,a=some ⟨g,o,none⟩∧g<w.heap.size∧∀ i (h:i<l.length),w.cell? ⟨g,o+i,none⟩=some (.int .i64 l[i])):=by
 have e:=aKv hx
 subst e
 cases hr with
 | sl _ _ a n c vals hn hcap hl ha hv=>
  rw[aEP]at hn
  subst hn
  refine⟨a,c,rfl,fun hne=>?_⟩
  obtain⟨g,o,rfl,hI,hc⟩:=ha (fun e=>hne (List.eq_nil_of_length_eq_zero e))
  refine⟨g,o,rfl,hs.imb g hI,fun i hi=>?_⟩
  have h1:=hc i 0 hi (by omega)
  have h2:=hv i 0 (by rw[aEP];exact hi) (by rw[aJ0];simp)
  have q:((aHF l)[i]'(by rw[aEP];exact hi))[0]'(by rw[aJ0];simp)=V.i .i64 l[i]:=by simp[aHF]
  rw[q]at h2
  have h3:=h2.i_inv
  rw[Nat.mul_one,Nat.add_zero,h3]at h1
  exact h1
theorem aX1 {fn:Func}(hname:(fn.name == "runtime.NumGoroutine")=false) (hfn:Tryz.prog.funcs[334]? = some fn) (hbody:fn.body.isSome=true)
  {ds:List D} {r1:List Nat} {r2:List D} {r3:aAR} {args:List Value} (he:aJ9 ds h=some (r1,r2,r3)) (hs:HS fo φ Im w h) (hrep:RepDs fo φ Im w ds args) :
  Lands Tryz.prog (callFunc 334 args.toArray) w (aC2 fo φ Im w h ds args r1 r2 r3):=by
 unfold aJ9 at he
 split at he
 ·rename_i ns fs
  split at he
  ·rename_i ar fl hun hfu
   split at he
   ·rename_i hok
    injection he with he
    injection he with e1 he
    injection he with e2 e3
    subst e1 e2 e3
    obtain⟨x,x',rfl,hx,hx'⟩:=aNp hrep
    obtain⟨af,cf,rfl,hF⟩:=aPe hs hfu hx'
    obtain⟨hnl,hna⟩:=aOo hun
    unfold aOe at hok
    simp only[Bool.and_eq_true,decide_eq_true_eq,List.all_eq_true]at hok
    obtain⟨⟨⟨k1,k2⟩,k3⟩,k4⟩:=hok
    cases hx with
    | sl _ _ an n cn vals hn hcap hl ha hv=>
     have hn':n=ar.length:=by omega
     subst hn'
     -- the nodes' parts
     have hrow:∀ j,j<ar.length->∃ o0 o1 o3 ad ca,vals j 0=.int .i64 o0∧vals j 1=.int .i64 o1∧vals j 2=.slice ad ((ar[j]?).getD []).length ca∧vals j 3=.int .i64 o3 ∧
        (((ar[j]?).getD [])≠[]->∃ g o,ad=some ⟨g,o,none⟩∧g<w.heap.size∧∀ i (h:i<((ar[j]?).getD []).length),w.cell? ⟨g,o+i,none⟩=some (.int .i64 ((ar[j]?).getD [])[i])):=fun j hj=>by
      have hj':j<ns.length:=by omega
      obtain⟨o0,o1,xs,o3,e,hxs⟩:=hna j hj' hj
      have hv':∀ i (hi:i<4),RepV fo Im w (([V.i .i64 o0,V.i .i64 o1,V.sl 1 xs,V.i .i64 o3])[i]) (vals j i):=fun i hi=>by
        have:=hv j i hj' (by rw[e];exact hi)
        simpa only[e]using this
      have g0:=(hv' 0 (by omega)).i_inv
      have g1:=(hv' 1 (by omega)).i_inv
      have g3:=(hv' 3 (by omega)).i_inv
      obtain⟨ad,ca,g2,hA⟩:=aPe hs hxs (hv' 2 (by omega))
      rw[List.getElem?_eq_getElem hj]
      exact⟨o0,o1,o3,ad,ca,g0,g1,g2,g3,hA⟩
     let o0:Nat->Int:=fun j=>match vals j 0 with | .int _ n=>n | _=>0
     let o1:Nat->Int:=fun j=>match vals j 1 with | .int _ n=>n | _=>0
     let o3:Nat->Int:=fun j=>match vals j 3 with | .int _ n=>n | _=>0
     let ad:Nat->Option Addr:=fun j=>match vals j 2 with | .slice a _ _=>a | _=>none
     let ca:Nat->Nat:=fun j=>match vals j 2 with | .slice _ _ c=>c | _=>0
     have hC:=aYw 6 (Nat.le_refl _) an af ar.length cn cf o0 o1 o3 ad ca (fun j=>(ar[j]?).getD []) fl w k1
      (fun hne=>by
        obtain⟨g,o,e,hI,hc⟩:=ha hne
        refine⟨g,o,e,hs.imb g hI,fun j hj=>?_⟩
        obtain⟨p0,p1,p3,pa,pc,q0,q1,q2,q3,_⟩:=hrow j hj
        have c0:=hc j 0 hj (by omega)
        have c1:=hc j 1 hj (by omega)
        have c2:=hc j 2 hj (by omega)
        have c3:=hc j 3 hj (by omega)
        refine⟨?_,?_,?_,?_⟩
        · rw[Nat.add_zero]at c0;rw[c0];simp only[o0,q0]
        · rw[c1];simp only[o1,q1]
        · rw[c2];simp only[ad,ca,q2]
        · rw[c3];simp only[o3,q3])
      (fun j hj hne=>by
        obtain⟨p0,p1,p3,pa,pc,q0,q1,q2,q3,hA⟩:=hrow j hj
        obtain⟨g,o,e,hg,hc⟩:=hA hne
        exact⟨g,o,by simp only[ad,q2];exact e,hg,hc⟩)
      hF k2 (fun j hj=>by
        rw[List.getElem?_eq_getElem hj]
        exact (k4 _ (List.getElem_mem hj)).1) k3 (fun j hj x hx=>by
        rw[List.getElem?_eq_getElem hj]at hx
        exact (k4 _ (List.getElem_mem hj)).2 x hx)
     rw[<- aWt (fun j=>(ar[j]?).getD []) ar fl (fun k _=>rfl)]at hC
     have hlen:=aNb ar fl
     refine aGF hname hfn hbody ((callsIn_wide.1 hC).mono fun e w' ⟨B,hB,he,hblk,hbel⟩=>⟨_,he,?_⟩)
     let φ2:Lay:=fun k=>if k=0 then some ⟨B,0,ar.length,ar.length,1,true⟩else none
     have hI:¬Im B:=fun hI=>by have:=hs.imb B hI;omega
     refine⟨φ2,Im,id,⟨⟨?_,?_,?_,?_,?_,?_⟩,fun _ h=>h,fun g hg _=>hbel.block g hg,?_,fun _ h=>.inl h,hbel.size,hbel.os,hbel.tape,hbel.output⟩,?_,rfl,?_,?_,fun k hk=>by simp[D.refsL,D.refs]at hk⟩
     ·intro k o hk
      simp only[lk]at hk
      split at hk
      · rename_i c;subst c
        injection hk with hk;subst hk
        refine⟨⟨B,0,ar.length,ar.length,1,true⟩,rfl,rfl,by simp[aO0,hlen],Nat.le_refl _,fun i hi=>by simp[aO0],fun h=>(by cases h),fun _=>⟨_,_,hblk,by simp[aIZ,hlen],fun i j hi hj=>?_⟩⟩
        have hi':i<(aOd ar fl).length:=by simpa[aO0]using hi
        have hj':j=0:=by simp[aO0]at hj;omega
        subst hj'
        refine⟨.bool (aOd ar fl)[i],?_,?_⟩
        · have:=aKr hi'
          simpa using this
        · have:(aO0 (aOd ar fl))[i][0]'hj=V.b (aOd ar fl)[i]:=by simp[aO0]
          rw[this];exact .b _
      · cases hk
     ·intro k k' o o' m m' h1 h2 m1 m2 p1 p2 r1 r2 hne
      simp only[lk]at h1 h2
      split at h1
      · rename_i c1
        split at h2
        · rename_i c2;exact absurd (c1.symm.trans c2) hne
        · cases h2
      · cases h1
     ·rintro g ⟨k,o,m,h1,h2,h3,h4,rfl⟩
      have h3:(if k=0 then some (⟨B,0,ar.length,ar.length,1,true⟩:RL)else none)=some m:=h3
      split at h3
      · injection h3 with h3;subst h3;exact hI
      · cases h3
     ·intro g hg
      have:=hs.imb g hg
      have:=hbel.size
      omega
     ·intro k hk
      simp only[lk]at hk
      split at hk
      · cases hk
      · rename_i c
        show (if k=0 then _ else none)=none
        rw[if_neg (fun e=>c e.symm)]
     ·exact fun g o ho=>aH4 (hs.tb g o ho) id (fun hi=>hbel.block g (hs.imb g hi))
     ·rintro g ⟨k,o,m,h1,h2,h3,h4,rfl⟩
      have h3:(if k=0 then some (⟨B,0,ar.length,ar.length,1,true⟩:RL)else none)=some m:=h3
      split at h3
      · injection h3 with h3;subst h3;exact .inr hB
      · cases h3
     ·have:=RepD.own (fo:=fo) (Im:=Im) (w:=w') (φ:=φ2) 0 ⟨B,0,ar.length,ar.length,1,true⟩ none rfl
      exact this
     ·refine⟨hrep.1,fun i hi hi'=>?_⟩
      have hren:D.renL id [D.p (.sl 4 ns),D.p (.sl 1 fs)]=[D.p (.sl 4 ns),D.p (.sl 1 fs)]:=rfl
      have hp:=hrep.2 i hi hi'
      have:∀ d:D,RepD fo φ Im w d ([Value.slice an ar.length cn,Value.slice af fl.length cf][i])->(∃ u,d=.p u)->RepD fo φ2 Im w' d ([Value.slice an ar.length cn,Value.slice af fl.length cf][i]):=by
        rintro d hd ⟨u,rfl⟩
        exact .p _ _ (hd.p_inv.mono (fun _ h=>h) (fun g hg=>hbel.block g (hs.imb g hg)))
      refine this _ hp ?_
      match i,hi with
      | 0,_=>exact⟨_,rfl⟩
      | 1,_=>exact⟨_,rfl⟩
     ·intro x hx
      simp only[List.mem_singleton]at hx
      subst hx
      rfl
   ·cases he
  ·cases he
 ·cases he
def aEr (x:List (Int×Int×List Int×Int)):List (List Int):=x.map (·.2.2.1)
def aSp {R:Type}:En R:=fun ds h k=>match ds,h with
 | [.p (.l (.t [.i .i64,.i .i64,.sl [.i .i64],.i .i64] x)),.p (.l (.t [.i .i64] f))],[]=>bif aOe (aEr x) f then k [] [.own 0] [(0,.arr (.t [.b] (aOd (aEr x) f)))]else none
 | _,_=>none
def ndV (x:List (Int×Int×List Int×Int)):List (List V):=x.map fun y=>[.i .i64 y.1,.i .i64 y.2.1,.sl 1 (aHF y.2.2.1),.i .i64 y.2.2.2]
theorem aL9:∀ x:List (Int×Int×List Int×Int),aJ7 (ndV x)=some (aEr x)
 | []=>rfl
 | y :: r=>by
  show (aIJ (aHF y.2.2.1)).bind (fun l=>(aJ7 (ndV r)).map (l :: ·))=_
  rw[aH0,aL9 r];rfl
theorem aRC (x:List (Int×Int×List Int×Int))(f:List Int)(h:aOe (aEr x) f=true):aJ9 [.p (.sl 4 (ndV x)),.p (.sl 1 (aHF f))] []=some ([],[.own 0],[(0,.arr 1 (aO0 (aOd (aEr x) f)))]):=by
 unfold aJ9
 simp only[aH0,aL9]
 rw[if_pos h]
theorem aWP {R:Type}{T:Tab}{v:Nat}(hv:T.ver v=none)(hx:T.ext v=aJ9):Snd T v (aSp:En R):=by
 intro ds h k r hk
 unfold aSp at hk
 split at hk
 ·rename_i x f
  cases hb:aOe (aEr x) f with
  | false=>rw[hb]at hk;cases hk
  | true=>
   rw[hb]at hk
   refine⟨_,_,_,?_,hk⟩
   rw[aFH hv,hx]
   exact aRC x f hb
 ·cases hk
end
end Am
end Go.Proofs.YtkmbhgggpfbffaaGreatDoor
