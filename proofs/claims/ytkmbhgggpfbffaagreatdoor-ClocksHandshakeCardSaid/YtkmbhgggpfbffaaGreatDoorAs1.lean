/- The typed layer: values whose lists are typed, and an evaluator that goes on with what comes behind. Definitions alone. -/
import Derived.Test.YtkmbhgggpfbffaaGreatDoorAm29
set_option linter.unusedVariables false
set_option linter.unusedSimpArgs false
set_option linter.constructorNameAsVariable false
namespace Go.Proofs.YtkmbhgggpfbffaaGreatDoor
namespace Am
mutual
def Sh.den:Sh->Type
 | .i _=>Int
 | .b=>Bool
 | .s=>ByteArray
 | .sl es=>List (aJH es)
def aJH:List Sh->Type
 | []=>Unit
 | [s]=>s.den
 | s :: t :: q=>s.den×aJH (t :: q)
end
mutual
def Sh.beq:Sh->Sh->Bool
 | .i k,.i k'=>decide (k=k')
 | .b,.b=>true
 | .s,.s=>true
 | .sl a,.sl b=>bF7 a b
 | _,_=>false
def bF7:List Sh->List Sh->Bool
 | [],[]=>true
 | a :: r,b :: q=>a.beq b&&bF7 r q
 | _,_=>false
end
mutual
theorem Sh.beq_eq:∀ (a b:Sh),a.beq b=true->a=b
 | .i k,.i k',h=>by simp only[Sh.beq,decide_eq_true_eq]at h;rw[h]
 | .b,.b,_=>rfl
 | .s,.s,_=>rfl
 | .sl a,.sl b,h=>by simp only[Sh.beq]at h;rw[aH8 a b h]
 | .i _,.b,h=>by cases h
 | .i _,.s,h=>by cases h
 | .i _,.sl _,h=>by cases h
 | .b,.i _,h=>by cases h
 | .b,.s,h=>by cases h
 | .b,.sl _,h=>by cases h
 | .s,.i _,h=>by cases h
 | .s,.b,h=>by cases h
 | .s,.sl _,h=>by cases h
 | .sl _,.i _,h=>by cases h
 | .sl _,.b,h=>by cases h
 | .sl _,.s,h=>by cases h
theorem aH8:∀ (a b:List Sh),bF7 a b=true->a=b
 | [],[],_=>rfl
 | a :: r,b :: q,h=>by
  simp only[bF7,Bool.and_eq_true]at h
  rw[Sh.beq_eq a b h.1,aH8 r q h.2]
 | [],_ :: _,h=>by cases h
 | _ :: _,[],h=>by cases h
end
inductive EL where
 | t (es:List Sh) (xs:List (aJH es))
 | e (sz:Nat)
inductive S where
 | i (k:IntKind) (n:Int)
 | b (b:Bool)
 | s (s:ByteArray)
 | l (e:EL)
 | cp (cells:List S)
 | fn (v:Nat) (caps:List S)
 | nl (kind:Nat)
 | ifc (t:Nat) (agg:Bool) (xs:List S)
inductive DS where
 | p (p:S)
 | own (k:Nat)
 | arr (k off len:Nat) (ap:Bool)
 | ptr (k off:Nat)
 | ep (k i off:Nat)
 | mp (k:Nat)
 | fn (v:Nat) (caps:List DS)
 | ifc (t:Nat) (agg:Bool) (xs:List DS)
 | agg (xs:List DS)
 | tup (xs:List DS)
 | und
inductive ObS where
 | box (cells:List DS)
 | arr (e:EL)
 | frz (e:EL)
 | fbx (cells:List S)
 | mp (ks vs:Sh) (c:Nat) (xs:List (ks.den×Nat×vs.den))
 | dead
abbrev aBq:=List (Nat×ObS)
abbrev aLZ:=List (Nat×DS)
structure StS where
 env:aLZ
 heap:aBq
mutual
def Sh.enc:(s:Sh)->s.den->V
 | .i k,n=>.i k n
 | .b,t=>.b t
 | .s,x=>.s x
 | .sl es,xs=>.sl es.length (List.map (aKa es) xs)
def aKa:(es:List Sh)->aJH es->List V
 | [],_=>[]
 | [s],x=>[s.enc x]
 | s :: t :: q,x=>s.enc x.1 :: aKa (t :: q) x.2
end
def Sh.inj:(s:Sh)->s.den->S
 | .i k,n=>.i k n
 | .b,t=>.b t
 | .s,x=>.s x
 | .sl es,xs=>.l (.t es xs)
def aXc:(es:List Sh)->aJH es->List S
 | [],_=>[]
 | [s],x=>[s.inj x]
 | s :: t :: q,x=>s.inj x.1 :: aXc (t :: q) x.2
def EL.sz:EL->Nat
 | .t es _=>es.length
 | .e n=>n
def EL.xs:EL->List (List V)
 | .t es xs=>List.map (aKa es) xs
 | .e _=>[]
def EL.len:EL->Nat
 | .t _ xs=>xs.length
 | .e _=>0
mutual
def S.enc:S->V
 | .i k n=>.i k n
 | .b t=>.b t
 | .s x=>.s x
 | .l e=>.sl e.sz e.xs
 | .cp cells=>.cp (S.encs cells)
 | .fn v caps=>.fn v (S.encs caps)
 | .nl k=>.nl k
 | .ifc t a xs=>.ifc t a (S.encs xs)
def S.encs:List S->List V
 | []=>[]
 | x :: r=>x.enc :: S.encs r
end
mutual
def DS.enc:DS->D
 | .p u=>.p u.enc
 | .own k=>.own k
 | .arr k off len ap=>.arr k off len ap
 | .ptr k off=>.ptr k off
 | .ep k i off=>.ep k i off
 | .mp k=>.mp k
 | .fn v caps=>.fn v (DS.encs caps)
 | .ifc t a xs=>.ifc t a (DS.encs xs)
 | .agg xs=>.agg (DS.encs xs)
 | .tup xs=>.tup (DS.encs xs)
 | .und=>.und
def DS.encs:List DS->List D
 | []=>[]
 | x :: r=>x.enc :: DS.encs r
end
def ObS.enc:ObS->Ob
 | .box cs=>.box (DS.encs cs)
 | .arr e=>.arr e.sz e.xs
 | .frz e=>.frz e.sz e.xs
 | .fbx cs=>.fbx (S.encs cs)
 | .mp ks vs c xs=>.mp c (xs.map fun x=>(ks.enc x.1,x.2.1,vs.enc x.2.2))
 | .dead=>.dead
def aL0 (e:aLZ):Env:=e.map fun x=>(x.1,x.2.enc)
def aE2 (h:aBq):aAR:=h.map fun x=>(x.1,x.2.enc)
def StS.enc (s:StS):St:=⟨aL0 s.env,aE2 s.heap⟩
def EL.as (es:List Sh):EL->Option (List (aJH es))
 | .t es' xs=>if h:bF7 es' es=true then some ((aH8 es' es h)▸xs)else none
 | .e sz=>bif sz == es.length then some []else none
def bOE (k:IntKind):S->Option Int
 | .i k' n=>bif decide (k'=k)then some n else none
 | _=>none
def bNi:S->Option Bool
 | .b t=>some t
 | _=>none
def bM9:S->Option ByteArray
 | .s x=>some x
 | _=>none
def bPJ (es:List Sh):S->Option (List (aJH es))
 | .l e=>e.as es
 | _=>none
def Sh.prj:(s:Sh)->S->Option s.den
 | .i k=>bOE k
 | .b=>bNi
 | .s=>bM9
 | .sl es=>bPJ es
def aYu:List S->Option (S×List S)
 | x :: r=>some (x,r)
 | []=>none
def bLY {α:Type}(a:α):List S->Option α
 | []=>some a
 | _ :: _=>none
def bKy:(es:List Sh)->List S->Option (aJH es)
 | [],us=>bLY () us
 | [s],us=>(aYu us).bind fun x=>(s.prj x.1).bind fun a=>bLY a x.2
 | s :: t :: q,us=>(aYu us).bind fun x=>(s.prj x.1).bind fun a=>(bKy (t :: q) x.2).bind fun b=>some (a,b)
def S.sh:S->Option Sh
 | .i k _=>some (.i k)
 | .b _=>some .b
 | .s _=>some .s
 | .l (.t es _)=>some (.sl es)
 | _=>none
def shs:List S->Option (List Sh)
 | []=>some []
 | x :: r=>x.sh.bind fun a=>(shs r).bind fun b=>some (a :: b)
mutual
def V.toS:V->Option S
 | .i k n=>some (.i k n)
 | .b t=>some (.b t)
 | .s x=>some (.s x)
 | .sl sz []=>some (.l (.e sz))
 | .cp cells=>(V.toSs cells).map .cp
 | .fn v caps=>(V.toSs caps).map (.fn v)
 | .nl k=>some (.nl k)
 | _=>none
def V.toSs:List V->Option (List S)
 | []=>some []
 | x :: r=>x.toS.bind fun a=>(V.toSs r).bind fun b=>some (a :: b)
end
inductive PV where
 | s (sh:Sh)
 | cp (ps:List PV)
 | fn (v:Nat) (ps:List PV)
 | nl (kind:Nat)
 | e (sz:Nat)
 | ki (k:IntKind) (c:Int)
 | kb (c:Bool)
 | ks (c:ByteArray)
 | fv (ps:List PV)
 | fa
inductive PD where
 | p (v:PV)
 | own (k:Nat)
 | mp (k:Nat)
 | arr (k:Nat) (ap:Bool)
 | ptr (k off:Nat)
 | ep (k off:Nat)
 | agg (ps:List PD)
 | fn (v:Nat) (ps:List PD)
 | und
 | fv (ps:List PD)
inductive PO where
 | box (ps:List PD)
 | arr (es:List Sh)
 | frz (es:List Sh)
 | em (sz:Nat)
 | emf (sz:Nat)
 | fbx (ps:List PV)
 | mp (ks vs:Sh)
 | dead
structure SP where
 env:List (Nat×PD)
 heap:List (Nat×PO)
mutual
def PV.den:PV->Type
 | .s sh=>sh.den
 | .cp ps=>aXA ps
 | .fn _ ps=>aXA ps
 | .nl _=>Unit
 | .e _=>Unit
 | .ki _ _=>Unit
 | .kb _=>Unit
 | .ks _=>Unit
 | .fv ps=>Nat×aXA ps
 | .fa=>Nat×List S
def aXA:List PV->Type
 | []=>Unit
 | p :: r=>p.den×aXA r
end
mutual
def PD.den:PD->Type
 | .p v=>v.den
 | .own _=>Unit
 | .mp _=>Unit
 | .arr _ _=>Nat×Nat
 | .ptr _ _=>Unit
 | .ep _ _=>Nat
 | .agg ps=>aUF ps
 | .fn _ ps=>aUF ps
 | .und=>Unit
 | .fv ps=>Nat×aUF ps
def aUF:List PD->Type
 | []=>Unit
 | p :: r=>p.den×aUF r
end
def PO.den:PO->Type
 | .box ps=>aUF ps
 | .arr es=>List (aJH es)
 | .frz es=>List (aJH es)
 | .em _=>Unit
 | .emf _=>Unit
 | .fbx ps=>aXA ps
 | .mp ks vs=>Nat×List (ks.den×Nat×vs.den)
 | .dead=>Unit
def bBn:List (Nat×PO)->Type
 | []=>Unit
 | p :: r=>p.2.den×bBn r
def bDt:List (Nat×PD)->Type
 | []=>Unit
 | p :: r=>p.2.den×bDt r
abbrev SP.den (P:SP):Type:=bDt P.env×bBn P.heap
def cpU:S->Option (List S)
 | .cp l=>some l
 | _=>none
def fnU (v:Nat):S->Option (List S)
 | .fn v' l=>bif v' == v then some l else none
 | _=>none
def nlU (kind:Nat):S->Option Unit
 | .nl k=>bif k == kind then some ()else none
 | _=>none
def eU (sz:Nat):S->Option Unit
 | .l (.e n)=>bif n == sz then some ()else none
 | _=>none
def kiU (k:IntKind)(c:Int):S->Option Unit
 | .i k' n=>bif decide (k'=k)&&decide (n=c)then some ()else none
 | _=>none
def kbU (c:Bool):S->Option Unit
 | .b t=>bif t == c then some ()else none
 | _=>none
def ksU (c:ByteArray):S->Option Unit
 | .s t=>bif decide (t=c)then some ()else none
 | _=>none
def fvU:S->Option (Nat×List S)
 | .fn v l=>some (v,l)
 | _=>none
mutual
def PV.mt:(p:PV)->S->Option p.den
 | .s sh,u=>sh.prj u
 | .cp ps,u=>(cpU u).bind (mtV ps)
 | .fn v ps,u=>(fnU v u).bind (mtV ps)
 | .nl k,u=>nlU k u
 | .e sz,u=>eU sz u
 | .ki k c,u=>kiU k c u
 | .kb c,u=>kbU c u
 | .ks c,u=>ksU c u
 | .fv ps,u=>(fvU u).bind fun x=>(mtV ps x.2).bind fun y=>some (x.1,y)
 | .fa,u=>fvU u
def mtV:(ps:List PV)->List S->Option (aXA ps)
 | [],us=>bLY () us
 | p :: r,us=>(aYu us).bind fun x=>(p.mt x.1).bind fun a=>(mtV r x.2).bind fun b=>some (a,b)
end
mutual
def PV.bd:(p:PV)->p.den->S
 | .s sh,x=>sh.inj x
 | .cp ps,x=>.cp (bdV ps x)
 | .fn v ps,x=>.fn v (bdV ps x)
 | .nl k,_=>.nl k
 | .e sz,_=>.l (.e sz)
 | .ki k c,_=>.i k c
 | .kb c,_=>.b c
 | .ks c,_=>.s c
 | .fv ps,x=>.fn x.1 (bdV ps x.2)
 | .fa,x=>.fn x.1 x.2
def bdV:(ps:List PV)->aXA ps->List S
 | [],_=>[]
 | p :: r,x=>p.bd x.1 :: bdV r x.2
end
def headD:List DS->Option (DS×List DS)
 | x :: r=>some (x,r)
 | []=>none
def bRP {α:Type}(a:α):List DS->Option α
 | []=>some a
 | _ :: _=>none
def pU:DS->Option S
 | .p u=>some u
 | _=>none
def bPi (k:Nat):DS->Option Unit
 | .own k'=>bif k' == k then some ()else none
 | _=>none
def bNT (k:Nat):DS->Option Unit
 | .mp k'=>bif k' == k then some ()else none
 | _=>none
def bOJ (k:Nat)(ap:Bool):DS->Option (Nat×Nat)
 | .arr k' off len ap'=>bif k' == k&&ap' == ap then some (off,len)else none
 | _=>none
def bQf (k off:Nat):DS->Option Unit
 | .ptr k' off'=>bif k' == k&&off' == off then some ()else none
 | _=>none
def epU (k off:Nat):DS->Option Nat
 | .ep k' i off'=>bif k' == k&&off' == off then some i else none
 | _=>none
def bRG:DS->Option (List DS)
 | .agg l=>some l
 | _=>none
def bSl (v:Nat):DS->Option (List DS)
 | .fn v' l=>bif v' == v then some l else none
 | _=>none
def bSn:DS->Option (Nat×List DS)
 | .fn v l=>some (v,l)
 | _=>none
def bNH:DS->Option Unit
 | .und=>some ()
 | _=>none
mutual
def PD.mt:(p:PD)->DS->Option p.den
 | .p v,d=>(pU d).bind v.mt
 | .own k,d=>bPi k d
 | .mp k,d=>bNT k d
 | .arr k ap,d=>bOJ k ap d
 | .ptr k off,d=>bQf k off d
 | .ep k off,d=>epU k off d
 | .agg ps,d=>(bRG d).bind (mtD ps)
 | .fn v ps,d=>(bSl v d).bind (mtD ps)
 | .und,d=>bNH d
 | .fv ps,d=>(bSn d).bind fun x=>(mtD ps x.2).bind fun y=>some (x.1,y)
def mtD:(ps:List PD)->List DS->Option (aUF ps)
 | [],us=>bRP () us
 | p :: r,us=>(headD us).bind fun x=>(p.mt x.1).bind fun a=>(mtD r x.2).bind fun b=>some (a,b)
end
mutual
def PD.bd:(p:PD)->p.den->DS
 | .p v,x=>.p (v.bd x)
 | .own k,_=>.own k
 | .mp k,_=>.mp k
 | .arr k ap,x=>.arr k x.1 x.2 ap
 | .ptr k off,_=>.ptr k off
 | .ep k off,i=>.ep k i off
 | .agg ps,x=>.agg (bdD ps x)
 | .fn v ps,x=>.fn v (bdD ps x)
 | .und,_=>.und
 | .fv ps,x=>.fn x.1 (bdD ps x.2)
def bdD:(ps:List PD)->aUF ps->List DS
 | [],_=>[]
 | p :: r,x=>p.bd x.1 :: bdD r x.2
end
def bRU:ObS->Option (List DS)
 | .box l=>some l
 | _=>none
def bL4:ObS->Option EL
 | .arr e=>some e
 | _=>none
def bLZ:ObS->Option EL
 | .frz e=>some e
 | _=>none
def bRD:ObS->Option (List S)
 | .fbx l=>some l
 | _=>none
def mpU (ks vs:Sh):ObS->Option (Nat×List (ks.den×Nat×vs.den))
 | .mp ks' vs' c xs=>if h:ks'.beq ks=true then if h2:vs'.beq vs=true then some (c,(Sh.beq_eq ks' ks h)▸(Sh.beq_eq vs' vs h2)▸xs)else none else none
 | _=>none
def bCg:ObS->Option Unit
 | .dead=>some ()
 | _=>none
def emE (sz:Nat):EL->Option Unit
 | .e n=>bif n == sz then some ()else none
 | _=>none
def PO.mt:(p:PO)->ObS->Option p.den
 | .box ps,o=>(bRU o).bind (mtD ps)
 | .arr es,o=>(bL4 o).bind (EL.as es)
 | .frz es,o=>(bLZ o).bind (EL.as es)
 | .em sz,o=>(bL4 o).bind (emE sz)
 | .emf sz,o=>(bLZ o).bind (emE sz)
 | .fbx ps,o=>(bRD o).bind (mtV ps)
 | .mp ks vs,o=>mpU ks vs o
 | .dead,o=>bCg o
def PO.bd:(p:PO)->p.den->ObS
 | .box ps,x=>.box (bdD ps x)
 | .arr es,x=>.arr (.t es x)
 | .frz es,x=>.frz (.t es x)
 | .em sz,_=>.arr (.e sz)
 | .emf sz,_=>.frz (.e sz)
 | .fbx ps,x=>.fbx (bdV ps x)
 | .mp ks vs,x=>.mp ks vs x.1 x.2
 | .dead,_=>.dead
def aXE {α:Type}(n:Nat):List (Nat×α)->Option (α×List (Nat×α))
 | x :: r=>bif x.1 == n then some (x.2,r)else none
 | []=>none
def bPj {α β:Type}(a:β):List (Nat×α)->Option β
 | []=>some a
 | _ :: _=>none
def mtH:(ps:List (Nat×PO))->aBq->Option (bBn ps)
 | [],us=>bPj () us
 | p :: r,us=>(aXE p.1 us).bind fun x=>(p.2.mt x.1).bind fun a=>(mtH r x.2).bind fun b=>some (a,b)
def bdH:(ps:List (Nat×PO))->bBn ps->aBq
 | [],_=>[]
 | p :: r,x=>(p.1,p.2.bd x.1) :: bdH r x.2
def mtE:(ps:List (Nat×PD))->aLZ->Option (bDt ps)
 | [],us=>bPj () us
 | p :: r,us=>(aXE p.1 us).bind fun x=>(p.2.mt x.1).bind fun a=>(mtE r x.2).bind fun b=>some (a,b)
def bdE:(ps:List (Nat×PD))->bDt ps->aLZ
 | [],_=>[]
 | p :: r,x=>(p.1,p.2.bd x.1) :: bdE r x.2
def SP.mt (P:SP)(s:StS):Option P.den:=(mtE P.env s.env).bind fun a=>(mtH P.heap s.heap).bind fun b=>some (a,b)
def SP.bd (P:SP)(x:P.den):StS:=⟨bdE P.env x.1,bdH P.heap x.2⟩
structure AP where
 ds:List PD
 heap:List (Nat×PO)
abbrev AP.den (P:AP):Type:=aUF P.ds×bBn P.heap
def AP.mt (P:AP)(ds:List DS)(h:aBq):Option P.den:=(mtD P.ds ds).bind fun a=>(mtH P.heap h).bind fun b=>some (a,b)
def bIo {R:Type}:List SP->StS->(StS->Option R)->Option R
 | [],s,k=>k s
 | P :: r,s,k=>match P.mt s with
  | some x=>k (P.bd x)
  | none=>bIo r s k
def bLz {R:Type}:List AP->List DS->aBq->(List DS->aBq->Option R)->Option R
 | [],ds,h,k=>k ds h
 | P :: r,ds,h,k=>match P.mt ds h with
  | some x=>k (bdD P.ds x.1) (bdH P.heap x.2)
  | none=>bLz r ds h k
section
variable {R:Type}
abbrev MS (R:Type):=StS->List Acc->(StS->List Acc->Option R)->Option R
abbrev CfS (R:Type):=Nat->List DS->aBq->(List Nat->List DS->aBq->Option R)->Option R
def aCM:MS R:=fun _ _ _=>none
def bOg:MS R:=fun s l k=>k s l
def rdS (t:Nat)(kk:DS->MS R):MS R:=fun s l k=>match lk s.env t with
 | some d=>kk d s l k
 | none=>none
def wrS (t:Nat)(d:DS)(m:MS R):MS R:=fun s l k=>m ⟨(t,d) :: s.env,s.heap⟩ l k
def aLV (key:Nat)(kk:ObS->MS R):MS R:=fun s l k=>match lk s.heap key with
 | some o=>kk o s (⟨key,none,false⟩ :: l) k
 | none=>none
def aNz (key:Nat)(o:ObS)(m:MS R):MS R:=fun s l k=>match lk s.heap key with
 | some _=>m ⟨s.env,(key,o) :: s.heap⟩ (⟨key,none,true⟩ :: l) k
 | none=>none
def aQA (key:Nat)(o:ObS)(m:MS R):MS R:=fun s l k=>match lk s.heap key with
 | some _=>none
 | none=>m ⟨s.env,(key,o) :: s.heap⟩ (⟨key,none,true⟩ :: l) k
def aNE:ObS->Nat->Option DS
 | .box cs,off=>cs[off]?
 | .fbx cs,off=>(cs[off]?).map .p
 | _,_=>none
def DS.one:DS->Bool
 | .agg _ | .tup _ | .und=>false
 | _=>true
def aNA:ObS->Nat->DS->Option ObS
 | .box cs,off,d=>bif decide (off<cs.length)&&d.one then some (.box (cs.set off d))else none
 | _,_,_=>none
def aYT (key off:Nat)(kk:DS->MS R):MS R:=fun s l k=>match lk s.heap key with
 | some o=>(match aNE o off with
  | some d=>kk d s (⟨key,some off,false⟩ :: l) k
  | none=>none)
 | none=>none
def aYx (key off:Nat)(d:DS)(m:MS R):MS R:=fun s l k=>match lk s.heap key with
 | some o=>(match aNA o off d with
  | some o'=>m ⟨s.env,(key,o') :: s.heap⟩ (⟨key,some off,true⟩ :: l) k
  | none=>none)
 | none=>none
def bBj (FS:CfS R)(v:Nat)(ds:List DS)(h:aBq)(kk:List Nat->List DS->aBq->MS R):MS R:=fun s l k=>FS v ds h fun roots res h'=>kk roots res h' s l k
def gdS (b:Bool)(m:MS R):MS R:=fun s l k=>cond b (m s l k) none
def brS (b:Bool)(m m':MS R):MS R:=fun s l k=>cond b (m s l k) (m' s l k)
def ooS {α:Type}(o:Option α)(kk:α->MS R):MS R:=fun s l k=>o.bind fun a=>kk a s l k
def at? {α:Type}(xs:List α)(n:Int):Option α:=if 0<=n then xs[n.toNat]? else none
def inR (n:Int)(len:Nat):Bool:=decide (0<=n)&&decide (n<(len:Int))
def EL.cut (off len:Nat):EL->EL
 | .t es xs=>.t es ((xs.drop off).take len)
 | .e sz=>.e sz
def EL.get (n:Nat)(kk:List S->MS R):EL->MS R
 | .t es xs=>ooS xs[n]? fun x=>kk (aXc es x)
 | .e _=>aCM
def EL.atI (n:Int)(kk:List S->MS R):EL->MS R
 | .t es xs=>ooS (at? xs n) fun x=>kk (aXc es x)
 | .e _=>aCM
def aQJ (cs:List S)(off:Nat)(vs:List S):List S:=cs.take off++vs++cs.drop (off+vs.length)
def EL.put (n off:Nat)(vs:List S)(kk:EL->MS R):EL->MS R
 | .t es xs=>ooS xs[n]? fun x=>gdS (decide (off+vs.length<=(aXc es x).length)) (ooS (bKy es (aQJ (aXc es x) off vs)) fun y=>kk (.t es (xs.set n y)))
 | .e _=>aCM
def EL.app:EL->EL->Option EL
 | .t es xs,.t es' ys=>if h:bF7 es' es=true then some (.t es (xs++(aH8 es' es h)▸ys))else none
 | .t es xs,.e sz=>bif sz == es.length then some (.t es xs)else none
 | .e sz,.t es ys=>bif es.length == sz then some (.t es ys)else none
 | .e sz,.e sz'=>bif sz' == sz then some (.e sz)else none
def EL.over (n:Nat):EL->EL->Option EL
 | .t es xs,.t es' ys=>if h:bF7 es' es=true then some (.t es (xs.take n++((aH8 es' es h)▸ys)++xs.drop (n+ys.length)))else none
 | .t es xs,.e sz=>bif sz == es.length then some (.t es (xs.take n++xs.drop n))else none
 | _,_=>none
def ELs (es:List Sh):List (List S)->Option (List (aJH es))
 | []=>some []
 | c :: r=>(bKy es c).bind fun x=>(ELs es r).bind fun xs=>some (x :: xs)
def EL.of (hint:Option (List Sh))(sz:Nat):List (List S)->Option EL
 | []=>some (.e sz)
 | c :: r=>(hint.orElse fun _=>shs c).bind fun es=>bif es.length == sz then (ELs es (c :: r)).bind fun xs=>some (.t es xs)else none
def EL.rep (hint:Option (List Sh))(n sz:Nat)(zero:List S):Option EL:=
 (hint.orElse fun _=>shs zero).bind fun es=>bif es.length == sz then (bKy es zero).bind fun x=>some (.t es (List.replicate n x))else none
def aLl (kk:Bool->EL->MS R):ObS->MS R
 | .arr e=>kk false e
 | .frz e=>kk true e
 | _=>aCM
def aQe (kk:EL->MS R):ObS->MS R
 | .arr e=>kk e
 | _=>aCM
def bHd (c:Bool)(key:Nat)(o:ObS)(m:MS R):MS R:=match c with
 | true=>aNz key o m
 | false=>m
mutual
def toS (perm:Bool):Nat->DS->(S->MS R)->MS R
 | 0,_,_=>aCM
 | _+1,.p u,k=>k u
 | _+1,.own key,k=>aLV key (aLl fun fz e=>bHd (perm&&!fz) key (.frz e) (k (.l e)))
 | _+1,.arr key off len _,k=>aLV key (aLl fun fz e=>bHd (perm&&!fz) key (.frz e) (gdS (decide (off+len<=e.len)) (k (.l (e.cut off len)))))
 | n+1,.ptr key off,k=>aLV key (bRC perm n key off k)
 | _+1,.ep key i off,k=>aLV key (aLl fun fz e=>bHd (perm&&!fz) key (.frz e) (e.get i fun cs=>k (.cp (cs.drop off))))
 | n+1,.fn v caps,k=>toSs perm n caps fun vs=>k (.fn v vs)
 | n+1,.ifc t a xs,k=>toSs perm n xs fun vs=>k (.ifc t a vs)
 | _+1,.mp _,_=>aCM
 | _+1,.agg _,_=>aCM
 | _+1,.tup _,_=>aCM
 | _+1,.und,_=>aCM
def bRC (perm:Bool):Nat->Nat->Nat->(S->MS R)->ObS->MS R
 | 0,_,_,_,_=>aCM
 | n+1,key,off,k,.box cs=>toSs perm n cs fun vs=>bHd perm key (.fbx vs) (k (.cp (vs.drop off)))
 | _+1,_,off,k,.fbx vs=>k (.cp (vs.drop off))
 | _+1,_,_,_,_=>aCM
def toSs (perm:Bool):Nat->List DS->(List S->MS R)->MS R
 | 0,_,_=>aCM
 | _+1,[],k=>k []
 | n+1,d :: r,k=>toS perm n d fun v=>toSs perm n r fun vs=>k (v :: vs)
end
def DS.cells:DS->List DS
 | .agg xs=>xs
 | d=>[d]
def vlS (x:Od)(k:DS->MS R):MS R:=
 match x with
 | .t n=>rdS n k
 | .c v=>ooS v.toS fun u=>k (.p u)
 | .f v=>k (.p (.fn v []))
 | .z sz key=>aQA key (.arr (.e sz)) (k (.own key))
def bGH:List Od->(List DS->MS R)->MS R
 | [],k=>k []
 | x :: r,k=>vlS x fun d=>bGH r fun ds=>k (d :: ds)
def aU2 (k:IntKind->Int->MS R):DS->MS R
 | .p (.i kd n)=>k kd n
 | _=>aCM
def bIu (k:Bool->MS R):DS->MS R
 | .p (.b t)=>k t
 | _=>aCM
def bA0 (k:S->MS R):DS->MS R
 | .p u=>k u
 | _=>aCM
def bGC (k:List DS->MS R):DS->MS R
 | .agg xs=>k xs
 | _=>aCM
def aKQ (k:EL->MS R):DS->MS R
 | .p (.l e)=>k e
 | .own key=>aLV key (aLl fun _ e=>k e)
 | .arr key off len _=>aLV key (aLl fun _ e=>gdS (decide (off+len<=e.len)) (k (e.cut off len)))
 | _=>aCM
def w64 (x:Int):Int:=IntKind.i64.wrap x
def bLe (k:IntKind)(a b:Int):Int:=k.wrap (BitVec.ofInt k.bits a &&& BitVec.ofInt k.bits b).toNat
def orI (k:IntKind)(a b:Int):Int:=k.wrap (BitVec.ofInt k.bits a ||| BitVec.ofInt k.bits b).toNat
def bQA (k:IntKind)(a b:Int):Int:=k.wrap (BitVec.ofInt k.bits a ^^^ BitVec.ofInt k.bits b).toNat
def bQN (k:IntKind)(a:Int):Int:=k.wrap (BitVec.ofInt k.bits (if k.signed then -1 else k.max) ^^^ BitVec.ofInt k.bits a).toNat
def bEu (k:IntKind)(a b:Int):Int:=k.wrap (BitVec.ofInt k.bits a &&& ~~~BitVec.ofInt k.bits b).toNat
def aZx (op:BinOp)(k:IntKind)(a b:Int)(kk:S->MS R):MS R:=
 match op with
 | .add=>kk (.i k (k.wrap (a+b)))
 | .sub=>kk (.i k (k.wrap (a-b)))
 | .mul=>kk (.i k (k.wrap (a*b)))
 | .quo=>brS (decide (b=0)) aCM (kk (.i k (k.wrap (a.tdiv b))))
 | .rem=>brS (decide (b=0)) aCM (kk (.i k (a.tmod b)))
 | .eql=>kk (.b (decide (a=b)))
 | .neq=>kk (.b (decide (a≠b)))
 | .lss=>kk (.b (decide (a<b)))
 | .leq=>kk (.b (decide (a<=b)))
 | .gtr=>kk (.b (decide (b<a)))
 | .geq=>kk (.b (decide (b<=a)))
 | .and=>kk (.i k (bLe k a b))
 | .or=>kk (.i k (orI k a b))
 | .xor=>kk (.i k (bQA k a b))
 | .andNot=>kk (.i k (bEu k a b))
 | _=>aCM
def aPi (k:IntKind)(a b:Int):Int:=k.wrap (a*2^(min b.toNat k.bits))
def aLT (k:IntKind)(a b:Int):Int:=a.fdiv (2^(min b.toNat k.bits))
def bA2 (op:BinOp)(k:IntKind)(a b:Int)(kk:S->MS R):MS R:=
 match op with
 | .shl=>brS (decide (b<0)) aCM (kk (.i k (aPi k a b)))
 | .shr=>brS (decide (b<0)) aCM (kk (.i k (aLT k a b)))
 | _=>aCM
def bNq (op:BinOp)(kk:S->MS R):S->S->MS R
 | .i k a,.i k' b=>bif aMQ op then bA2 op k a b kk else gdS (decide (k=k')) (aZx op k a b kk)
 | .s a,.s b=>(match op with
  | .eql=>kk (.b (decide (a=b)))
  | .neq=>kk (.b (decide (a≠b)))
  | .add=>brS (decide (((a.size+b.size:Nat):Int)>9223372036854775807)) aCM (kk (.s (a++b)))
  | _=>aCM)
 | _,_=>aCM
def eqS:Nat->S->S->Option Bool
 | 0,.i k a,.i k' b=>bif decide (k=k')then some (decide (a=b))else none
 | 1,.b a,.b b=>some (a == b)
 | 2,.s a,.s b=>some (decide (a=b))
 | _,_,_=>none
def bGD:List Nat->List DS->List DS->Option Bool
 | [],[],[]=>some true
 | k :: ks,.p x :: xs,.p y :: ys=>(eqS k x y).bind fun e=>(bGD ks xs ys).bind fun r=>some (e&&r)
 | _,_,_=>none
def aSi (key:Nat):Nat->Nat->(List DS->MS R)->MS R
 | _,0,k=>k []
 | off,n+1,k=>aYT key off fun d=>aSi key (off+1) n fun ds=>k (d :: ds)
def aUe (key:Nat):Nat->List DS->MS R->MS R
 | _,[],k=>k
 | off,d :: r,k=>aYx key off d (aUe key (off+1) r k)
def aJX (cs:List S)(off:Nat)(k:DS->MS R):Option Nat->MS R
 | none=>ooS cs[off]? fun v=>k (.p v)
 | some n=>gdS (decide (off+n<=cs.length)) (k (.agg (((cs.drop off).take n).map .p)))
def bSN (key off:Nat)(k:DS->MS R):Option Nat->MS R
 | none=>aYT key off k
 | some n=>aSi key off n fun ds=>k (.agg ds)
def ldS (n:Option Nat)(k:DS->MS R):DS->MS R
 | .ptr key off=>bSN key off k n
 | .ep key i off=>aLV key (aLl fun _ e=>e.get i fun cs=>aJX cs off k n)
 | .p (.cp cells)=>aJX cells 0 k n
 | _=>aCM
def bMt:Option Nat->DS->Option (List DS)
 | none,.agg _=>none
 | none,.tup _=>none
 | none,.und=>none
 | none,d=>some [d]
 | some m,.agg xs=>bif xs.length == m then some xs else none
 | some _,_=>none
def bSW (key i off:Nat)(vs:List S)(m:MS R):ObS->MS R
 | .arr e=>e.put i off vs fun e'=>aNz key (.arr e') m
 | _=>aCM
def bOl (xs:List DS)(m:MS R):DS->MS R
 | .ptr key off=>aUe key off xs m
 | .ep key i off=>toSs true 300 xs fun vs=>aLV key (bSW key i off vs m)
 | _=>aCM
def bOo (sz:Nat)(n:Int)(k:DS->MS R):DS->MS R
 | .p (.l e)=>gdS (e.sz == sz) (e.atI n fun cs=>k (.p (.cp cs)))
 | .own key=>aLV key (aLl fun _ e=>gdS (e.sz == sz) (gdS (inR n e.len) (k (.ep key n.toNat 0))))
 | .arr key off len _=>aLV key (aLl fun _ e=>gdS (e.sz == sz) (gdS (inR n len) (gdS (decide (off+len<=e.len)) (k (.ep key (off+n.toNat) 0)))))
 | _=>aCM
def bPO (kk:(ks vs:Sh)->Nat->List (ks.den×Nat×vs.den)->MS R):ObS->MS R
 | .mp ks vs c xs=>kk ks vs c xs
 | _=>aCM
def bNC (k:Nat->MS R):Nat->DS->MS R
 | 0,d=>aKQ (fun e=>k e.len) d
 | 1,.p (.s s)=>k s.size
 | 2,.mp key=>aLV key (bPO fun _ _ _ xs=>k xs.length)
 | _,_=>aCM
def aBU (n bytes:Nat):Bool:=decide (n*bytes<=140737488355328)
def bJj (nm key off:Nat)(e ys:EL)(k:DS->MS R):MS R:=ooS ((e.cut off (e.len-off)).app ys) fun e'=>aNz key .dead (aQA nm (.arr e') (k (.own nm)))
def bOu (key off len:Nat)(e ys:EL)(k:DS->MS R):MS R:=
 gdS (decide (off+len+ys.len<=e.len)) (ooS (e.over (off+len) ys) fun e'=>aNz key (.arr e') (k (.arr key off (len+ys.len) true)))
def bLh (nm sz bytes:Nat)(ys:EL)(k:DS->MS R):DS->MS R
 | .own key=>aLV key (aQe fun e=>gdS (e.sz == sz) (gdS (aBU (e.len+ys.len) bytes) (ooS (e.app ys) fun e'=>aNz key .dead (aQA nm (.arr e') (k (.own nm))))))
 | .arr key off len true=>aLV key (aQe fun e=>gdS (e.sz == sz) (gdS (aBU (e.len+ys.len) bytes) (brS (off+len == e.len) (bJj nm key off e ys k) (bOu key off len e ys k))))
 | _=>aCM
def aO5:Nat->List V->(List DS->MS R)->MS R
 | _,[],k=>k []
 | nm,v :: r,k=>match v with
  | .sl sz _=>aQA nm (.arr (.e sz)) (aO5 (nm+1) r fun ds=>k (.own nm :: ds))
  | _=>ooS v.toS fun u=>aO5 (nm+1) r fun ds=>k (.p u :: ds)
def aJv:List (Nat×Nat×DS)->List (Option DS)->Option (List (Option DS))
 | [],cs=>some cs
 | (off,size,d) :: r,cs=>bif d.cells.length == size&&decide (off+size<=cs.length)&&d.cells.all (·.one)then aJv r (cs.take off++d.cells.map some++cs.drop (off+size))else none
def aNr:List (Nat×Nat×Od)->(List (Nat×Nat×DS)->MS R)->MS R
 | [],k=>k []
 | (off,size,x) :: r,k=>vlS x fun d=>aNr r fun ds=>k ((off,size,d) :: ds)
def aKJ:Nat->List V->List (Option DS)->(List DS->MS R)->MS R
 | nm,z :: zs,o :: r,k=>match o with
  | some d=>aKJ (nm+1) zs r fun ds=>k (d :: ds)
  | none=>(match z with
   | .sl sz _=>aQA nm (.arr (.e sz)) (aKJ (nm+1) zs r fun ds=>k (.own nm :: ds))
   | _=>ooS z.toS fun u=>aKJ (nm+1) zs r fun ds=>k (.p u :: ds))
 | _,[],[],k=>k []
 | _,_,_,_=>aCM
def aNC (sz:Nat):Nat->List S->List (List S)
 | 0,_=>[]
 | n+1,vs=>vs.take sz :: aNC sz n (vs.drop sz)
def aGP (d:Int)(k:Int->MS R):Option Od->MS R
 | none=>k d
 | some o=>vlS o (aU2 fun _ n=>k n)
def slB (l h m:Int)(len off n:Nat):Bool:=decide (0<=l∧l<=h∧h<=len∧h<=m∧m<=len∧off+len<=n)
def bOX (sz key off len:Nat)(ap:Bool)(e:EL)(mx:Option Od)(l h:Int)(k:DS->MS R)(m:Int):MS R:=
 gdS (e.sz == sz&&decide (0<sz)) (gdS (slB l h m len off e.len) (k (.arr key (off+l.toNat) (h.toNat-l.toNat) (ap&&mx.isNone))))
def slP (l h:Int)(len:Nat):Bool:=decide (0<=l∧l<=h∧h<=len)
def bG2 (sz:Nat)(lo hi mx:Option Od)(k:DS->MS R):DS->MS R
 | .p (.s s)=>aGP 0 (fun l=>aGP s.size (fun h=>gdS (mx.isNone&&sz == 0) (gdS (slP l h s.size) (k (.p (.s (s.extract l.toNat h.toNat)))))) hi) lo
 | .p (.l e)=>aGP 0 (fun l=>aGP e.len (fun h=>gdS (mx.isNone&&e.sz == sz&&decide (0<sz)) (gdS (slP l h e.len) (k (.p (.l (e.cut l.toNat (h.toNat-l.toNat))))))) hi) lo
 | .own key=>aLV key (aLl fun fz e=>aGP 0 (fun l=>aGP e.len (fun h=>aGP h (bOX sz key 0 e.len (!fz) e mx l h k) mx) hi) lo)
 | .arr key off len ap=>aLV key (aLl fun fz e=>aGP 0 (fun l=>aGP len (fun h=>aGP h (bOX sz key off len (ap&&!fz) e mx l h k) mx) hi) lo)
 | _=>aCM
def EL.from' (off:Nat):EL->EL
 | .t es xs=>.t es (xs.drop off)
 | .e sz=>.e sz
def aPl (nm:Nat)(k:DS->MS R):DS->MS R
 | .arr key off len true=>aLV key (aQe fun e=>gdS (off+len == e.len) (aNz key .dead (aQA nm (.arr (e.from' off)) (k (.own nm)))))
 | _=>aCM
mutual
def DS.refs:DS->List Nat
 | .p _=>[]
 | .own k=>[k]
 | .arr k _ _ _=>[k]
 | .ptr k _=>[k]
 | .ep k _ _=>[k]
 | .mp k=>[k]
 | .fn _ caps=>DS.refsL caps
 | .ifc _ _ xs=>DS.refsL xs
 | .agg xs=>DS.refsL xs
 | .tup xs=>DS.refsL xs
 | .und=>[]
def DS.refsL:List DS->List Nat
 | []=>[]
 | d :: r=>d.refs++DS.refsL r
end
mutual
def DS.ren (f:Nat->Nat):DS->DS
 | .p u=>.p u
 | .own k=>.own (f k)
 | .arr k off len ap=>.arr (f k) off len ap
 | .ptr k off=>.ptr (f k) off
 | .ep k i off=>.ep (f k) i off
 | .mp k=>.mp (f k)
 | .fn v caps=>.fn v (DS.renL f caps)
 | .ifc t a xs=>.ifc t a (DS.renL f xs)
 | .agg xs=>.agg (DS.renL f xs)
 | .tup xs=>.tup (DS.renL f xs)
 | .und=>.und
def DS.renL (f:Nat->Nat):List DS->List DS
 | []=>[]
 | d :: r=>d.ren f :: DS.renL f r
end
def ObS.refs:ObS->List Nat
 | .box cs=>DS.refsL cs
 | _=>[]
def ObS.ren (f:Nat->Nat):ObS->ObS
 | .box cs=>.box (DS.renL f cs)
 | o=>o
def ObS.mut:ObS->Bool
 | .box _ | .arr _ | .mp _ _ _ _=>true
 | _=>false
def aPf (h:aBq):Nat->List Nat->List Nat->Option (List Nat)
 | 0,_,_=>none
 | _+1,[],seen=>some seen
 | n+1,k :: ts,seen=>bif seen.contains k then aPf h n ts seen else (lk h k).bind fun o=>aPf h n (o.refs++ts) (seen++[k])
def aH1 (h:aBq)(ks all:List Nat):Nat->Option aBq
 | j=>match ks with
  | []=>some []
  | k :: r=>(lk h k).bind fun o=>(aH1 h r all (j+1)).bind fun t=>some ((j,o.ren (idx all)) :: t)
def aOR (ds:List DS)(h:aBq):Option (List DS×aBq):=
 (aPf h 1000 (DS.refsL ds) []).bind fun ks=>(aH1 h ks ks 0).bind fun h'=>some (DS.renL (idx ks) ds,h')
def aVo (perm:Bool)(k:DS->MS R):DS->MS R
 | .agg xs=>toSs perm 300 xs fun vs=>k (.agg (vs.map .p))
 | d=>toS perm 300 d fun v=>k (.p v)
def bIP (mode:Nat)(d:DS)(k:DS->MS R):MS R:=
 match mode with
 | 2=>k d
 | 1=>aVo true k d
 | _=>aVo false k d
def aOV:List Nat->List DS->(List DS->MS R)->MS R
 | _,[],k=>k []
 | ms,d :: r,k=>bIP (ms.headD 0) d fun d'=>aOV ms.tail r fun ds=>k (d' :: ds)
def aRq:List Nat->List DS->List DS
 | _,[]=>[]
 | ms,d :: r=>if ms.headD 0=1∨ms.headD 0=2∨(DS.refs d).isEmpty=true then aRq ms.tail r else d.cells++aRq ms.tail r
def aRT:Nat->List Nat->aBq->(aBq->MS R)->MS R
 | 0,_,_,_=>aCM
 | _+1,[],seen,k=>k seen
 | n+1,key :: ts,seen,k=>match (lk seen key).isSome with
  | true=>aRT n ts seen k
  | false=>aLV key fun o=>aRT n (o.refs++ts) (seen++[(key,o)]) k
def aOA:aBq->MS R->MS R
 | [],m=>m
 | (key,o) :: r,m=>match o.mut with
  | true=>aNz key .dead (aOA r m)
  | false=>aOA r m
def aTz:List DS->DS
 | [d]=>d
 | ds=>.tup ds
mutual
def S.flat:S->Bool
 | .i _ _ | .b _ | .s _ | .nl _=>true
 | .l (.e _)=>true
 | .l (.t _ _)=>false
 | .fn _ caps=>S.flatL caps
 | .cp _ | .ifc _ _ _=>false
def S.flatL:List S->Bool
 | []=>true
 | u :: r=>u.flat&&S.flatL r
end
mutual
def DS.flat:DS->Bool
 | .p u=>u.flat
 | .fn _ caps=>DS.flatL caps
 | .ifc _ _ xs=>DS.flatL xs
 | .agg xs=>DS.flatL xs
 | .tup xs=>DS.flatL xs
 | _=>true
def DS.flatL:List DS->Bool
 | []=>true
 | d :: r=>d.flat&&DS.flatL r
end
def aH9:Sh->Bool
 | .sl _=>false
 | _=>true
def ObS.flat:ObS->Bool
 | .box cs=>DS.flatL cs
 | .arr (.t es _)=>es.all aH9
 | .arr (.e _)=>true
 | .mp ks vs _ _=>aH9 ks&&aH9 vs
 | .dead=>true
 | _=>false
mutual
def DS.boxy:DS->Bool
 | .own _ | .arr _ _ _ _ | .ep _ _ _=>false
 | .fn _ caps=>DS.boxyL caps
 | .ifc _ _ xs=>DS.boxyL xs
 | .agg xs=>DS.boxyL xs
 | .tup xs=>DS.boxyL xs
 | _=>true
def DS.boxyL:List DS->Bool
 | []=>true
 | d :: r=>d.boxy&&DS.boxyL r
end
mutual
def DS.same:DS->DS->Bool
 | .own k,.own k'=>k == k'
 | .ptr k o,.ptr k' o'=>k == k'&&o == o'
 | .mp k,.mp k'=>k == k'
 | .fn v cs,.fn v' cs'=>v == v'&&DS.sameL cs cs'
 | _,_=>false
def DS.sameL:List DS->List DS->Bool
 | [],[]=>true
 | a :: r,b :: q=>a.same b&&DS.sameL r q
 | _,_=>false
end
def ObS.same:ObS->ObS->Bool
 | .box a,.box b=>DS.sameL a b
 | _,_=>false
def aR7 (key:Nat):Nat->List DS->List DS->MS R->MS R
 | off,c :: cs,d :: ds,k=>match c.same d with
  | true=>aR7 key (off+1) cs ds k
  | false=>aYx key off d (aR7 key (off+1) cs ds k)
 | _,_,_,k=>k
def bPh (old:Nat)(o:ObS)(k:MS R)(cur:ObS):MS R:=
 match cur,o with
 | .box cs,.box ds=>(match cs.length == ds.length with
  | true=>aR7 old 0 cs ds k
  | false=>aNz old o k)
 | _,_=>aNz old o k
def aK7 (m:List (Nat×Nat))(f:Nat->Nat):aBq->MS R->MS R
 | [],k=>k
 | (key,o) :: r,k=>match lkN m key with
  | some old=>aLV old (bPh old (o.ren f) (aK7 m f r k))
  | none=>aQA (f key) (o.ren f) (aK7 m f r k)
def bS0:ObS->ObS->Bool
 | .box _,.box _=>true
 | _,_=>false
def bEK (m:List (Nat×Nat))(f:Nat->Nat)(sub:aBq)(x:Nat×ObS):Bool:=
 match lkN m x.1 with
 | some old=>(match lk sub old with
  | some o=>o.same (x.2.ren f)
  | none=>false)
 | none=>false
def ObS.mpSame:ObS->ObS->Bool
 | .mp ks vs c xs,.mp ks' vs' c' xs'=>c == c'&&mpq (xs.map fun x=>(ks.enc x.1,x.2.1,vs.enc x.2.2)) (xs'.map fun x=>(ks'.enc x.1,x.2.1,vs'.enc x.2.2))
 | _,_=>false
def bP3:ObS->ObS->Bool
 | .mp _ _ _ _,.mp _ _ _ _=>true
 | _,_=>false
def aRv (kp:Bool)(m:List (Nat×Nat))(sub:aBq)(x:Nat×ObS):Option ObS:=
 match kp,lkN m x.1 with
 | true,some old=>(match lk sub old with
  | some o=>(match bP3 o x.2 with
   | true=>some o
   | false=>none)
  | none=>none)
 | _,_=>none
def aQi (kp:Bool)(m:List (Nat×Nat))(f:Nat->Nat)(sub:aBq)(x:Nat×ObS):Bool:=bEK m f sub x||(aRv kp m sub x).isSome
def aRG (kp:Bool)(m:List (Nat×Nat))(sub:aBq):aBq->MS R->MS R
 | [],k=>k
 | x :: r,k=>match aRv kp m sub x with
  | some o=>gdS (o.mpSame x.2) (aRG kp m sub r k)
  | none=>aRG kp m sub r k
def bDa (kp:Bool)(m:List (Nat×Nat))(f:Nat->Nat)(h sub:aBq):aBq:=sub.filter fun y=>!(h.any fun x=>(aQi kp m f sub x||bS0 x.2 y.2)&&lkN m x.1 == some y.1)
def bC6 (kp:Bool)(m:List (Nat×Nat))(f:Nat->Nat)(sub h:aBq):aBq:=h.filter fun x=>!aQi kp m f sub x
def aS1 (kp:Bool)(nm:Nat)(bs:List DS)(refs:List Nat)(sub:aBq)(k:DS->MS R)(roots:List Nat)(res:List DS)(h:aBq):MS R:=
 gdS (roots.length == refs.length&&(bs.isEmpty||(DS.flatL res&&h.all fun x=>x.2.flat)))
  (aRG kp (roots.zip refs) sub h (aOA (bDa kp (roots.zip refs) (aFK nm (roots.zip refs)) h sub) (aK7 (roots.zip refs) (aFK nm (roots.zip refs)) (bC6 kp (roots.zip refs) (aFK nm (roots.zip refs)) sub h) (k (aTz (DS.renL (aFK nm (roots.zip refs)) res))))))
def bIC:Nat×ObS->List DS
 | (k,.box _)=>[.ptr k 0]
 | (k,.mp _ _ _ _)=>[.mp k]
 | _=>[]
def aL1 (ds:List DS):aBq->List DS
 | []=>[]
 | x :: r=>bif (DS.refsL ds).contains x.1 then aL1 ds r else bIC x++aL1 ds r
def aO6:List DS->List DS->Bool
 | [],[]=>true
 | .ptr k o :: r,.ptr k' o' :: q=>(k == k'&&o == o')&&aO6 r q
 | .mp k :: r,.mp k' :: q=>k == k'&&aO6 r q
 | _,_=>false
def aOf (kp:Bool)(FS:CfS R)(nm v:Nat)(bs:List DS)(k:DS->MS R)(ds:List DS):MS R:=
 aRT 1000 (DS.refsL ds) [] fun sub=>aRT 1000 (DS.refsL bs) [] fun bsub=>
  gdS (sub.all fun x=>(lk bsub x.1).isNone) (ooS (aOR (ds++aL1 ds sub) sub) fun c=>gdS (aO6 (aL1 (c.1.take ds.length) c.2) (c.1.drop ds.length)) (bBj FS v (c.1.take ds.length) c.2 (aS1 kp nm bs (DS.refsL (ds++aL1 ds sub)) sub k)))
def aPG:List DS->Option (List S)
 | []=>some []
 | .p v :: r=>(aPG r).map (v :: ·)
 | _=>none
def aMY:List (Nat×Nat×DS)->List S->(List S->MS R)->MS R
 | [],cs,k=>k cs
 | (off,size,d) :: r,cs,k=>toSs true 300 d.cells fun vs=>gdS (vs.length == size&&decide (off+size<=cs.length)) (aMY r (aQJ cs off vs) k)
def bL7 (kd:IntKind)(mx:Bool)(a:Int):List DS->Option Int
 | []=>some a
 | .p (.i kd' b) :: r=>bif decide (kd=kd')then bL7 kd mx (bif mx then max a b else min a b) r else none
 | _=>none
def aVQ (k:Bool->MS R):Nat->DS->MS R
 | 0,.p (.nl 0)=>k true
 | 0,.p (.cp _)=>k false
 | 0,.ptr _ _=>k false
 | 0,.ep _ _ _=>k false
 | 1,.p (.nl 1)=>k true
 | 1,.p (.fn _ _)=>k false
 | 1,.fn _ _=>k false
 | 2,.p (.nl 2)=>k true
 | 2,.mp _=>k false
 | 4,d=>aKQ (fun e=>gdS (!(e.len == 0)) (k false)) d
 | _,_=>aCM
def bNZ (k:DS->MS R):UnOp->DS->MS R
 | .neg,.p (.i kd n)=>k (.p (.i kd (kd.wrap (0-n))))
 | .not,.p (.b t)=>k (.p (.b (!t)))
 | .xor,.p (.i kd n)=>k (.p (.i kd (bQN kd n)))
 | _,_=>aCM
def aRb (off:Nat)(k:DS->MS R):DS->MS R
 | .ptr key o=>k (.ptr key (o+off))
 | .ep key i o=>k (.ep key i (o+off))
 | .p (.cp cells)=>k (.p (.cp (cells.drop off)))
 | _=>aCM
def aSy (xs:List DS)(off:Nat)(k:DS->MS R):Option Nat->MS R
 | none=>ooS xs[off]? k
 | some n=>gdS (decide (off+n<=xs.length)) (k (.agg ((xs.drop off).take n)))
def aJd (s:ByteArray)(n:Int):Option Int:=if h:0<=n∧n.toNat<s.size then some ((s[n.toNat]'h.2).toNat)else none
def bND (n:Int)(k:DS->MS R):DS->MS R
 | .p (.s s)=>ooS (aJd s n) fun c=>k (.p (.i .u8 c))
 | _=>aCM
def bOC (k:DS->MS R):DS->MS R
 | .p (.cp cs)=>k (.p (.cp cs))
 | .p (.fn v cs)=>k (.p (.fn v cs))
 | .ptr key off=>k (.ptr key off)
 | .ep key i off=>k (.ep key i off)
 | .fn v cs=>k (.fn v cs)
 | _=>aCM
def bPH (i:Nat)(k:DS->MS R):DS->MS R
 | .tup ds=>ooS ds[i]? k
 | _=>aCM
def bDO (v:Nat)(f:Nat->MS R):List Nat->MS R
 | []=>aCM
 | c :: r=>brS (decide (v=c)) (f c) (bDO v f r)
def bBK (v:Nat)(f:Nat->MS R):List Nat->MS R
 | []=>f v
 | c :: r=>bDO v f (c :: r)
def bOI (FS:CfS R)(nm:Nat)(cs:List Nat)(bs ds:List DS)(k:DS->MS R):DS->MS R
 | .p (.fn v caps)=>bBK v (fun v=>aOf false FS nm v bs k (ds++caps.map .p)) cs
 | .fn v caps=>bBK v (fun v=>aOf false FS nm v bs k (ds++caps)) cs
 | _=>aCM
def bPq (v:Nat)(k:DS->MS R)(ds:List DS):MS R:=
 match aPG ds with
 | some vs=>k (.p (.fn v vs))
 | none=>k (.fn v ds)
def bO7 (mx:Bool)(k:DS->MS R):List DS->MS R
 | .p (.i kd a) :: r=>ooS (bL7 kd mx a r) fun n=>k (.p (.i kd n))
 | _=>aCM
def bR5 (nm:Nat)(k:DS->MS R)(d:DS):MS R:=gdS (d.cells.all (·.one)) (aQA nm (.box d.cells) (k (.ptr nm 0)))
def aXl (n:Int)(f:Nat->MS R):Nat->MS R
 | 0=>aCM
 | l+1=>brS (decide (n=(l:Int))) (f l) (aXl n f l)
def aSj (s:StS):Od->Option DS
 | .t n=>lk s.env n
 | .c v=>(v.toS).map .p
 | _=>none
def bON (t:Bool)(a b:Od)(k:DS->MS R):MS R:=fun s l kk=>match aSj s a,aSj s b with
 | some (.p (.i k1 x)),some (.p (.i k2 y))=>bif decide (k2=k1)then k (.p (.i k1 (cond t x y))) s l kk else none
 | some (.p (.b x)),some (.p (.b y))=>k (.p (.b (cond t x y))) s l kk
 | _,_=>cond t (vlS a k s l kk) (vlS b k s l kk)
def eqI (x y:Int):Bool:=decide (x=y)
def bU4 (x y:Bool):Bool:=x == y
def bTN (x y:ByteArray):Bool:=decide (x=y)
def Sh.eqD:(s:Sh)->s.den->s.den->Bool
 | .i _,x,y=>eqI x y
 | .b,x,y=>bU4 x y
 | .s,x,y=>bTN x y
 | .sl _,_,_=>false
def Sh.kd:Sh->Nat
 | .i _=>0
 | .b=>1
 | .s=>2
 | .sl _=>3
def aLY (ks:Sh){α:Type}(a:ks.den):List (ks.den×Nat×α)->Option Nat
 | []=>none
 | e :: r=>bif ks.eqD a e.1 then some 0 else (aLY ks a r).map (·+1)
def aFh (ks:Sh){α:Type}(a:ks.den)(xs:List (ks.den×Nat×α))(z:α):α:=match aLY ks a xs with
 | none=>z
 | some i=>((xs[i]?).map (·.2.2)).getD z
def aRy (ks:Sh){α:Type}(a:ks.den)(xs:List (ks.den×Nat×α)):Bool:=(aLY ks a xs).isSome
def aGp (ks:Sh){α:Type}(a:ks.den)(c:Nat)(xs:List (ks.den×Nat×α)):Nat:=match aLY ks a xs with
 | none=>c+1
 | some _=>c
def aOS (ks:Sh){α:Type}(a:ks.den)(y:α)(c:Nat)(xs:List (ks.den×Nat×α)):List (ks.den×Nat×α):=match aLY ks a xs with
 | none=>xs++[(a,c,y)]
 | some i=>xs.modify i fun e=>(a,e.2.1,y)
def aYy (ks:Sh){α:Type}(a:ks.den)(xs:List (ks.den×Nat×α)):List (ks.den×Nat×α):=match aLY ks a xs with
 | none=>xs
 | some i=>xs.eraseIdx i
def aYc (ks:Sh){α:Type}(a:ks.den)(z:α)(c:Nat)(xs:List (ks.den×Nat×α)):List (ks.den×Nat×α):=match aLY ks a xs with
 | none=>xs++[(a,c,z)]
 | some i=>xs.modify i fun e=>(a,e.2.1,e.2.2)
def aRK (ks:Sh){α:Type}(a:ks.den)(c:Nat)(xs:List (ks.den×Nat×α)):Nat:=match aLY ks a xs with
 | none=>c
 | some i=>((xs[i]?).map (·.2.1)).getD 0
def bOn {κ α:Type}(n:Int)(y:α)(xs:List (κ×Nat×α)):List (κ×Nat×α):=match xs.findIdx? fun e=>(e.2.1:Int) == n with
 | none=>xs
 | some j=>xs.modify j fun e=>(e.1,e.2.1,y)
def bMe {κ α:Type}(n:Int)(xs:List (κ×Nat×α)):Bool:=(xs.findIdx? fun e=>(e.2.1:Int) == n).isSome
def aR0 (kk:Nat->(ks vs:Sh)->Nat->List (ks.den×Nat×vs.den)->MS R):DS->MS R
 | .mp key=>aLV key (bPO (kk key))
 | _=>aCM
def bGG (ok:Bool)(u:S)(b:Bool):DS:=match ok with
 | true=>.tup [.p u,.p (.b b)]
 | false=>.p u
def mpH:Option (List Sh)->Option (Sh×Sh)
 | some [a,b]=>some (a,b)
 | _=>none
def aO9 (s:ByteArray):List Int:=s.data.toList.map fun b=>(b.toNat:Int)
def aP7 (xs:List Int):Bool:=xs.all fun n=>decide (0<=n∧n<256)
def bLc (xs:List Int):ByteArray:=⟨(xs.map fun n=>UInt8.ofNat n.toNat).toArray⟩
def bPL (kk:ByteArray->MS R):DS->MS R
 | .p (.s s)=>kk s
 | _=>aCM
def bKQ (kk:ByteArray->MS R):EL->MS R
 | .t es xs=>ooS (EL.as [.i .u8] (.t es xs)) fun (ys:List Int)=>gdS (aP7 ys) (kk (bLc ys))
 | .e _=>kk (bLc [])
def bLs (FS:CfS R)(H:Nat->Option (List Sh))(nm:Nat)(k:DS->MS R):O->MS R
 | .mv x=>vlS x k
 | .pk c a b=>vlS c (bIu fun t=>bON t a b k)
 | .bi op x y=>vlS x (bA0 fun u=>vlS y (bA0 fun w=>bNq op (fun r=>k (.p r)) u w))
 | .bb ne x y=>vlS x (bIu fun u=>vlS y (bIu fun w=>k (.p (.b (bif ne then u != w else u == w)))))
 | .bn ne kind x=>vlS x (aVQ (fun t=>k (.p (.b (ne != t)))) kind)
 | .ba ne ks x y=>vlS x (bGC fun u=>vlS y (bGC fun w=>ooS (bGD ks u w) fun t=>k (.p (.b (ne != t)))))
 | .un op x=>vlS x (bNZ k op)
 | .ld n a=>vlS a (ldS n k)
 | .st n a v=>vlS a fun d=>vlS v fun x=>ooS (bMt n x) fun xs=>bOl xs (k .und) d
 | .fa off x=>vlS x (aRb off k)
 | .fd off n x=>vlS x (bGC fun xs=>aSy xs off k n)
 | .ix sz x i=>vlS x fun d=>vlS i (aU2 fun _ n=>bOo sz n k d)
 | .xa len sz x i=>vlS x fun d=>vlS i (aU2 fun _ n=>aXl n (fun j=>aRb (j*sz) k d) len)
 | .xv len sz n x i=>vlS x (bGC fun xs=>vlS i (aU2 fun _ m=>aXl m (fun j=>aSy xs (j*sz) k n) len))
 | .xs x i=>vlS x fun d=>vlS i (aU2 fun _ n=>bND n k d)
 | .ln kind x=>vlS x (bNC (fun n=>k (.p (.i .i64 n))) kind)
 | .ap sz bytes x y=>vlS x fun d=>vlS y (aKQ fun ys=>gdS (ys.sz == sz) (bLh nm sz bytes ys k d))
 | .apa sz bytes x y=>vlS x fun d=>vlS y (aKQ fun ys=>gdS (ys.sz == sz) (bLh nm sz bytes ys (bG2 sz none none none k) d))
 | .bl zero parts=>aNr parts fun ps=>ooS (aJv ps (zero.map fun _=>none)) fun cs=>aKJ nm zero cs fun ds=>k (.agg ds)
 | .bs sz len zero parts=>aNr parts fun ps=>ooS (V.toSs (List.replicate len zero).flatten) fun zs=>aMY ps zs fun vs=>ooS (EL.of (H nm) sz (aNC sz len vs)) fun e=>aQA nm (.arr e) (k (.own nm))
 | .bx x=>vlS x (bR5 nm k)
 | .al zero=>aO5 (nm+1) zero fun ds=>aQA nm (.box ds) (k (.ptr nm 0))
 | .ms sz bytes zero x y=>vlS x (aU2 fun _ n=>vlS y (aU2 fun _ c=>gdS (decide (0<=n∧n<=c)) (gdS (aBU c.toNat bytes) (ooS (V.toSs zero) fun zs=>ooS (EL.rep (H nm) n.toNat sz zs) fun e=>aQA nm (.arr e) (k (.own nm))))))
 | .sl x sz lo hi mx=>vlS x (bG2 sz lo hi mx k)
 | .sk x sz lo hi mx=>vlS x (bG2 sz lo hi mx (aPl nm k))
 | .nc x=>vlS x (bOC k)
 | .ex x i=>vlS x (bPH i k)
 | .ca v ms args=>bGH args fun ds=>aOV ms ds (aOf (ms.contains 9) FS nm v (aRq ms ds) k)
 | .cx x ms args=>vlS x fun d=>bGH args fun ds=>aOV ms ds fun ds'=>bOI FS nm (ms.drop args.length) (aRq ms ds) ds' k d
 | .mf v caps=>bGH caps (bPq v k)
 | .ci kd x=>vlS x (aU2 fun _ n=>k (.p (.i kd (kd.wrap n))))
 | .mm mx xs=>bGH xs (bO7 mx k)
 | .s2b x=>vlS x (bPL fun s=>k (.p (.l (.t [.i .u8] (aO9 s)))))
 | .b2s x=>vlS x (aKQ (bKQ fun s=>k (.p (.s s))))
 | .mk=>ooS (mpH (H nm)) fun z=>aQA nm (.mp z.1 z.2 0 []) (k (.mp nm))
 | .mq kind zero ok x i=>vlS x fun d=>vlS i (bA0 fun u=>aR0 (fun _ ks vs _ xs=>gdS (ks.kd == kind&&decide (kind<=2)) (ooS (ks.prj u) fun a=>ooS zero.toS fun zs=>ooS (vs.prj zs) fun z=>k (bGG ok (vs.inj (aFh ks a xs z)) (aRy ks a xs)))) d)
 | .mu kind x i v=>vlS x fun d=>vlS i (bA0 fun u=>vlS v (toS true 300 · fun y=>aR0 (fun key ks vs c xs=>gdS (ks.kd == kind&&decide (kind<=2)) (ooS (ks.prj u) fun a=>ooS (vs.prj y) fun b=>aNz key (.mp ks vs (aGp ks a c xs) (aOS ks a b c xs)) (k .und))) d))
 | .me kind zero x i=>vlS x fun d=>vlS i (bA0 fun u=>aR0 (fun key ks vs c xs=>gdS (ks.kd == kind&&decide (kind<=2)) (ooS (ks.prj u) fun a=>ooS zero.toS fun zs=>ooS (vs.prj zs) fun z=>aNz key (.mp ks vs (aGp ks a c xs) (aYc ks a z c xs)) (k (.tup [.p (vs.inj (aFh ks a xs z)),.p (.i .i64 (aRK ks a c xs:Nat))])))) d)
 | .mt x s v=>vlS x fun d=>vlS s (aU2 fun _ n=>vlS v (toS true 300 · fun y=>aR0 (fun key ks vs c xs=>ooS (vs.prj y) fun b=>gdS (bMe n xs) (aNz key (.mp ks vs c (bOn n b xs)) (k .und))) d))
 | .md kind x i=>vlS x fun d=>vlS i (bA0 fun u=>aR0 (fun key ks vs c xs=>gdS (ks.kd == kind&&decide (kind<=2)) (ooS (ks.prj u) fun a=>aNz key (.mp ks vs c (aYy ks a xs)) (k (.tup [])))) d)
def aRO (dst:Option Nat)(m:MS R)(d:DS):MS R:=
 match dst with
 | some t=>wrS t d m
 | none=>m
def aZ1:aLZ->Nat->Bool->aLZ
 | [],_,_=>[]
 | (k,d) :: r,t,b=>if k=t then (k,.p (.b b)) :: r else (k,d) :: aZ1 r t b
def bQW (g:Nat)(want:Bool)(m no:MS R):DS->MS R
 | .p (.b x)=>fun s l k=>cond x ((bif want then m else no) ⟨aZ1 s.env g true,s.heap⟩ l k) ((bif want then no else m) ⟨aZ1 s.env g false,s.heap⟩ l k)
 | .und=>no
 | _=>aCM
def bHs (FS:CfS R)(H:Nat->Option (List Sh))(o:AO)(m:MS R):MS R:=
 match o.g with
 | none=>bLs FS H o.nm (aRO o.dst m) o.op
 | some (g,want)=>rdS g (bQW g want (bLs FS H o.nm (aRO o.dst m) o.op) (aRO o.dst m .und))
def bEQ (FS:CfS R)(H:Nat->Option (List Sh)):List AO->MS R->MS R
 | [],m=>m
 | o :: r,m=>bHs FS H o (bEQ FS H r m)
def aQ2 (FS:CfS R)(H:Nat->Option (List Sh)):Nat->List AO->List (Nat×List Acc)->StS->(StS->Option R)->Option R
 | _,[],_,s,k=>k s
 | i,o :: r,done,s,k=>bHs FS H o bOg s [] fun s1 l=>cond (aKI i o l done) (aQ2 FS H (i+1) r ((i,l) :: done) s1 k) none
def aJU (e:aLZ):aLZ:=e.filter fun x=>100000<=x.1
def aRH:List Nat->aLZ->aLZ
 | [],e=>aJU e
 | t :: r,e=>match lk e t with
  | some d=>(t,d) :: aRH r e
  | none=>aRH r e
def aIM (keep:List Nat)(s:StS):Option StS:=
 (aOR ((aRH keep s.env).map (·.2)) s.heap).bind fun c=>some ⟨((aRH keep s.env).map (·.1)).zip c.1,c.2⟩
abbrev KS (R:Type):=Ex->StS->Option R
def bLm (f:StS->KS R->Option R)(k:KS R):KS R
 | .nrm,s=>f s k
 | .ex id,s=>k (.ex id) s
 | .ret,s=>k .ret s
def bRH (id:Nat)(k:KS R):KS R
 | .nrm,s=>k .nrm s
 | .ex id',s=>if id'=id then k .nrm s else k (.ex id') s
 | .ret,s=>k .ret s
def bIF (x:Od)(f g:StS->Option R)(s:StS):Option R:=
 match x with
 | .t n=>(match lk s.env n with
  | some (.p (.b t))=>cond t (f ⟨aZ1 s.env n true,s.heap⟩) (g ⟨aZ1 s.env n false,s.heap⟩)
  | _=>none)
 | .c (.b t)=>cond t (f s) (g s)
 | _=>none
def exS (FS:CfS R)(H:Nat->Option (List Sh))(Lp:Nat->StS->KS R->Option R)(X:Nat->List SP):Nat->C->StS->KS R->Option R
 | _,.skip,s,k=>k .nrm s
 | _,.reg ops,s,k=>bEQ FS H ops bOg s [] fun s _=>k .nrm s
 | _,.drw ops,s,k=>aQ2 FS H 0 ops [] s (k .nrm)
 | p,.seq a b,s,k=>exS FS H Lp X (2*p) a s (bLm (exS FS H Lp X (2*p+1) b) k)
 | p,.cond x a b,s,k=>bIF x (fun s=>exS FS H Lp X (2*p) a s k) (fun s=>exS FS H Lp X (2*p+1) b s k) s
 | p,.block id c,s,k=>exS FS H Lp X (2*p) c s (bRH id k)
 | p,.loop keep _,s,k=>(aIM keep s).bind fun s0=>Lp p s0 k
 | p,.exit keep id,s,k=>(aIM keep s).bind fun s=>bIo (X p) s (k (.ex id))
 | p,.ret keep,s,k=>(aIM keep s).bind fun s=>bIo (X p) s (k .ret)
def aTI (own:Bool)(k:DS->MS R):DS->MS R
 | .agg xs=>bif own then k (.agg xs)else toSs true 300 xs fun vs=>k (.agg (vs.map .p))
 | d=>bif own then k d else toS true 300 d fun v=>k (.p v)
def aRM (own:Bool):List Rs->(List DS->MS R)->MS R
 | [],k=>k []
 | .t n :: r,k=>rdS n (aTI own fun d'=>aRM own r fun ds=>k (d' :: ds))
 | .c a n :: r,k=>rdS a (ldS n (aTI own fun d'=>aRM own r fun ds=>k (d' :: ds)))
def aRk:Nat->List DS->aLZ
 | _,[]=>[]
 | i,d :: r=>bif (DS.refs d).isEmpty then aRk (i+1) r else (100000+i,d) :: aRk (i+1) r
def aKR:Nat->List DS->aLZ->aLZ
 | _,[],e=>e
 | i,d :: r,e=>(i,d) :: aKR (i+1) r e
def bDD (rp:List AP)(k:List Nat->List DS->aBq->Option R)(ds:List DS)(s:StS):Option R:=
 (aOR ((aJU s.env).map (·.2)++ds) s.heap).bind fun c=>bLz rp (c.1.drop (aJU s.env).length) c.2 (k (DS.refsL (c.1.take (aJU s.env).length)))
def bRt (rp:List AP)(own:Bool)(res:List Rs)(k:List Nat->List DS->aBq->Option R):KS R
 | .ex _,_=>none
 | .nrm,s=>aRM own res (fun ds s l _=>bDD rp k ds s) s [] fun _ _=>none
 | .ret,s=>aRM own res (fun ds s l _=>bDD rp k ds s) s [] fun _ _=>none
def bJD (FS:CfS R)(H:Nat->Option (List Sh))(Lp:Nat->StS->KS R->Option R)(X:Nat->List SP)(rp:List AP)(ver:Ver)(args:List DS)(h:aBq)(k:List Nat->List DS->aBq->Option R):Option R:=
 bif args.length == ver.np then exS FS H Lp X 1 ver.code ⟨aKR 0 args (aRk 0 (args++aL1 args h)),h⟩ (bRt rp ver.own ver.res k)else none
def aXz (FS:CfS R)(v:Nat)(f:List DS->aBq->(List Nat->List DS->aBq->Option R)->Option R):CfS R:=fun v'=>if v'=v then f else FS v'
def bTa:CfS R:=fun _ _ _ _=>none
def aCc (Lp:Nat->StS->KS R->Option R)(p:Nat)(f:StS->KS R->Option R):Nat->StS->KS R->Option R:=fun p'=>if p'=p then f else Lp p'
def noL:Nat->StS->KS R->Option R:=fun _ _ _=>none
def C.at:C->List Bool->Option C
 | c,[]=>some c
 | .seq a b,t :: r=>if t then b.at r else a.at r
 | .cond _ a b,t :: r=>if t then b.at r else a.at r
 | .block _ c,_ :: r=>c.at r
 | .loop _ c,_ :: r=>c.at r
 | _,_=>none
end
end Am
end Go.Proofs.YtkmbhgggpfbffaaGreatDoor
