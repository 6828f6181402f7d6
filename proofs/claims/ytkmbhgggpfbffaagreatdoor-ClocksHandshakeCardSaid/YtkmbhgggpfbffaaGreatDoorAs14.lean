/- Functions of several arguments over the data of a pattern. -/
import Derived.Test.YtkmbhgggpfbffaaGreatDoorAs11
set_option linter.unusedVariables false
set_option linter.unusedSimpArgs false
set_option linter.constructorNameAsVariable false
namespace Go.Proofs.YtkmbhgggpfbffaaGreatDoor
namespace Am
mutual
def PV.Cur:PV->Type->Type
 | .s sh,X=>sh.den->X
 | .cp ps,X=>aYD ps X
 | .fn _ ps,X=>aYD ps X
 | .nl _,X=>X
 | .e _,X=>X
 | .ki _ _,X=>X
 | .kb _,X=>X
 | .ks _,X=>X
 | .fv ps,X=>Nat->aYD ps X
 | .fa,X=>Nat->List S->X
def aYD:List PV->Type->Type
 | [],X=>X
 | p :: r,X=>p.Cur (aYD r X)
end
mutual
def PV.unc:(p:PV)->(X:Type)->p.Cur X->p.den->X
 | .s _,_,f,x=>f x
 | .cp ps,X,f,x=>bGN ps X f x
 | .fn _ ps,X,f,x=>bGN ps X f x
 | .nl _,_,f,_=>f
 | .e _,_,f,_=>f
 | .ki _ _,_,f,_=>f
 | .kb _,_,f,_=>f
 | .ks _,_,f,_=>f
 | .fv ps,X,f,x=>bGN ps X (f x.1) x.2
 | .fa,_,f,x=>f x.1 x.2
def bGN:(ps:List PV)->(X:Type)->aYD ps X->aXA ps->X
 | [],_,f,_=>f
 | p :: r,X,f,x=>bGN r X (p.unc (aYD r X) f x.1) x.2
end
mutual
def PV.cur:(p:PV)->(X:Type)->(p.den->X)->p.Cur X
 | .s _,_,g=>g
 | .cp ps,X,g=>bJ7 ps X g
 | .fn _ ps,X,g=>bJ7 ps X g
 | .nl _,_,g=>g ()
 | .e _,_,g=>g ()
 | .ki _ _,_,g=>g ()
 | .kb _,_,g=>g ()
 | .ks _,_,g=>g ()
 | .fv ps,X,g=>fun n=>bJ7 ps X fun y=>g (n,y)
 | .fa,_,g=>fun n l=>g (n,l)
def bJ7:(ps:List PV)->(X:Type)->(aXA ps->X)->aYD ps X
 | [],_,g=>g ()
 | p :: r,X,g=>p.cur (aYD r X) fun a=>bJ7 r X fun b=>g (a,b)
end
mutual
def PD.Cur:PD->Type->Type
 | .p v,X=>v.Cur X
 | .own _,X=>X
 | .mp _,X=>X
 | .arr _ _,X=>Nat->Nat->X
 | .ptr _ _,X=>X
 | .ep _ _,X=>Nat->X
 | .agg ps,X=>aRw ps X
 | .fn _ ps,X=>aRw ps X
 | .und,X=>X
 | .fv ps,X=>Nat->aRw ps X
def aRw:List PD->Type->Type
 | [],X=>X
 | p :: r,X=>p.Cur (aRw r X)
end
mutual
def PD.unc:(p:PD)->(X:Type)->p.Cur X->p.den->X
 | .p v,X,f,x=>v.unc X f x
 | .own _,_,f,_=>f
 | .mp _,_,f,_=>f
 | .arr _ _,_,f,x=>f x.1 x.2
 | .ptr _ _,_,f,_=>f
 | .ep _ _,_,f,x=>f x
 | .agg ps,X,f,x=>bGr ps X f x
 | .fn _ ps,X,f,x=>bGr ps X f x
 | .und,_,f,_=>f
 | .fv ps,X,f,x=>bGr ps X (f x.1) x.2
def bGr:(ps:List PD)->(X:Type)->aRw ps X->aUF ps->X
 | [],_,f,_=>f
 | p :: r,X,f,x=>bGr r X (p.unc (aRw r X) f x.1) x.2
end
mutual
def PD.cur:(p:PD)->(X:Type)->(p.den->X)->p.Cur X
 | .p v,X,g=>v.cur X g
 | .own _,_,g=>g ()
 | .mp _,_,g=>g ()
 | .arr _ _,_,g=>fun a b=>g (a,b)
 | .ptr _ _,_,g=>g ()
 | .ep _ _,_,g=>g
 | .agg ps,X,g=>bGs ps X g
 | .fn _ ps,X,g=>bGs ps X g
 | .und,_,g=>g ()
 | .fv ps,X,g=>fun n=>bGs ps X fun y=>g (n,y)
def bGs:(ps:List PD)->(X:Type)->(aUF ps->X)->aRw ps X
 | [],_,g=>g ()
 | p :: r,X,g=>p.cur (aRw r X) fun a=>bGs r X fun b=>g (a,b)
end
def PO.Cur:PO->Type->Type
 | .box ps,X=>aRw ps X
 | .arr es,X=>List (aJH es)->X
 | .frz es,X=>List (aJH es)->X
 | .em _,X=>X
 | .emf _,X=>X
 | .fbx ps,X=>aYD ps X
 | .mp ks vs,X=>Nat->List (ks.den×Nat×vs.den)->X
 | .dead,X=>X
def PO.unc:(p:PO)->(X:Type)->p.Cur X->p.den->X
 | .box ps,X,f,x=>bGr ps X f x
 | .arr _,_,f,x=>f x
 | .frz _,_,f,x=>f x
 | .em _,_,f,_=>f
 | .emf _,_,f,_=>f
 | .fbx ps,X,f,x=>bGN ps X f x
 | .mp _ _,_,f,x=>f x.1 x.2
 | .dead,_,f,_=>f
def PO.cur:(p:PO)->(X:Type)->(p.den->X)->p.Cur X
 | .box ps,X,g=>bGs ps X g
 | .arr _,_,g=>g
 | .frz _,_,g=>g
 | .em _,_,g=>g ()
 | .emf _,_,g=>g ()
 | .fbx ps,X,g=>bJ7 ps X g
 | .mp _ _,_,g=>fun a b=>g (a,b)
 | .dead,_,g=>g ()
def aRZ:List (Nat×PO)->Type->Type
 | [],X=>X
 | p :: r,X=>p.2.Cur (aRZ r X)
def bLK:(ps:List (Nat×PO))->(X:Type)->aRZ ps X->bBn ps->X
 | [],_,f,_=>f
 | p :: r,X,f,x=>bLK r X (p.2.unc (aRZ r X) f x.1) x.2
def bPy:(ps:List (Nat×PO))->(X:Type)->(bBn ps->X)->aRZ ps X
 | [],_,g=>g ()
 | p :: r,X,g=>p.2.cur (aRZ r X) fun a=>bPy r X fun b=>g (a,b)
def bBc:List (Nat×PD)->Type->Type
 | [],X=>X
 | p :: r,X=>p.2.Cur (bBc r X)
def bNb:(ps:List (Nat×PD))->(X:Type)->bBc ps X->bDt ps->X
 | [],_,f,_=>f
 | p :: r,X,f,x=>bNb r X (p.2.unc (bBc r X) f x.1) x.2
def bQ9:(ps:List (Nat×PD))->(X:Type)->(bDt ps->X)->bBc ps X
 | [],_,g=>g ()
 | p :: r,X,g=>p.2.cur (bBc r X) fun a=>bQ9 r X fun b=>g (a,b)
def bJZ:Nat->Nat->List Bool
 | 0,_=>[]
 | k+1,p=>bif Nat.ble p 1 then []else bJZ k (p/2)++[Nat.beq (p%2) 1]
def atN (v:Ver)(p:Nat):C:=atD v.code (bJZ 100 p)
theorem gvk {P:Program}{aGY:Nat->List Nat}{ver:Ver}{f:Nat}(hint:Hint)(own:Bool)(h:aXy P id aGY V0 hint f own=some ver:=by kernel_rfl)(hf:ver.fid=f:=by kernel_rfl)(ho:ver.own=own:=by kernel_rfl):GV P aGY ver f:=.of h hf ho
section
variable {R:Type}
def qS (k:KS R)(e:Ex)(P:SP):bBc P.env (aRZ P.heap (Option R)):=bQ9 P.env _ fun a=>bPy P.heap _ fun b=>k e (P.bd (a,b))
def qA (k:KK R)(l:List Nat)(P:AP):aRw P.ds (aRZ P.heap (Option R)):=bGs P.ds _ fun a=>bPy P.heap _ fun b=>k l (bdD P.ds a) (bdH P.heap b)
def eS (P:SP)(g:KS R->Nat->bBc P.env (aRZ P.heap (Option R)))(n:Nat)(x:P.den)(k:KS R):Option R:=bLK P.heap _ (bNb P.env _ (g k n) x.1) x.2
def jS (P:SP)(g:KS R->bBc P.env (aRZ P.heap (Option R)))(n:Nat)(x:P.den)(k:KS R):Option R:=match n with
 | 0=>none
 | _+1=>bLK P.heap _ (bNb P.env _ (g k) x.1) x.2
def u2 (FS:CfS R)(v:Nat)(P:AP){X:Type}(f:aRw P.ds (aRZ P.heap X))(g:X->KK R->Option R):CfS R:=uC FS v P fun x k=>g (bLK P.heap X (bGr P.ds _ f x.1) x.2) k
def u1 (FS:CfS R)(v:Nat)(P Q:AP)(f:aRw P.ds (aRZ P.heap (aRw Q.ds (aRZ Q.heap (Option R))->Option R))):CfS R:=u2 FS v P f fun f k=>f (qA k [] Q)
end
end Am
end Go.Proofs.YtkmbhgggpfbffaaGreatDoor
