/- The abstract machine: pure values, references into a small heap of named objects, an evaluator over a compact code. Definitions alone. -/
import Derived.Calls
import Derived.Orders
set_option linter.unusedVariables false
set_option linter.unusedSimpArgs false
set_option linter.constructorNameAsVariable false
namespace Go.Proofs.YtkmbhgggpfbffaaGreatDoor
namespace Am
inductive V where
 | i (k:IntKind) (n:Int)
 | b (b:Bool)
 | s (s:ByteArray)
 | sl (sz:Nat) (xs:List (List V))
 | cp (cells:List V)
 | fn (v:Nat) (caps:List V)
 | nl (kind:Nat)
 | ifc (t:Nat) (agg:Bool) (xs:List V)
 deriving Inhabited
inductive D where
 | p (p:V)
 | own (k:Nat)
 | arr (k off len:Nat) (ap:Bool)
 | ptr (k off:Nat)
 | ep (k i off:Nat)
 | mp (k:Nat)
 | fn (v:Nat) (caps:List D)
 | ifc (t:Nat) (agg:Bool) (xs:List D)
 | agg (xs:List D)
 | tup (xs:List D)
 | und
 deriving Inhabited
inductive Ob where
 | box (cells:List D)
 | arr (sz:Nat) (xs:List (List V))
 | frz (sz:Nat) (xs:List (List V))
 | fbx (cells:List V)
 | mp (c:Nat) (es:List (V×Nat×V))
 | dead
 deriving Inhabited
def Ob.mut:Ob->Bool
 | .box _ | .arr _ _ | .mp _ _=>true
 | _=>false
abbrev aAR:=List (Nat×Ob)
abbrev Env:=List (Nat×D)
structure St where
 env:Env
 heap:aAR
 deriving Inhabited
def lk {α:Type}:List (Nat×α)->Nat->Option α
 | [],_=>none
 | (k,x) :: r,t=>if k=t then some x else lk r t
def D.one:D->Bool
 | .agg _ | .tup _ | .und=>false
 | _=>true
abbrev Cf:=Nat->List D->aAR->Option (List Nat×List D×aAR)
inductive M (α:Type) where
 | ret (a:α)
 | fail
 | rd (t:Nat) (k:D->M α)
 | wr (t:Nat) (d:D) (k:M α)
 | get (key:Nat) (k:Ob->M α)
 | set (key:Nat) (o:Ob) (k:M α)
 | cget (key off:Nat) (k:D->M α)
 | cset (key off:Nat) (d:D) (k:M α)
 | new (key:Nat) (o:Ob) (k:M α)
 | call (v:Nat) (ds:List D) (h:aAR) (k:List Nat->List D->aAR->M α)
def aGQ:Ob->Nat->Option D
 | .box cs,off=>cs[off]?
 | .fbx cs,off=>(cs[off]?).map .p
 | _,_=>none
def aHR:Ob->Nat->D->Option Ob
 | .box cs,off,d=>if off<cs.length then (if d.one then some (.box (cs.set off d))else none)else none
 | _,_,_=>none
def M.run {α:Type}(F:Cf):M α->St->Option (α×St)
 | .ret a,s=>some (a,s)
 | .fail,_=>none
 | .rd t k,s=>(lk s.env t).bind fun d=>(k d).run F s
 | .wr t d k,s=>k.run F { s with env:=(t,d) :: s.env }
 | .get key k,s=>(lk s.heap key).bind fun o=>(k o).run F s
 | .set key o k,s=>(lk s.heap key).bind fun _=>k.run F { s with heap:=(key,o) :: s.heap }
 | .cget key off k,s=>(lk s.heap key).bind fun o=>(aGQ o off).bind fun d=>(k d).run F s
 | .cset key off d k,s=>(lk s.heap key).bind fun o=>(aHR o off d).bind fun o'=>k.run F { s with heap:=(key,o') :: s.heap }
 | .new key o k,s=>match lk s.heap key with
  | none=>k.run F { s with heap:=(key,o) :: s.heap }
  | some _=>none
 | .call v ds h k,s=>(F v ds h).bind fun r=>(k r.1 r.2.1 r.2.2).run F s
mutual
def D.refs:D->List Nat
 | .p _=>[]
 | .own k=>[k]
 | .arr k _ _ _=>[k]
 | .ptr k _=>[k]
 | .ep k _ _=>[k]
 | .mp k=>[k]
 | .fn _ caps=>D.refsL caps
 | .ifc _ _ xs=>D.refsL xs
 | .agg xs=>D.refsL xs
 | .tup xs=>D.refsL xs
 | .und=>[]
def D.refsL:List D->List Nat
 | []=>[]
 | d :: r=>d.refs++D.refsL r
end
mutual
def D.ren (f:Nat->Nat):D->D
 | .p u=>.p u
 | .own k=>.own (f k)
 | .arr k off len ap=>.arr (f k) off len ap
 | .ptr k off=>.ptr (f k) off
 | .ep k i off=>.ep (f k) i off
 | .mp k=>.mp (f k)
 | .fn v caps=>.fn v (D.renL f caps)
 | .ifc t a xs=>.ifc t a (D.renL f xs)
 | .agg xs=>.agg (D.renL f xs)
 | .tup xs=>.tup (D.renL f xs)
 | .und=>.und
def D.renL (f:Nat->Nat):List D->List D
 | []=>[]
 | d :: r=>d.ren f :: D.renL f r
end
def Ob.refs:Ob->List Nat
 | .box cs=>D.refsL cs
 | _=>[]
def Ob.ren (f:Nat->Nat):Ob->Ob
 | .box cs=>.box (D.renL f cs)
 | o=>o
def aOp (h:aAR):Nat->List Nat->List Nat->Option (List Nat)
 | 0,_,_=>none
 | _+1,[],seen=>some seen
 | n+1,k :: ts,seen=>if seen.contains k then aOp h n ts seen else (lk h k).bind fun o=>aOp h n (o.refs++ts) (seen++[k])
def idx:List Nat->Nat->Nat
 | [],_=>0
 | a :: r,k=>if a=k then 0 else idx r k+1
def aIg (h:aAR)(ks all:List Nat):Nat->Option aAR
 | j=>match ks with
  | []=>some []
  | k :: r=>(lk h k).bind fun o=>(aIg h r all (j+1)).bind fun t=>some ((j,o.ren (idx all)) :: t)
def bOZ (ks:List Nat)(ds:List D)(h':aAR):Option (List D×aAR):=some (D.renL (idx ks) ds,h')
def bLO (ds:List D)(h:aAR)(ks:List Nat):Option (List D×aAR):=(aIg h ks ks 0).bind (bOZ ks ds)
def canon (ds:List D)(h:aAR):Option (List D×aAR):=(aOp h 1000 (D.refsL ds) []).bind (bLO ds h)
def grd {β:Type}(c:Prop) [Decidable c] (m:M β):M β:=if c then m else .fail
def aPO {β:Type}(k:Bool->Nat->List (List V)->M β):Ob->M β
 | .arr sz xs=>k false sz xs
 | .frz sz xs=>k true sz xs
 | _=>.fail
def frz {β:Type}(c:Bool)(key:Nat)(o:Ob)(m:M β):M β:=if c then .set key o m else m
def oret {α β:Type}(o:Option α)(k:α->M β):M β:=
 match o with
 | some a=>k a
 | none=>.fail
def aNR {β:Type}(c:Bool)(m m':M β):M β:=if c then m else m'
mutual
def toV {β:Type}(perm:Bool):Nat->D->(V->M β)->M β
 | 0,_,_=>.fail
 | _+1,.p u,k=>k u
 | _+1,.own key,k=>.get key (aPO fun fz sz xs=>frz (perm&&!fz) key (.frz sz xs) (k (.sl sz xs)))
 | _+1,.arr key off len _,k=>.get key (aPO fun fz sz xs=>frz (perm&&!fz) key (.frz sz xs) (grd (off+len<=xs.length) (k (.sl sz ((xs.drop off).take len)))))
 | n+1,.ptr key off,k=>.get key (bL0 perm n key off k)
 | _+1,.ep key i off,k=>.get key (aPO fun fz sz xs=>frz (perm&&!fz) key (.frz sz xs) (oret xs[i]? fun cs=>k (.cp (cs.drop off))))
 | n+1,.fn v caps,k=>aRE perm n caps fun vs=>k (.fn v vs)
 | n+1,.ifc t a xs,k=>aRE perm n xs fun vs=>k (.ifc t a vs)
 | _+1,.mp _,_=>.fail
 | _+1,.agg _,_=>.fail
 | _+1,.tup _,_=>.fail
 | _+1,.und,_=>.fail
def bL0 {β:Type}(perm:Bool):Nat->Nat->Nat->(V->M β)->Ob->M β
 | 0,_,_,_,_=>.fail
 | n+1,key,off,k,.box cs=>aRE perm n cs fun vs=>frz perm key (.fbx vs) (k (.cp (vs.drop off)))
 | _+1,_,off,k,.fbx vs=>k (.cp (vs.drop off))
 | _+1,_,_,_,_=>.fail
def aRE {β:Type}(perm:Bool):Nat->List D->(List V->M β)->M β
 | 0,_,_=>.fail
 | _+1,[],k=>k []
 | n+1,d :: r,k=>toV perm n d fun v=>aRE perm n r fun vs=>k (v :: vs)
end
def D.cells:D->List D
 | .agg xs=>xs
 | d=>[d]
inductive Od where
 | t (n:Nat)
 | c (p:V)
 | f (v:Nat)
 | z (sz key:Nat)
inductive O where
 | mv (x:Od)
 | pk (c a b:Od)
 | bi (op:BinOp) (x y:Od)
 | bb (ne:Bool) (x y:Od)
 | bn (ne:Bool) (kind:Nat) (x:Od)
 | ba (ne:Bool) (ks:List Nat) (x y:Od)
 | un (op:UnOp) (x:Od)
 | ld (n:Option Nat) (a:Od)
 | st (n:Option Nat) (a v:Od)
 | fa (off:Nat) (x:Od)
 | fd (off:Nat) (n:Option Nat) (x:Od)
 | ix (sz:Nat) (x i:Od)
 | xa (len sz:Nat) (x i:Od)
 | xv (len sz:Nat) (n:Option Nat) (x i:Od)
 | xs (x i:Od)
 | ln (kind:Nat) (x:Od)
 | ap (sz bytes:Nat) (x y:Od)
 | apa (sz bytes:Nat) (x y:Od)
 | bl (zero:List V) (parts:List (Nat×Nat×Od))
 | bs (sz len:Nat) (zero:List V) (parts:List (Nat×Nat×Od))
 | bx (x:Od)
 | al (zero:List V)
 | ms (sz bytes:Nat) (zero:List V) (n c:Od)
 | sl (x:Od) (sz:Nat) (lo hi mx:Option Od)
 | sk (x:Od) (sz:Nat) (lo hi mx:Option Od)
 | nc (x:Od)
 | ex (x:Od) (i:Nat)
 | ca (v:Nat) (ms:List Nat) (args:List Od)
 | cx (x:Od) (ms:List Nat) (args:List Od)
 | mf (v:Nat) (caps:List Od)
 | ci (k:IntKind) (x:Od)
 | mm (mx:Bool) (xs:List Od)
 | s2b (x:Od)
 | b2s (x:Od)
 | mk
 | mq (kind:Nat) (zero:V) (ok:Bool) (x i:Od)
 | mu (kind:Nat) (x i v:Od)
 | me (kind:Nat) (zero:V) (x i:Od)
 | mt (x s v:Od)
 | md (kind:Nat) (x i:Od)
structure AO where
 dst:Option Nat
 op:O
 nm:Nat
 g:Option (Nat×Bool):=none
 pre:List Nat:=[]
def vl {β:Type}(x:Od)(k:D->M β):M β:=
 match x with
 | .t n=>.rd n k
 | .c p=>k (.p p)
 | .f v=>k (.p (.fn v []))
 | .z sz key=>.new key (.arr sz []) (k (.own key))
def vls {β:Type}:List Od->(List D->M β)->M β
 | [],k=>k []
 | x :: r,k=>vl x fun d=>vls r fun ds=>k (d :: ds)
def asI {β:Type}(k:IntKind->Int->M β):D->M β
 | .p (.i kd n)=>k kd n
 | _=>.fail
def asB {β:Type}(k:Bool->M β):D->M β
 | .p (.b t)=>k t
 | _=>.fail
def asP {β:Type}(k:V->M β):D->M β
 | .p u=>k u
 | _=>.fail
def asG {β:Type}(k:List D->M β):D->M β
 | .agg xs=>k xs
 | _=>.fail
def elems {β:Type}(k:Nat->List (List V)->M β):D->M β
 | .p (.sl sz xs)=>k sz xs
 | .own key=>.get key (aPO fun _ sz xs=>k sz xs)
 | .arr key off len _=>.get key (aPO fun _ sz xs=>grd (off+len<=xs.length) (k sz ((xs.drop off).take len)))
 | _=>.fail
def intOp (op:BinOp)(k:IntKind)(a b:Int):Option V:=
 match op with
 | .add=>some (.i k (k.wrap (a+b)))
 | .sub=>some (.i k (k.wrap (a-b)))
 | .mul=>some (.i k (k.wrap (a*b)))
 | .quo=>if b=0 then none else some (.i k (k.wrap (a.tdiv b)))
 | .rem=>if b=0 then none else some (.i k (a.tmod b))
 | .eql=>some (.b (decide (a=b)))
 | .neq=>some (.b (decide (a≠b)))
 | .lss=>some (.b (decide (a<b)))
 | .leq=>some (.b (decide (a<=b)))
 | .gtr=>some (.b (decide (b<a)))
 | .geq=>some (.b (decide (b<=a)))
 | .and=>some (.i k (k.wrap (BitVec.ofInt k.bits a &&& BitVec.ofInt k.bits b).toNat))
 | .or=>some (.i k (k.wrap (BitVec.ofInt k.bits a ||| BitVec.ofInt k.bits b).toNat))
 | .xor=>some (.i k (k.wrap (BitVec.ofInt k.bits a ^^^ BitVec.ofInt k.bits b).toNat))
 | .andNot=>some (.i k (k.wrap (BitVec.ofInt k.bits a &&& ~~~BitVec.ofInt k.bits b).toNat))
 | _=>none
def aLK (op:BinOp)(k:IntKind)(a b:Int):Option V:=
 if b<0 then none else
 match op with
 | .shl=>some (.i k (k.wrap (a*2^(min b.toNat k.bits))))
 | .shr=>some (.i k (a.fdiv (2^(min b.toNat k.bits))))
 | _=>none
def aMQ:BinOp->Bool
 | .shl | .shr=>true
 | _=>false
def bGA (op:BinOp)(x y:V):Option V:=
 match x,y with
 | .i k a,.i k' b=>if aMQ op then aLK op k a b else if k=k' then intOp op k a b else none
 | .s a,.s b=>match op with
  | .eql=>some (.b (decide (a=b)))
  | .neq=>some (.b (decide (a≠b)))
  | .add=>if ((a.size+b.size:Nat):Int)>9223372036854775807 then none else some (.s (a++b))
  | _=>none
 | _,_=>none
def eqV:Nat->V->V->Option Bool
 | 0,.i k a,.i k' b=>if k=k' then some (decide (a=b))else none
 | 1,.b a,.b b=>some (a == b)
 | 2,.s a,.s b=>some (decide (a=b))
 | _,_,_=>none
def aNP:List Nat->List D->List D->Option Bool
 | [],[],[]=>some true
 | k :: ks,.p x :: xs,.p y :: ys=>(eqV k x y).bind fun e=>(aNP ks xs ys).bind fun r=>some (e&&r)
 | _,_,_=>none
def aTO {β:Type}(key:Nat):Nat->Nat->(List D->M β)->M β
 | _,0,k=>k []
 | off,n+1,k=>.cget key off fun d=>aTO key (off+1) n fun ds=>k (d :: ds)
def aWb {β:Type}(key:Nat):Nat->List D->M β->M β
 | _,[],k=>k
 | off,d :: r,k=>.cset key off d (aWb key (off+1) r k)
def aHE {β:Type}(cs:List V)(off:Nat)(k:D->M β):Option Nat->M β
 | none=>oret cs[off]? fun v=>k (.p v)
 | some n=>grd (off+n<=cs.length) (k (.agg (((cs.drop off).take n).map .p)))
def ldP {β:Type}(key off:Nat)(k:D->M β):Option Nat->M β
 | none=>.cget key off k
 | some n=>aTO key off n fun ds=>k (.agg ds)
def ldO {β:Type}(n:Option Nat)(k:D->M β):D->M β
 | .ptr key off=>ldP key off k n
 | .ep key i off=>.get key (aPO fun _ _ xs=>oret xs[i]? fun cs=>aHE cs off k n)
 | .p (.cp cells)=>aHE cells 0 k n
 | _=>.fail
def aKo (cs:List V)(off:Nat)(vs:List V):List V:=cs.take off++vs++cs.drop (off+vs.length)
def stX:Option Nat->D->Option (List D)
 | none,.agg _=>none
 | none,.tup _=>none
 | none,.und=>none
 | none,d=>some [d]
 | some m,.agg xs=>if xs.length=m then some xs else none
 | some _,_=>none
def stE {β:Type}(key i off:Nat)(vs:List V)(k:M β):Ob->M β
 | .arr sz es=>oret es[i]? fun cs=>grd (off+vs.length<=cs.length) (.set key (.arr sz (es.set i (aKo cs off vs))) k)
 | _=>.fail
def stC {β:Type}(xs:List D)(k:M β):D->M β
 | .ptr key off=>aWb key off xs k
 | .ep key i off=>aRE true 300 xs fun vs=>.get key (stE key i off vs k)
 | _=>.fail
def ixO {β:Type}(sz:Nat)(n:Int)(k:D->M β):D->M β
 | .p (.sl s xs)=>grd (s=sz∧0<=n) (oret xs[n.toNat]? fun cs=>k (.p (.cp cs)))
 | .own key=>.get key (aPO fun _ s xs=>grd (s=sz∧0<=n∧n<xs.length) (k (.ep key n.toNat 0)))
 | .arr key off len _=>.get key (aPO fun _ s xs=>grd (s=sz∧0<=n∧n<len∧off+len<=xs.length) (k (.ep key (off+n.toNat) 0)))
 | _=>.fail
def mpK {β:Type}(k:Nat->List (V×Nat×V)->M β):Ob->M β
 | .mp c es=>k c es
 | _=>.fail
def mix (kind:Nat)(u:V):List (V×Nat×V)->Option (Option Nat)
 | []=>some none
 | e :: r=>(eqV kind u e.1).bind fun b=>if b then some (some 0)else (mix kind u r).map (Option.map (·+1))
def mqR (ok:Bool)(zero:V):Option V->D
 | none=>if ok then .tup [.p zero,.p (.b false)]else .p zero
 | some v=>if ok then .tup [.p v,.p (.b true)]else .p v
def bAs (es:List (V×Nat×V)):Option Nat->Option V
 | none=>none
 | some i=>(es[i]?).map (·.2.2)
def bAq (u y:V)(c:Nat)(es:List (V×Nat×V)):Option Nat->Nat×List (V×Nat×V)
 | none=>(c+1,es++[(u,c,y)])
 | some i=>(c,es.modify i fun e=>(u,e.2.1,y))
def bHN (es:List (V×Nat×V)):Option Nat->List (V×Nat×V)
 | none=>es
 | some i=>es.eraseIdx i
def aLS (u z:V)(c:Nat)(es:List (V×Nat×V)):Option Nat->Nat×List (V×Nat×V)×V×Nat
 | none=>(c+1,es++[(u,c,z)],z,c)
 | some i=>(c,es.modify i fun e=>(u,e.2.1,e.2.2),((es[i]?).map (·.2.2)).getD z,((es[i]?).map (·.2.1)).getD 0)
def mpO {β:Type}(k:Nat->Nat->List (V×Nat×V)->M β):D->M β
 | .mp key=>.get key (mpK fun c es=>k key c es)
 | _=>.fail
def lnO {β:Type}(k:Nat->M β):Nat->D->M β
 | 0,d=>elems (fun _ xs=>k xs.length) d
 | 1,.p (.s s)=>k s.size
 | 2,.mp key=>.get key (mpK fun _ es=>k es.length)
 | _,_=>.fail
def aJm (n bytes:Nat):Prop:=n*bytes<=140737488355328
instance (n bytes:Nat):Decidable (aJm n bytes):=by unfold aJm;infer_instance
def aNx {β:Type}(k:Nat->List (List V)->M β):Ob->M β
 | .arr sz xs=>k sz xs
 | _=>.fail
def bMX {β:Type}(nm sz key off:Nat)(xs ys:List (List V))(k:D->M β):M β:=.set key .dead (.new nm (.arr sz (xs.drop off++ys)) (k (.own nm)))
def bRl {β:Type}(sz key off len:Nat)(xs ys:List (List V))(k:D->M β):M β:=
 grd (off+len+ys.length<=xs.length) (.set key (.arr sz (xs.take (off+len)++ys++xs.drop (off+len+ys.length))) (k (.arr key off (len+ys.length) true)))
def apX {β:Type}(nm sz bytes:Nat)(ys:List (List V))(k:D->M β):D->M β
 | .own key=>.get key (aNx fun s' xs=>grd (s'=sz∧aJm (xs.length+ys.length) bytes) (.set key .dead (.new nm (.arr sz (xs++ys)) (k (.own nm)))))
 | .arr key off len true=>.get key (aNx fun s' xs=>grd (s'=sz∧aJm (xs.length+ys.length) bytes) (aNR (off+len == xs.length) (bMX nm sz key off xs ys k) (bRl sz key off len xs ys k)))
 | _=>.fail
def aM7 {β:Type}:Nat->List V->(List D->M β)->M β
 | _,[],k=>k []
 | nm,.sl sz _ :: r,k=>.new nm (.arr sz []) (aM7 (nm+1) r fun ds=>k (.own nm :: ds))
 | nm,v :: r,k=>aM7 (nm+1) r fun ds=>k (.p v :: ds)
def aIq:List (Nat×Nat×D)->List (Option D)->Option (List (Option D))
 | [],cs=>some cs
 | (off,size,d) :: r,cs=>if d.cells.length=size∧off+size<=cs.length∧d.cells.all (·.one)then aIq r (cs.take off++d.cells.map some++cs.drop (off+size))else none
def aLi {β:Type}:List (Nat×Nat×Od)->(List (Nat×Nat×D)->M β)->M β
 | [],k=>k []
 | (off,size,x) :: r,k=>vl x fun d=>aLi r fun ds=>k ((off,size,d) :: ds)
def fillZ {β:Type}:Nat->List V->List (Option D)->(List D->M β)->M β
 | nm,_ :: zs,some d :: r,k=>fillZ (nm+1) zs r fun ds=>k (d :: ds)
 | nm,.sl sz _ :: zs,none :: r,k=>.new nm (.arr sz []) (fillZ (nm+1) zs r fun ds=>k (.own nm :: ds))
 | nm,v :: zs,none :: r,k=>fillZ (nm+1) zs r fun ds=>k (.p v :: ds)
 | _,[],[],k=>k []
 | _,_,_,_=>.fail
def aFA (sz:Nat):Nat->List V->List (List V)
 | 0,_=>[]
 | n+1,vs=>vs.take sz :: aFA sz n (vs.drop sz)
def aEc {β:Type}(d:Int)(k:Int->M β):Option Od->M β
 | none=>k d
 | some o=>vl o (asI fun _ n=>k n)
def slA {β:Type}(sz key off len s:Nat)(ap:Bool)(xs:List (List V))(mx:Option Od)(l h:Int)(k:D->M β)(m:Int):M β:=
 grd (s=sz∧0<sz∧0<=l∧l<=h∧h<=len∧h<=m∧m<=len∧off+len<=xs.length) (k (.arr key (off+l.toNat) (h.toNat-l.toNat) (ap&&mx.isNone)))
def slO {β:Type}(sz:Nat)(lo hi mx:Option Od)(k:D->M β):D->M β
 | .p (.s s)=>aEc 0 (fun l=>aEc s.size (fun h=>grd (mx.isNone∧sz=0∧0<=l∧l<=h∧h<=s.size) (k (.p (.s (s.extract l.toNat h.toNat))))) hi) lo
 | .p (.sl s xs)=>aEc 0 (fun l=>aEc xs.length (fun h=>grd (mx.isNone∧s=sz∧0<sz∧0<=l∧l<=h∧h<=xs.length) (k (.p (.sl s ((xs.drop l.toNat).take (h.toNat-l.toNat)))))) hi) lo
 | .own key=>.get key (aPO fun fz s xs=>aEc 0 (fun l=>aEc xs.length (fun h=>aEc h (slA sz key 0 xs.length s (!fz) xs mx l h k) mx) hi) lo)
 | .arr key off len ap=>.get key (aPO fun fz s xs=>aEc 0 (fun l=>aEc len (fun h=>aEc h (slA sz key off len s (ap&&!fz) xs mx l h k) mx) hi) lo)
 | _=>.fail
def aKO {β:Type}(nm:Nat)(k:D->M β):D->M β
 | .arr key off len true=>.get key (aNx fun sz xs=>grd (off+len=xs.length) (.set key .dead (.new nm (.arr sz (xs.drop off)) (k (.own nm)))))
 | _=>.fail
def aW2 {β:Type}(perm:Bool)(k:D->M β):D->M β
 | .agg xs=>aRE perm 300 xs fun vs=>k (.agg (vs.map .p))
 | d=>toV perm 300 d fun v=>k (.p v)
def bGw {β:Type}(mode:Nat)(d:D)(k:D->M β):M β:=
 match mode with
 | 2=>k d
 | 1=>aW2 true k d
 | _=>aW2 false k d
def aJN {β:Type}:List Nat->List D->(List D->M β)->M β
 | _,[],k=>k []
 | ms,d :: r,k=>bGw (ms.headD 0) d fun d'=>aJN ms.tail r fun ds=>k (d' :: ds)
def aL3:List Nat->List D->List D
 | _,[]=>[]
 | ms,d :: r=>if ms.headD 0=1∨ms.headD 0=2∨(D.refs d).isEmpty=true then aL3 ms.tail r else d.cells++aL3 ms.tail r
def gath {β:Type}:Nat->List Nat->aAR->(aAR->M β)->M β
 | 0,_,_,_=>.fail
 | _+1,[],seen,k=>k seen
 | n+1,key :: ts,seen,k=>if (lk seen key).isSome then gath n ts seen k else .get key fun o=>gath n (o.refs++ts) (seen++[(key,o)]) k
def lkN:List (Nat×Nat)->Nat->Option Nat
 | [],_=>none
 | (k,x) :: r,t=>if k=t then some x else lkN r t
def kills {β:Type}:aAR->M β->M β
 | [],k=>k
 | (key,o) :: r,k=>aNR o.mut (.set key .dead (kills r k)) (kills r k)
def aFK (nm:Nat)(m:List (Nat×Nat))(key:Nat):Nat:=(lkN m key).getD (nm+key)
def aId:List D->D
 | [d]=>d
 | ds=>.tup ds
mutual
def V.flat:V->Bool
 | .i _ _ | .b _ | .s _ | .nl _=>true
 | .sl _ xs=>xs.isEmpty
 | .fn _ caps=>V.flatL caps
 | .cp _ | .ifc _ _ _=>false
def V.flatL:List V->Bool
 | []=>true
 | u :: r=>u.flat&&V.flatL r
end
mutual
def D.flat:D->Bool
 | .p u=>u.flat
 | .fn _ caps=>D.flatL caps
 | .ifc _ _ xs=>D.flatL xs
 | .agg xs=>D.flatL xs
 | .tup xs=>D.flatL xs
 | _=>true
def D.flatL:List D->Bool
 | []=>true
 | d :: r=>d.flat&&D.flatL r
end
def Ob.flat:Ob->Bool
 | .box cs=>D.flatL cs
 | .arr _ xs=>xs.all fun c=>c.all V.flat
 | .mp _ es=>es.all fun x=>x.1.flat&&x.2.2.flat
 | .dead=>true
 | _=>false
mutual
def D.boxy:D->Bool
 | .own _ | .arr _ _ _ _ | .ep _ _ _=>false
 | .fn _ caps=>D.boxyL caps
 | .ifc _ _ xs=>D.boxyL xs
 | .agg xs=>D.boxyL xs
 | .tup xs=>D.boxyL xs
 | _=>true
def D.boxyL:List D->Bool
 | []=>true
 | d :: r=>d.boxy&&D.boxyL r
end
def bS9 {β:Type}(d:D)(k:D->M β):M β:=k d
mutual
def D.same:D->D->Bool
 | .own k,.own k'=>k == k'
 | .ptr k o,.ptr k' o'=>k == k'&&o == o'
 | .mp k,.mp k'=>k == k'
 | .fn v cs,.fn v' cs'=>v == v'&&D.sameL cs cs'
 | _,_=>false
def D.sameL:List D->List D->Bool
 | [],[]=>true
 | a :: r,b :: q=>a.same b&&D.sameL r q
 | _,_=>false
end
def Ob.same:Ob->Ob->Bool
 | .box a,.box b=>D.sameL a b
 | _,_=>false
def cput {β:Type}(key:Nat):Nat->List D->List D->M β->M β
 | off,c :: cs,d :: ds,k=>aNR (c.same d) (cput key (off+1) cs ds k) (.cset key off d (cput key (off+1) cs ds k))
 | _,_,_,k=>k
def wrK {β:Type}(old:Nat)(o:Ob)(k:M β)(cur:Ob):M β:=
 match cur,o with
 | .box cs,.box ds=>aNR (cs.length == ds.length) (cput old 0 cs ds k) (.set old o k)
 | _,_=>.set old o k
def writes {β:Type}(m:List (Nat×Nat))(f:Nat->Nat):aAR->M β->M β
 | [],k=>k
 | (key,o) :: r,k=>match lkN m key with
  | some old=>.get old (wrK old (o.ren f) (writes m f r k))
  | none=>.new (f key) (o.ren f) (writes m f r k)
def bxx:Ob->Ob->Bool
 | .box _,.box _=>true
 | _,_=>false
def bKw (m:List (Nat×Nat))(f:Nat->Nat)(sub:aAR)(x:Nat×Ob):Bool:=
 match lkN m x.1 with
 | some old=>(match lk sub old with
  | some o=>o.same (x.2.ren f)
  | none=>false)
 | none=>false
def V.scq:V->V->Bool
 | .i k x,.i k' y=>decide (k=k')&&decide (x=y)
 | .b x,.b y=>x == y
 | .s x,.s y=>decide (x=y)
 | _,_=>false
def mpq:List (V×Nat×V)->List (V×Nat×V)->Bool
 | [],[]=>true
 | x :: r,y :: q=>x.1.scq y.1&&(x.2.1 == y.2.1&&(x.2.2.scq y.2.2&&mpq r q))
 | _,_=>false
def Ob.mpSame:Ob->Ob->Bool
 | .mp c es,.mp c' es'=>c == c'&&mpq es es'
 | _,_=>false
def mxx:Ob->Ob->Bool
 | .mp _ _,.mp _ _=>true
 | _,_=>false
def bFP (kp:Bool)(m:List (Nat×Nat))(sub:aAR)(x:Nat×Ob):Option Ob:=
 match kp,lkN m x.1 with
 | true,some old=>(match lk sub old with
  | some o=>if mxx o x.2 then some o else none
  | none=>none)
 | _,_=>none
def aPy (kp:Bool)(m:List (Nat×Nat))(f:Nat->Nat)(sub:aAR)(x:Nat×Ob):Bool:=bKw m f sub x||(bFP kp m sub x).isSome
def aXx {β:Type}(kp:Bool)(m:List (Nat×Nat))(sub:aAR):aAR->M β->M β
 | [],k=>k
 | x :: r,k=>match bFP kp m sub x with
  | some o=>grd (o.mpSame x.2=true) (aXx kp m sub r k)
  | none=>aXx kp m sub r k
def bP7 (kp:Bool)(m:List (Nat×Nat))(f:Nat->Nat)(h sub:aAR):aAR:=sub.filter fun y=>!(h.any fun x=>(aPy kp m f sub x||bxx x.2 y.2)&&lkN m x.1 == some y.1)
def bJ5 (kp:Bool)(m:List (Nat×Nat))(f:Nat->Nat)(sub h:aAR):aAR:=h.filter fun x=>!aPy kp m f sub x
def backO {β:Type}(kp:Bool)(nm:Nat)(bs:List D)(refs:List Nat)(sub:aAR)(k:D->M β)(roots:List Nat)(res:List D)(h:aAR):M β:=
 grd (roots.length=refs.length∧(bs.isEmpty||(D.flatL res&&h.all fun x=>x.2.flat))=true)
  (aXx kp (roots.zip refs) sub h (kills (bP7 kp (roots.zip refs) (aFK nm (roots.zip refs)) h sub) (writes (roots.zip refs) (aFK nm (roots.zip refs)) (bJ5 kp (roots.zip refs) (aFK nm (roots.zip refs)) sub h) (bS9 (aId (D.renL (aFK nm (roots.zip refs)) res)) k))))
def bG6:Nat×Ob->List D
 | (k,.box _)=>[.ptr k 0]
 | (k,.mp _ _)=>[.mp k]
 | _=>[]
def aFi (ds:List D):aAR->List D
 | []=>[]
 | x :: r=>if (D.refsL ds).contains x.1 then aFi ds r else bG6 x++aFi ds r
def aLW:List D->List D->Bool
 | [],[]=>true
 | .ptr k o :: r,.ptr k' o' :: q=>(k == k'&&o == o')&&aLW r q
 | .mp k :: r,.mp k' :: q=>k == k'&&aLW r q
 | _,_=>false
def callO {β:Type}(kp:Bool)(nm v:Nat)(bs:List D)(k:D->M β)(ds:List D):M β:=
 gath 1000 (D.refsL ds) [] fun sub=>gath 1000 (D.refsL bs) [] fun bsub=>
  grd ((sub.all fun x=>(lk bsub x.1).isNone)=true) (oret (canon (ds++aFi ds sub) sub) fun c=>grd (aLW (aFi (c.1.take ds.length) c.2) (c.1.drop ds.length)=true) (.call v (c.1.take ds.length) c.2 (backO kp nm bs (D.refsL (ds++aFi ds sub)) sub k)))
def aZk:List D->Option (List V)
 | []=>some []
 | .p v :: r=>(aZk r).map (v :: ·)
 | _=>none
def partsV {β:Type}:List (Nat×Nat×D)->List V->(List V->M β)->M β
 | [],cs,k=>k cs
 | (off,size,d) :: r,cs,k=>aRE true 300 d.cells fun vs=>grd (vs.length=size∧off+size<=cs.length) (partsV r (aKo cs off vs) k)
def mmI (kd:IntKind)(mx:Bool)(a:Int):List D->Option Int
 | []=>some a
 | .p (.i kd' b) :: r=>if kd=kd' then mmI kd mx (if mx then max a b else min a b) r else none
 | _=>none
def aJz {β:Type}(k:Bool->M β):Nat->D->M β
 | 0,.p (.nl 0)=>k true
 | 0,.p (.cp _)=>k false
 | 0,.ptr _ _=>k false
 | 0,.ep _ _ _=>k false
 | 1,.p (.nl 1)=>k true
 | 1,.p (.fn _ _)=>k false
 | 1,.fn _ _=>k false
 | 2,.p (.nl 2)=>k true
 | 2,.mp _=>k false
 | 3,.p (.nl 3)=>k true
 | 3,.p (.ifc _ _ _)=>k false
 | 3,.ifc _ _ _=>k false
 | 4,d=>elems (fun _ xs=>grd (xs.isEmpty=false) (k false)) d
 | _,_=>.fail
def unO {β:Type}(k:D->M β):UnOp->D->M β
 | .neg,.p (.i kd n)=>k (.p (.i kd (kd.wrap (0-n))))
 | .not,.p (.b t)=>k (.p (.b (!t)))
 | .xor,.p (.i kd n)=>k (.p (.i kd (kd.wrap (BitVec.ofInt kd.bits (if kd.signed then -1 else kd.max) ^^^ BitVec.ofInt kd.bits n).toNat)))
 | _,_=>.fail
def aOv {β:Type}(off:Nat)(k:D->M β):D->M β
 | .ptr key o=>k (.ptr key (o+off))
 | .ep key i o=>k (.ep key i (o+off))
 | .p (.cp cells)=>k (.p (.cp (cells.drop off)))
 | _=>.fail
def aXG {β:Type}(xs:List D)(off:Nat)(k:D->M β):Option Nat->M β
 | none=>oret xs[off]? k
 | some n=>grd (off+n<=xs.length) (k (.agg ((xs.drop off).take n)))
def xsO {β:Type}(n:Int)(k:D->M β):D->M β
 | .p (.s s)=>if h:0<=n∧n.toNat<s.size then k (.p (.i .u8 ((s[n.toNat]'h.2).toNat)))else .fail
 | _=>.fail
def ncO {β:Type}(k:D->M β):D->M β
 | .p (.cp cs)=>k (.p (.cp cs))
 | .p (.fn v cs)=>k (.p (.fn v cs))
 | .p (.ifc t a xs)=>k (.p (.ifc t a xs))
 | .ptr key off=>k (.ptr key off)
 | .ep key i off=>k (.ep key i off)
 | .fn v cs=>k (.fn v cs)
 | .ifc t a xs=>k (.ifc t a xs)
 | _=>.fail
def exT {β:Type}(i:Nat)(k:D->M β):D->M β
 | .tup ds=>oret ds[i]? k
 | _=>.fail
def cxO {β:Type}(nm:Nat)(bs ds:List D)(k:D->M β):D->M β
 | .p (.fn v caps)=>callO false nm v bs k (ds++caps.map .p)
 | .fn v caps=>callO false nm v bs k (ds++caps)
 | _=>.fail
def mfO {β:Type}(v:Nat)(k:D->M β)(ds:List D):M β:=
 match aZk ds with
 | some vs=>k (.p (.fn v vs))
 | none=>k (.fn v ds)
def mmO {β:Type}(mx:Bool)(k:D->M β):List D->M β
 | .p (.i kd a) :: r=>oret (mmI kd mx a r) fun n=>k (.p (.i kd n))
 | _=>.fail
def bxO {β:Type}(nm:Nat)(k:D->M β)(d:D):M β:=grd (d.cells.all (·.one)=true) (.new nm (.box d.cells) (k (.ptr nm 0)))
def aKX:List (List V)->Option (List UInt8)
 | []=>some []
 | [.i .u8 n] :: r=>if 0<=n∧n<256 then (aKX r).map (UInt8.ofNat n.toNat :: ·)else none
 | _=>none
def asS {β:Type}(k:ByteArray->M β):D->M β
 | .p (.s s)=>k s
 | _=>.fail
def aIw (s:ByteArray):List (List V):=s.data.toList.map fun b=>[.i .u8 b.toNat]
def evO {β:Type}(nm:Nat)(k:D->M β):O->M β
 | .mv x=>vl x k
 | .pk c a b=>vl c (asB fun t=>aNR t (vl a k) (vl b k))
 | .bi op x y=>vl x (asP fun u=>vl y (asP fun w=>oret (bGA op u w) fun r=>k (.p r)))
 | .bb ne x y=>vl x (asB fun u=>vl y (asB fun w=>k (.p (.b (if ne then u != w else u == w)))))
 | .bn ne kind x=>vl x (aJz (fun t=>k (.p (.b (ne != t)))) kind)
 | .ba ne ks x y=>vl x (asG fun u=>vl y (asG fun w=>oret (aNP ks u w) fun t=>k (.p (.b (ne != t)))))
 | .un op x=>vl x (unO k op)
 | .ld n a=>vl a (ldO n k)
 | .st n a v=>vl a fun d=>vl v fun x=>oret (stX n x) fun xs=>stC xs (k .und) d
 | .fa off x=>vl x (aOv off k)
 | .fd off n x=>vl x (asG fun xs=>aXG xs off k n)
 | .ix sz x i=>vl x fun d=>vl i (asI fun _ n=>ixO sz n k d)
 | .xa len sz x i=>vl x fun d=>vl i (asI fun _ n=>grd (0<=n∧n<len) (aOv (n.toNat*sz) k d))
 | .xv len sz n x i=>vl x (asG fun xs=>vl i (asI fun _ m=>grd (0<=m∧m<len) (aXG xs (m.toNat*sz) k n)))
 | .xs x i=>vl x fun d=>vl i (asI fun _ n=>xsO n k d)
 | .ln kind x=>vl x (lnO (fun n=>k (.p (.i .i64 n))) kind)
 | .ap sz bytes x y=>vl x fun d=>vl y (elems fun s ys=>grd (s=sz) (apX nm sz bytes ys k d))
 | .apa sz bytes x y=>vl x fun d=>vl y (elems fun s ys=>grd (s=sz) (apX nm sz bytes ys (slO sz none none none k) d))
 | .bl zero parts=>aLi parts fun ps=>oret (aIq ps (zero.map fun _=>none)) fun cs=>fillZ nm zero cs fun ds=>k (.agg ds)
 | .bs sz len zero parts=>aLi parts fun ps=>partsV ps (List.replicate len zero).flatten fun vs=>.new nm (.arr sz (aFA sz len vs)) (k (.own nm))
 | .bx x=>vl x (bxO nm k)
 | .al zero=>aM7 (nm+1) zero fun ds=>.new nm (.box ds) (k (.ptr nm 0))
 | .ms sz bytes zero x y=>vl x (asI fun _ n=>vl y (asI fun _ c=>grd (0<=n∧n<=c∧aJm c.toNat bytes) (.new nm (.arr sz (List.replicate n.toNat zero)) (k (.own nm)))))
 | .sl x sz lo hi mx=>vl x (slO sz lo hi mx k)
 | .sk x sz lo hi mx=>vl x (slO sz lo hi mx (aKO nm k))
 | .nc x=>vl x (ncO k)
 | .ex x i=>vl x (exT i k)
 | .ca v ms args=>vls args fun ds=>aJN ms ds (callO (ms.contains 9) nm v (aL3 ms ds) k)
 | .cx x ms args=>vl x fun d=>vls args fun ds=>aJN ms ds fun ds'=>cxO nm (aL3 ms ds) ds' k d
 | .mf v caps=>vls caps (mfO v k)
 | .ci kd x=>vl x (asI fun _ n=>k (.p (.i kd (kd.wrap n))))
 | .mm mx xs=>vls xs (mmO mx k)
 | .s2b x=>vl x (asS fun s=>k (.p (.sl 1 (aIw s))))
 | .b2s x=>vl x (elems fun _ xs=>oret (aKX xs) fun l=>k (.p (.s ⟨l.toArray⟩)))
 | .mk=>.new nm (.mp 0 []) (k (.mp nm))
 | .mq kind zero ok x i=>vl x fun d=>vl i (asP fun u=>mpO (fun _ _ es=>oret (mix kind u es) fun j=>k (mqR ok zero (bAs es j))) d)
 | .mu kind x i v=>vl x fun d=>vl i (asP fun u=>vl v (toV true 300 · fun y=>mpO (fun key c es=>oret (mix kind u es) fun j=>.set key (.mp (bAq u y c es j).1 (bAq u y c es j).2) (k .und)) d))
 | .me kind zero x i=>vl x fun d=>vl i (asP fun u=>mpO (fun key c es=>oret (mix kind u es) fun j=>.set key (.mp (aLS u zero c es j).1 (aLS u zero c es j).2.1) (k (.tup [.p (aLS u zero c es j).2.2.1,.p (.i .i64 (aLS u zero c es j).2.2.2)]))) d)
 | .mt x s v=>vl x fun d=>vl s (asI fun _ n=>vl v (toV true 300 · fun y=>mpO (fun key c es=>oret (es.findIdx? fun e=>(e.2.1:Int) == n) fun j=>.set key (.mp c (es.modify j fun e=>(e.1,e.2.1,y))) (k .und)) d))
 | .md kind x i=>vl x fun d=>vl i (asP fun u=>mpO (fun key c es=>oret (mix kind u es) fun j=>.set key (.mp c (bHN es j)) (k (.tup []))) d)
def aRf {β:Type}(dst:Option Nat)(k:M β)(d:D):M β:=
 match dst with
 | some t=>.wr t d k
 | none=>k
def guO {β:Type}(want:Bool)(m:M β)(no:M β):D->M β
 | .p (.b x)=>aNR (x == want) m no
 | .und=>no
 | _=>.fail
def exO {β:Type}(o:AO)(k:M β):M β:=
 match o.g with
 | none=>evO o.nm (aRf o.dst k) o.op
 | some (g,want)=>.rd g (guO want (evO o.nm (aRf o.dst k) o.op) (aRf o.dst k .und))
def bGq {β:Type}:List AO->M β->M β
 | [],k=>k
 | o :: r,k=>exO o (bGq r k)
structure Acc where
 key:Nat
 off:Option Nat
 wr:Bool
def aGG:Option Nat->Option Nat->Bool
 | some a,some b=>a == b
 | _,_=>true
def Acc.meets (a b:Acc):Bool:=(a.wr||b.wr)&&(a.key == b.key)&&aGG a.off b.off
def M.runA {α:Type}(F:Cf):M α->St->List Acc->Option (α×St×List Acc)
 | .ret a,s,l=>some (a,s,l)
 | .fail,_,_=>none
 | .rd t k,s,l=>(lk s.env t).bind fun d=>(k d).runA F s l
 | .wr t d k,s,l=>k.runA F { s with env:=(t,d) :: s.env } l
 | .get key k,s,l=>(lk s.heap key).bind fun o=>(k o).runA F s (⟨key,none,false⟩ :: l)
 | .set key o k,s,l=>(lk s.heap key).bind fun _=>k.runA F { s with heap:=(key,o) :: s.heap } (⟨key,none,true⟩ :: l)
 | .cget key off k,s,l=>(lk s.heap key).bind fun o=>(aGQ o off).bind fun d=>(k d).runA F s (⟨key,some off,false⟩ :: l)
 | .cset key off d k,s,l=>(lk s.heap key).bind fun o=>(aHR o off d).bind fun o'=>k.runA F { s with heap:=(key,o') :: s.heap } (⟨key,some off,true⟩ :: l)
 | .new key o k,s,l=>match lk s.heap key with
  | none=>k.runA F { s with heap:=(key,o) :: s.heap } (⟨key,none,true⟩ :: l)
  | some _=>none
 | .call v ds h k,s,l=>(F v ds h).bind fun r=>(k r.1 r.2.1 r.2.2).runA F s l
inductive Ex where
 | nrm
 | ex (id:Nat)
 | ret
inductive C where
 | skip
 | reg (ops:List AO)
 | drw (ops:List AO)
 | seq (a b:C)
 | cond (x:Od) (a b:C)
 | block (id:Nat) (c:C)
 | loop (keep:List Nat) (c:C)
 | exit (keep:List Nat) (id:Nat)
 | ret (keep:List Nat)
def aOB (a b:List Acc):Bool:=a.any fun x=>b.any fun y=>x.meets y
def aKI (i:Nat)(o:AO)(acc:List Acc):List (Nat×List Acc)->Bool
 | []=>true
 | (j,acc') :: r=>(o.pre.contains j||!aOB acc acc')&&aKI i o acc r
def aJj (F:Cf):Nat->List AO->List (Nat×List Acc)->St->Option St
 | _,[],_,s=>some s
 | i,o :: r,done,s=>((exO o (.ret ())).runA F s []).bind fun x=>if aKI i o x.2.2 done then aJj F (i+1) r ((i,x.2.2) :: done) x.2.1 else none
def aCD (e:Env):Env:=e.filter fun x=>100000<=x.1
def kept:List Nat->Env->Env
 | [],e=>aCD e
 | t :: r,e=>match lk e t with
  | some d=>(t,d) :: kept r e
  | none=>kept r e
def bDx (ks:List Nat)(c:List D×aAR):Option St:=some { env:=ks.zip c.1,heap:=c.2 }
def aHy (keep:List Nat)(s:St):Option St:=(canon ((kept keep s.env).map (·.2)) s.heap).bind (bDx ((kept keep s.env).map (·.1)))
def bGp (x:Unit×St):Option (Ex×St):=some (.nrm,x.2)
def bLb (x:St):Option (Ex×St):=some (.nrm,x)
def exK (e:Ex)(s:St):Option (Ex×St):=some (e,s)
def aKq (f:St->Option (Ex×St)):Ex×St->Option (Ex×St)
 | (.nrm,s)=>f s
 | (.ex id,s)=>some (.ex id,s)
 | (.ret,s)=>some (.ret,s)
def aXH (f g:St->Option (Ex×St))(s:St):D×St->Option (Ex×St)
 | (.p (.b t),_)=>if t then f s else g s
 | _=>none
def aRW (id:Nat):Ex×St->Option (Ex×St)
 | (.nrm,s)=>some (.nrm,s)
 | (.ex id',s)=>if id'=id then some (.nrm,s)else some (.ex id',s)
 | (.ret,s)=>some (.ret,s)
def evC (F:Cf):Nat->C->St->Option (Ex×St)
 | _,.skip,s=>some (.nrm,s)
 | _,.reg ops,s=>((bGq ops (.ret ())).run F s).bind bGp
 | _,.drw ops,s=>(aJj F 0 ops [] s).bind bLb
 | n,.seq a b,s=>(evC F n a s).bind (aKq fun s=>evC F n b s)
 | n,.cond x a b,s=>((vl x .ret:M D).run F s).bind (aXH (fun s=>evC F n a s) (fun s=>evC F n b s) s)
 | n,.block id c,s=>(evC F n c s).bind (aRW id)
 | n,.loop keep c,s=>(aHy keep s).bind fun s0=>go keep (fun s=>evC F n c s) n s0
 | _,.exit keep id,s=>(aHy keep s).bind (exK (.ex id))
 | _,.ret keep,s=>(aHy keep s).bind (exK .ret)
where
 go (keep:List Nat) (body:St->Option (Ex×St)):Nat->St->Option (Ex×St)
  | 0,_=>none
  | n+1,s=>(body s).bind (aKq fun s=>(aHy keep s).bind (go keep body n))
inductive Rs where
 | t (n:Nat)
 | c (addr:Nat) (n:Option Nat)
structure Ver where
 fid:FuncId
 np:Nat
 code:C
 res:List Rs
 own:Bool
def aXZ {β:Type}(own:Bool)(k:D->M β):D->M β
 | .agg xs=>if own then k (.agg xs)else aRE true 300 xs fun vs=>k (.agg (vs.map .p))
 | d=>if own then k d else toV true 300 d fun v=>k (.p v)
def aXt {β:Type}(own:Bool):List Rs->(List D->M β)->M β
 | [],k=>k []
 | .t n :: r,k=>.rd n (aXZ own fun d'=>aXt own r fun ds=>k (d' :: ds))
 | .c a n :: r,k=>.rd a (ldO n (aXZ own fun d'=>aXt own r fun ds=>k (d' :: ds)))
def aI1:Nat->List D->Env
 | _,[]=>[]
 | i,d :: r=>if (D.refs d).isEmpty then aI1 (i+1) r else (100000+i,d) :: aI1 (i+1) r
def params:Nat->List D->Env->Env
 | _,[],e=>e
 | i,d :: r,e=>(i,d) :: params (i+1) r e
def bO3 (n:Nat)(c:List D×aAR):Option (List Nat×List D×aAR):=some (D.refsL (c.1.take n),c.1.drop n,c.2)
def bFm (y:List D×St):Option (List Nat×List D×aAR):=(canon ((aCD y.2.env).map (·.2)++y.1) y.2.heap).bind (bO3 (aCD y.2.env).length)
def aZT (F:Cf)(ver:Ver):Ex×St->Option (List Nat×List D×aAR)
 | (.ex _,_)=>none
 | (.nrm,s)=>((aXt ver.own ver.res .ret).run F s).bind bFm
 | (.ret,s)=>((aXt ver.own ver.res .ret).run F s).bind bFm
structure Tab where
 ver:Nat->Option Ver
 ext:Cf
def aXv (F:Cf)(n:Nat)(ver:Ver)(args:List D)(h:aAR):Option (List Nat×List D×aAR):=
 if args.length=ver.np then (evC F n ver.code { env:=params 0 args (aI1 0 (args++aFi args h)),heap:=h }).bind (aZT F ver)else none
def evF (T:Tab):Nat->Cf
 | 0,_,_,_=>none
 | n+1,v,args,h=>match T.ver v with
  | some ver=>aXv (evF T n) n ver args h
  | none=>T.ext v args h
end Am
end Go.Proofs.YtkmbhgggpfbffaaGreatDoor
