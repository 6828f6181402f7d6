/- From the program's code to the compact code. Definitions alone. -/
import Derived.Test.YtkmbhgggpfbffaaGreatDoorAm1
set_option linter.unusedVariables false
set_option linter.unusedSimpArgs false
set_option linter.constructorNameAsVariable false
namespace Go.Proofs.YtkmbhgggpfbffaaGreatDoor
namespace Am
def aK4 (P:Program)(t:TypeId):Bool:=
 match P.underlying t with
 | some (.struct _) | some (.array _ _)=>true
 | _=>false
def aQm (P:Program):Nat->TypeId->Option (List V)
 | 0,_=>none
 | n+1,t=>
  match P.underlying t with
  | some .bool=>some [.b false]
  | some (.int k)=>some [.i k 0]
  | some .string=>some [.s .empty]
  | some (.pointer _)=>some [.nl 0]
  | some (.func _ _ _)=>some [.nl 1]
  | some (.map _ _)=>some [.nl 2]
  | some (.interface _)=>some [.nl 3]
  | some (.slice e)=>some [.sl (P.cellsOf e) []]
  | some (.struct fs)=>(fs.toList.mapM fun f=>aQm P n f.type).map List.flatten
  | some (.array len e)=>(aQm P n e).map fun z=>(List.replicate len z).flatten
  | _=>none
def aL5:V->Value->Bool
 | .b x,.bool y=>x == y
 | .i k n,.int k' m=>k == k'&&n == m
 | .s x,.string y=>decide (x=y)
 | .nl 0,.pointer none=>true
 | .nl 1,.nilFunc=>true
 | .nl 2,.map none=>true
 | .nl 3,.nilIface=>true
 | .sl _ [],.slice none 0 0=>true
 | _,_=>false
def aHn:List V->List Value->Bool
 | [],[]=>true
 | v :: vs,x :: xs=>aL5 v x&&aHn vs xs
 | _,_=>false
def aHL (P:Program)(t:TypeId):Option (List V):=
 (aQm P 20 t).bind fun z=>match ((P.info? t).bind (·.zero))with
   | some v=>if aHn z v.cells.toList&&z.length == P.cellsOf t then some z else none
   | none=>none
def aIW (P:Program)(t:TypeId):Option (Option Nat):=
 (P.info? t).bind fun i=>match P.underlying t with
   | some (.struct _)=>some (some i.size)
   | some (.array _ _)=>some (some i.size)
   | some _=>if i.size=1 then some none else none
   | none=>none
def aWm:Value->Option V
 | .bool b=>some (.b b)
 | .int k n=>some (.i k n)
 | .string s=>some (.s s)
 | .pointer none=>some (.nl 0)
 | .nilFunc=>some (.nl 1)
 | .map none=>some (.nl 2)
 | .nilIface=>some (.nl 3)
 | _=>none
def cOd (P:Program)(vm:FuncId->Nat)(ty:Option TypeId)(key:Nat):Operand->Option Od
 | .tmp t=>if t<100000 then some (.t t)else none
 | .const (.slice none 0 0)=>match ty with
  | none=>some (.c (.nl 4))
  | some t=>(match P.underlying t with
   | some (.slice e)=>some (.z (P.cellsOf e) key)
   | _=>none)
 | .const v=>(aWm v).map .c
 | .func f=>some (.f (vm f))
 | .global _=>none
def aPh (P:Program)(vm:FuncId->Nat)(key:Nat):Option Operand->Option (Option Od)
 | none=>some none
 | some x=>(cOd P vm none key x).map some
def aRV (P:Program)(vm:FuncId->Nat):List (Operand×Option TypeId)->Nat->Option (List Od)
 | [],_=>some []
 | (x,ty) :: r,key=>(cOd P vm ty key x).bind fun a=>(aRV P vm r (key+1)).map fun as=>a :: as
def aF2 (P:Program)(t:TypeId):Option Nat:=
 match P.underlying t with
 | some (.int _)=>some 0
 | some .bool=>some 1
 | some .string=>some 2
 | _=>none
def aLF (sub:TypeId->Option (List Nat)):List Field->Nat->Option (List Nat)
 | [],_=>some []
 | f :: fs,i=>if f.offset=i∧f.name ≠ "_" then (sub f.type).bind fun a=>(aLF sub fs (i+a.length)).map fun b=>a++b else none
def aMN (P:Program):Nat->TypeId->Option (List Nat)
 | 0,t=>(aF2 P t).map fun k=>[k]
 | n+1,t=>match aF2 P t with
  | some k=>some [k]
  | none=>match P.underlying t with
   | some (.struct fs)=>if P.stoodInHeld t=false∧(P.info? t).isSome=true then (aLF (aMN P n) fs.toList 0).bind fun a=>if a.length=P.cellsOf t then some a else none else none
   | _=>none
def aJT (P:Program)(t:TypeId):Option (List Nat):=
 match P.underlying t with
 | some (.struct fs)=>if P.stoodInHeld t=false∧P.eqGuardType P.depth t=false then aLF (aMN P 5) fs.toList 0 else none
 | _=>none
def bPd (P:Program)(t:TypeId)(y:Operand):Option Nat:=
 match P.underlying t,y with
 | some (.pointer _),.const (.pointer none)=>some 0
 | some (.func _ _ _),.const .nilFunc=>some 1
 | some (.map _ _),.const (.map none)=>some 2
 | some (.interface _),.const .nilIface=>some 3
 | some (.slice _),.const (.slice none 0 0)=>some 4
 | _,_=>none
def bRM (P:Program)(vm:FuncId->Nat)(key:Nat)(op:BinOp)(t:TypeId)(x y:Operand):Option O:=
 match P.underlying t with
 | some (.int _) | some .string=>(cOd P vm none key x).bind fun a=>(cOd P vm none key y).map fun b=>.bi op a b
 | some .bool=>match op with
  | .eql=>(cOd P vm none key x).bind fun a=>(cOd P vm none key y).map fun b=>.bb false a b
  | .neq=>(cOd P vm none key x).bind fun a=>(cOd P vm none key y).map fun b=>.bb true a b
  | _=>none
 | _=>match aJT P t with
  | some ks=>(match op with
   | .eql=>(cOd P vm none key x).bind fun a=>(cOd P vm none key y).map fun b=>.ba false ks a b
   | .neq=>(cOd P vm none key x).bind fun a=>(cOd P vm none key y).map fun b=>.ba true ks a b
   | _=>none)
  | none=>(bPd P t y).bind fun kind=>
   (match op with
   | .eql=>(cOd P vm none key x).map fun a=>.bn false kind a
   | .neq=>(cOd P vm none key x).map fun a=>.bn true kind a
   | _=>none)
def aI2 (P:Program)(vm:FuncId->Nat)(place:Nat->Option (Nat×Nat×TypeId)):List (Nat×Operand)->Nat->Option (List (Nat×Nat×Od))
 | [],_=>some []
 | (i,x) :: r,key=>(place i).bind fun (off,size,ty)=>(cOd P vm (some ty) key x).bind fun a=>(aI2 P vm place r (key+1)).map fun as=>(off,size,a) :: as
def okM (ms:List Nat)(n:Nat):Bool:=((List.range n).all fun i=>ms.getD i 0 != 1)||(List.range n).all fun i=>ms.getD i 0 == 1||ms.getD i 0 == 2
def aP0 (args:Array Operand)(tys:Array TypeId):List (Operand×Option TypeId):=args.toList.zipIdx.map fun x=>(x.1,tys[x.2]?)
def aUb (ms:List Nat)(l:List (Operand×Option TypeId)):List (Operand×Option TypeId):=l.zipIdx.map fun x=>(x.1.1,if ms.getD x.2 0=3 then none else x.1.2)
def aPu (P:Program)(t:TypeId):Operand->Option Od
 | .const (.slice none 0 0)=>match P.underlying t with
  | some (.slice e)=>some (.c (.sl (P.cellsOf e) []))
  | _=>none
 | _=>none
structure Hint where
 call:Nat->Option (Nat×List Nat)
 jn:List Nat:=[]
def aRY (P:Program)(t:TypeId):Option (Nat×V):=
 match P.underlying t with
 | some (.map k e)=>(aF2 P k).bind fun kd=>match aQm P 20 e,(P.info? e).bind (·.zero)with
  | some [z],some zv=>if aL5 z zv=true then some (kd,z)else none
  | _,_=>none
 | _=>none
def bLW (P:Program)(e:TypeId):Bool:=
 match P.underlying e with
 | some (.int .u8)=>true
 | _=>false
def bM0:Operand->Bool
 | .tmp _=>true
 | _=>false
def aVe (P:Program)(vm:FuncId->Nat)(t:TypeId)(x:Operand):Option O:=
 match P.underlying t with
 | some (.slice e)=>if P.cellsOf e=0∨bM0 x=false then none else (cOd P vm none 0 x).map fun x=>.sl x (P.cellsOf e) none none none
 | _=>none
def cOp (P:Program)(vm:FuncId->Nat)(vmode:Nat->List Nat)(fo:Nat->Option FuncId)(hint:Option (Nat×List Nat))(nm:Nat)(o:Oper):Option O:=
 match o.op with
 | .move x | .assign x=>if hint.isSome then (match aVe P vm o.type x with | some p=>some p | none=>(aPu P o.type x).map .mv)else (cOd P vm (some o.type) nm x).map .mv
 | .pick c a b=>(cOd P vm none nm c).bind fun c=>(cOd P vm (some o.type) nm a).bind fun a=>(cOd P vm (some o.type) (nm+1) b).map fun b=>.pk c a b
 | .binOp op t x y _=>bRM P vm nm op t x y
 | .unOp op _ x=>(cOd P vm none nm x).map fun x=>.un op x
 | .load t a=>(aIW P t).bind fun n=>(cOd P vm none nm a).map fun a=>.ld n a
 | .store t a v=>if o.dst.isSome then none else (aIW P t).bind fun n=>(cOd P vm none nm a).bind fun a=>(cOd P vm (some t) nm v).map fun v=>.st n a v
 | .fieldAddr t x f=>match P.underlying t with
  | some (.struct fs)=>(fs[f]?).bind fun fl=>if P.cellsOf fl.type=0 then none else (cOd P vm none nm x).map fun x=>.fa fl.offset x
  | _=>none
 | .field t x f=>match P.underlying t with
  | some (.struct fs)=>(fs[f]?).bind fun fl=>(aIW P fl.type).bind fun n=>(cOd P vm none nm x).map fun x=>.fd fl.offset n x
  | _=>none
 | .indexAddr t x i=>match P.underlying t with
  | some (.slice e)=>if P.cellsOf e=0 then none else (cOd P vm none nm x).bind fun x=>(cOd P vm none nm i).map fun i=>.ix (P.cellsOf e) x i
  | some (.array len e)=>if P.cellsOf e=0 then none else (cOd P vm none nm x).bind fun x=>(cOd P vm none nm i).map fun i=>.xa len (P.cellsOf e) x i
  | _=>none
 | .index t x i=>match P.underlying t with
  | some (.array len e)=>(aIW P e).bind fun n=>(cOd P vm none nm x).bind fun x=>(cOd P vm none nm i).map fun i=>.xv len (P.cellsOf e) n x i
  | some .string=>(cOd P vm none nm x).bind fun x=>(cOd P vm none nm i).map fun i=>.xs x i
  | _=>none
 | .box _ x=>(cOd P vm none nm x).map .bx
 | .alloc t=>(aHL P t).map .al
 | .build t ps=>match P.underlying t with
  | some (.struct fs)=>(aHL P t).bind fun z=>(fs.toList.mapM fun f=>(P.info? f.type).map fun i=>(f.offset,i.size)).bind fun places=>
   (aI2 P vm (fun i=>(places.toArray[i]?).bind fun x=>(fs[i]?).map fun f=>(x.1,x.2,f.type)) ps.toList (nm+500)).map fun ps=>.bl z ps
  | some (.array _ e)=>(aHL P t).bind fun z=>(P.info? e).bind fun ie=>(aI2 P vm (fun i=>some (i*ie.size,ie.size,e)) ps.toList (nm+500)).map fun ps=>.bl z ps
  | _=>none
 | .buildSlice t len ps=>match P.underlying t with
  | some (.slice e)=>if P.cellsOf e=0||len*P.cellsOf e>2^24 then none else (aHL P e).bind fun z=>(aI2 P vm (fun i=>some (i*P.cellsOf e,P.cellsOf e,e)) ps.toList (nm+500)).map fun ps=>.bs (P.cellsOf e) len z ps
  | _=>none
 | .makeSlice t l c=>match P.underlying t with
  | some (.slice e)=>if P.cellsOf e=0||P.bytesOf e=0 then none else (aHL P e).bind fun z=>(cOd P vm none nm l).bind fun l=>(cOd P vm none nm c).map fun c=>.ms (P.cellsOf e) (P.bytesOf e) z l c
  | _=>none
 | .slice t x lo hi mx=>if mx.isSome&&hi.isNone then none else match P.underlying t with
  | some (.slice e)=>if P.cellsOf e=0 then none else (cOd P vm none nm x).bind fun x=>(aPh P vm nm lo).bind fun lo=>(aPh P vm nm hi).bind fun hi=>(aPh P vm nm mx).map fun mx=>if hint.isSome then .sk x (P.cellsOf e) lo hi mx else .sl x (P.cellsOf e) lo hi mx
  | some .string=>(cOd P vm none nm x).bind fun x=>(aPh P vm nm lo).bind fun lo=>(aPh P vm nm hi).bind fun hi=>(aPh P vm nm mx).map fun mx=>.sl x 0 lo hi mx
  | _=>none
 | .nilCheck x=>(cOd P vm none nm x).map .nc
 | .extract x i=>(cOd P vm none nm x).map fun x=>.ex x i
 | .convert src dst x=>match P.underlying src,P.underlying dst with
  | some (.int _),some (.int k)=>(cOd P vm none nm x).map fun x=>.ci k x
  | some .string,some (.slice e)=>if bLW P e=true then (cOd P vm none nm x).map .s2b else none
  | some (.slice e),some .string=>if bLW P e=true∧P.cellsOf e=1 then (cOd P vm none nm x).map .b2s else none
  | _,_=>none
 | .makeMap t none=>(aRY P t).map fun _=>.mk
 | .lookup t x i ok=>(aRY P t).bind fun kz=>(cOd P vm none nm x).bind fun x=>(cOd P vm none nm i).map fun i=>.mq kz.1 kz.2 ok x i
 | .mapUpdate t x i v=>if o.dst.isSome then none else (match P.underlying t with | some (.map _ e)=>some e | _=>none).bind fun e=>(aRY P t).bind fun kz=>(cOd P vm none nm x).bind fun x=>(cOd P vm none nm i).bind fun i=>(cOd P vm (some e) nm v).map fun v=>.mu kz.1 x i v
 | .mapEntry t x i=>(aRY P t).bind fun kz=>(cOd P vm none nm x).bind fun x=>(cOd P vm none nm i).map fun i=>.me kz.1 kz.2 x i
 | .entryStore t x s v=>if o.dst.isSome then none else (match P.underlying t with | some (.map _ e)=>some e | _=>none).bind fun e=>(aRY P t).bind fun _=>(cOd P vm none nm x).bind fun x=>(cOd P vm none nm s).bind fun s=>(cOd P vm (some e) nm v).map fun v=>.mt x s v
 | .call { callee:=.builtin .delete,args,argTypes }=>match args.toList,argTypes.toList with
  | [x,i],t :: _=>(aRY P t).bind fun kz=>(cOd P vm none nm x).bind fun x=>(cOd P vm none nm i).map fun i=>.md kz.1 x i
  | _,_=>none
 | .makeFunc (.func f) first caps=>if first.size=0 then (aRV P vm (caps.toList.map fun x=>(x,none)) nm).map fun xs=>.mf (vm f) xs else none
 | .call { callee:=.builtin .len,args,argTypes }=>match args.toList,argTypes.toList with
  | [x],[t]=>(match P.underlying t with
   | some (.slice _)=>(cOd P vm none nm x).map (.ln 0)
   | some .string=>(cOd P vm none nm x).map (.ln 1)
   | some (.map _ _)=>(cOd P vm none nm x).map (.ln 2)
   | _=>none)
  | _,_=>none
 | .call { callee:=.builtin .append,args,argTypes }=>match args.toList,argTypes.toList with
  | [x,y],[t,t']=>(match P.underlying t,P.underlying t' with
   | some (.slice e),some (.slice _)=>if P.cellsOf e=0||P.bytesOf e=0||(aHL P e).isNone then none else (cOd P vm (some t) (nm+1) x).bind fun x=>(cOd P vm (some t') (nm+2) y).map fun y=>if hint.isSome then .apa (P.cellsOf e) (P.bytesOf e) x y else .ap (P.cellsOf e) (P.bytesOf e) x y
   | _,_=>none)
  | _,_=>none
 | .call { callee:=.builtin .max,args,.. }=>(aRV P vm (args.toList.map fun x=>(x,none)) nm).map fun xs=>.mm true xs
 | .call { callee:=.builtin .min,args,.. }=>(aRV P vm (args.toList.map fun x=>(x,none)) nm).map fun xs=>.mm false xs
 | .call { callee:=.value (.func f),args,argTypes }=>
  let v:=(hint.map (·.1)).getD (vm f)
  if fo v=some f∧okM ((hint.map (·.2)).getD (vmode v)) args.toList.length=true then (aRV P vm (aUb ((hint.map (·.2)).getD (vmode v)) (aP0 args argTypes)) (nm+500)).map fun xs=>.ca v ((hint.map (·.2)).getD (vmode v)) xs else none
 | .call { callee:=.value (.tmp x),args,argTypes }=>
  if x<100000∧okM ((hint.map (·.2)).getD []) args.toList.length=true then (aRV P vm (aP0 args argTypes) (nm+500)).map fun xs=>.cx (.t x) ((hint.map (·.2)).getD []) xs else none
 | _=>none
def bLN:O:=.ex (.c (.b false)) 0
def bOy:C:=.reg [{ dst:=none,op:=bLN,nm:=0 }]
def bJe (P:Program)(vm:FuncId->Nat)(vmode:Nat->List Nat)(fo:Nat->Option FuncId)(hint:Option (Nat×List Nat))(nm:Nat)(o:Oper):Option O:=
 match cOp P vm vmode fo hint nm o with
 | some op=>some op
 | none=>some bLN
def bCZ (done:List (List Nat))(after:List Edge):List Nat:=
 (after.filter (Region.binds .any)).flatMap fun e=>e.on :: (done.reverse)[e.on]?.getD []
def bFF (P:Program)(vm:FuncId->Nat)(vmode:Nat->List Nat)(fo:Nat->Option FuncId)(h:Hint)(nt:Nat)(draw:Bool)(all:Array Oper):List Oper->Nat->List (List Nat)->Option (List AO)
 | [],_,_=>some []
 | o :: r,n,done=>
  let pre:=if draw then (bCZ done o.after.toList).eraseDups else []
  if o.dst.all (fun d=>decide (d<nt))=false then none else (bJe P vm vmode fo (h.call n) (1000*n+1000) o).bind fun op=>
   (match o.guard with
   | none=>some none
   | some (j,want)=>((all[j]?).bind (·.dst)).bind fun d=>if d<100000 then some (some (d,want))else none).bind fun g=>
     (bFF P vm vmode fo h nt draw all r (n+1) (pre :: done)).map fun as=>{ dst:=o.dst,op,nm:=1000*n+1000,g,pre } :: as
def aLh:List Oper->Nat->Bool
 | [],_=>true
 | o :: r,i=>(o.after.toList.all fun e=>!Region.binds .any e||decide (e.on<i))&&aLh r (i+1)
def O.rds:O->List Nat
 | .mk=>[]
 | .mv x | .s2b x | .b2s x | .un _ x | .bn _ _ x | .ld _ x | .fa _ x | .fd _ _ x | .ln _ x | .bx x | .nc x | .ex x _ | .ci _ x=>od x
 | .pk c a b=>od c++od a++od b
 | .bi _ x y | .bb _ x y | .ba _ _ x y | .st _ x y | .ix _ x y | .xa _ _ x y | .xv _ _ _ x y | .xs x y | .ap _ _ x y | .apa _ _ x y | .ms _ _ _ x y=>od x++od y
 | .bl _ ps | .bs _ _ _ ps=>ps.flatMap fun p=>od p.2.2
 | .al _=>[]
 | .sl x _ lo hi mx | .sk x _ lo hi mx=>od x++(lo.map od).getD []++(hi.map od).getD []++(mx.map od).getD []
 | .ca _ _ l | .mf _ l | .mm _ l=>l.flatMap od
 | .cx x _ l=>od x++l.flatMap od
 | .mq _ _ _ x i | .me _ _ x i | .md _ x i=>od x++od i
 | .mu _ x i v | .mt x i v=>od x++od i++od v
where
 od:Od->List Nat
  | .t n=>[n]
  | _=>[]
def AO.rds (o:AO):List Nat:=O.rds o.op++(match o.g with | some (g,_)=>[g] | none=>[])
def aHA (a b:AO):Bool:=
 (match a.dst with | some d=>!(b.rds.contains d)&&b.dst != some d | none=>true)&&(match b.dst with | some d=>!(a.rds.contains d) | none=>true)
def aLk:List AO->Nat->List AO->Bool
 | [],_,_=>true
 | o :: r,i,done=>((done.reverse.zipIdx).all fun (a,j)=>o.pre.contains j||aHA a o)&&aLk r (i+1) (o :: done)
def bits (l:List Nat):Nat:=l.foldl (fun s t=>s ||| 2^t) 0
def clr (s t:Nat):Nat:=if s.testBit t then s-2^t else s
def aPx:List AO->Nat->Nat
 | [],l=>l
 | o :: r,l=>
  let l':=aPx r l
  let l':=match o.dst with | some d=>clr l' d | none=>l'
  l' ||| bits (O.rds o.op) ||| (match o.g with | some (g,_)=>2^g | none=>0)
def aYQ:C->Nat->(Nat->Nat)->Nat->Nat
 | .skip,l,_,_=>l
 | .reg ops,l,_,_=>aPx ops l
 | .drw ops,l,_,_=>aPx ops l
 | .seq a b,l,x,r=>aYQ a (aYQ b l x r) x r
 | .cond c a b,l,x,r=>bits (O.rds.od c) ||| aYQ a l x r ||| aYQ b l x r
 | .block id c,l,x,r=>aYQ c l (fun i=>if i=id then l else x i) r
 | .loop _ c,l,x,r=>aYQ c 0 x r
 | .exit _ id,_,x,_=>x id
 | .ret _,_,_,r=>r
def aH6 (n:Nat)(m:Nat):List Nat:=(List.range n).filter fun t=>m.testBit t
def aQr (id:Nat):C->Bool
 | .seq a b=>aQr id a&&aQr id b
 | .cond _ a b=>aQr id a&&aQr id b
 | .block _ c=>aQr id c
 | .loop _ c=>aQr id c
 | .exit _ i=>i != id
 | _=>true
def bFK (nt:Nat)(j:Bool)(p:Nat)(lb l:Nat)(b:C):C:=
 if j&&aQr (1000000+p) b then .block (1000000+p) (.loop (aH6 nt lb) (.seq b (.exit (aH6 nt l) (1000000+p))))else b
def keeps (nt:Nat)(J:List Nat):C->Nat->Nat->(Nat->Nat)->Nat->C
 | .seq a b,p,l,x,r=>.seq (keeps nt J a (2*p) (aYQ b l x r) x r) (bFK nt (J.contains p) p (aYQ b l x r) l (keeps nt J b (2*p+1) l x r))
 | .cond c a b,p,l,x,r=>.cond c (keeps nt J a (2*p) l x r) (keeps nt J b (2*p+1) l x r)
 | .block id c,p,l,x,r=>.block id (keeps nt J c (2*p) l (fun i=>if i=id then l else x i) r)
 | .loop _ c,p,l,x,r=>
  let h:=aYQ c 0 x r
  .loop (aH6 nt h) (keeps nt J c (2*p) h x r)
 | .exit _ id,_,_,x,_=>.exit (aH6 nt (x id)) id
 | .ret _,_,_,_,r=>.ret (aH6 nt r)
 | c,_,_,_,_=>c
def aOI (P:Program)(vm:FuncId->Nat)(vmode:Nat->List Nat)(fo:Nat->Option FuncId)(h:Hint)(nt:Nat):Code->Nat->Option (C×Nat)
 | .skip,n=>some (.skip,n)
 | .region _ ops draw,n=>(bFF P vm vmode fo h nt draw ops ops.toList n []).bind fun l=>if draw then (if aLk l 0 []&&aLh ops.toList 0 then some (.drw l,n+ops.size)else none)else some (.reg l,n+ops.size)
 | .seq a b,n=>(aOI P vm vmode fo h nt a n).bind fun x=>(aOI P vm vmode fo h nt b x.2).map fun y=>(.seq x.1 y.1,y.2)
 | .cond c a b,n=>(cOd P vm none 0 c).bind fun c=>(aOI P vm vmode fo h nt a n).bind fun x=>(aOI P vm vmode fo h nt b x.2).map fun y=>(.cond c x.1 y.1,y.2)
 | .block id c,n=>(aOI P vm vmode fo h nt c n).map fun x=>(.block id x.1,x.2)
 | .loop c,n=>(aOI P vm vmode fo h nt c n).map fun x=>(.loop [] x.1,x.2)
 | .exit id,n=>some (.exit [] id,n)
 | .ret,n=>some (.ret [],n)
 | _,n=>some (bOy,n)
def bM6 (P:Program):ResultVar->Option Rs
 | .tmp t=>if t<100000 then some (.t t)else none
 | .cell a t=>if a<100000 then (aIW P t).map fun n=>.c a n else none
def aIn:List Rs->Nat
 | []=>0
 | .t n :: r=>2^n ||| aIn r
 | .c a _ :: r=>2^a ||| aIn r
def aXy (P:Program)(vm:FuncId->Nat)(vmode:Nat->List Nat)(fo:Nat->Option FuncId)(h:Hint)(fid:FuncId)(own:Bool):Option Ver:=
 (P.funcs[fid]?).bind fun fn=>fn.body.bind fun body=>
   if (fn.name == "runtime.NumGoroutine")=false∧fn.ntmps<=100000∧fn.params.size+fn.nfree<=100000 then
    (aOI P vm vmode fo h fn.ntmps body 0).bind fun x=>(fn.results.toList.mapM (bM6 P)).map fun res=>
      { fid,np:=fn.params.size+fn.nfree,code:=keeps fn.ntmps h.jn x.1 1 (aIn res) (fun _=>0) (aIn res),res,own }
   else none
end Am
end Go.Proofs.YtkmbhgggpfbffaaGreatDoor
