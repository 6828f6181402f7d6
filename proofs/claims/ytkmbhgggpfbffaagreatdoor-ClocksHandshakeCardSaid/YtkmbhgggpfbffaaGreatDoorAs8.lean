/- Functions of the library with a contract of their own: numbers in, a number or a string out. -/
import Derived.Test.YtkmbhgggpfbffaaGreatDoorAs6
import Derived.Lib.AppendIntMem
import Derived.Lib.LaidTab
import Derived.Shelf.Strconv.Itoa3
import Derived.Shelf.Strings.Repeat
set_option linter.unusedVariables false
set_option linter.unusedSimpArgs false
set_option linter.constructorNameAsVariable false
namespace Go.Proofs.YtkmbhgggpfbffaaGreatDoor
namespace Am
open Go.RowKit (Below)
section
variable {P:Program} {fo:Fo} {φ:Lay} {Im:Nat->Prop} {w:World} {h:aAR}
theorem aL7 {us:List V}{args:List Value}{x:Value}{u:V}{w':World}(hs:HS fo φ Im w [])(hrep:RepDs fo φ Im w (us.map .p) args)(hb:Below w.heap.size w w')(hu:RepV fo Im w' u x):aC2 fo φ Im w [] (us.map .p) args [] [.p u] [] x w':=by
 have hren:∀ g,D.renL g (us.map .p)=us.map .p:=by
  intro g;clear hrep
  induction us with
  | nil=>rfl
  | cons a r ih=>simp only[List.map_cons,D.renL,D.ren,ih]
 have hrf:D.refsL (us.map D.p)=[]:=by
  clear hrep hren
  induction us with
  | nil=>rfl
  | cons a r ih=>simp only[List.map_cons,D.refsL,D.refs,List.nil_append,ih]
 have hget:∀ g,g<w.heap.size->w'.heap[g]? = w.heap[g]? := fun g hg=>hb.block g hg
 refine⟨φ,Im,id,⟨⟨?_,?_,?_,?_,?_,fun g o ho=>aH4 (hs.tb g o ho) id (fun hi=>hget g (hs.imb g hi))⟩,fun g hg=>hg,fun g hg _=>hget g hg,?_,fun g hg=>.inl hg,hb.size,hb.os,hb.tape,hb.output⟩,?_,?_,?_,?_,fun k hk=>by rw[hrf]at hk;cases hk⟩
 ·intro k o hk;cases hk
 ·intro k k' o o' l l' h1;cases h1
 ·rintro g ⟨k,o,l,h1,_⟩;cases h1
 ·intro g hg;have:=hs.imb g hg;have:=hb.size;omega
 ·intro k hk;exact hs.dom k hk
 ·rintro g ⟨k,o,l,h1,_⟩;cases h1
 ·exact .p _ _ hu
 ·rw[hrf];rfl
 ·rw[hren]
  exact⟨hrep.1,fun i hi hi'=>(hrep.2 i hi hi').mono (fun _ _ h=>h) (fun _ h=>h) (fun g hg=>hget g (hs.imb g hg))⟩
 ·intro x hx;cases hx
theorem aGF {f:FuncId}{fn:Func}{args:Array Value}{Q:Value->World->Prop}(hname:(fn.name == "runtime.NumGoroutine")=false) (hfn:P.funcs[f]? = some fn) (hbody:fn.body.isSome=true) (hc:Calls P f args w fun e w'=>∃ v,e=.returned v∧Q v w') :
  Lands P (callFunc f args) w Q:=by
 obtain⟨body,hb⟩:=Option.isSome_iff_exists.1 hbody
 have h1:fn.name ≠ "runtime.NumGoroutine" := by simpa using hname
 have henter:(callFunc f args).run P w=.ok (.enter f args) w:=by simp[callFunc,hfn,h1,hb]
 unfold Lands
 rw[henter]
 exact hc
theorem bDj {u:V}{args:List Value}(hrep:RepDs fo φ Im w [.p u] args):∃ x,args=[x]∧RepV fo Im w u x:=by
 obtain⟨hl,hr⟩:=hrep
 match args,hl with
 | [x],_=>exact⟨x,rfl,(hr 0 (by simp) (by simp)).p_inv⟩
theorem aNp {u u':V}{args:List Value}(hrep:RepDs fo φ Im w [.p u,.p u'] args):∃ x x',args=[x,x']∧RepV fo Im w u x∧RepV fo Im w u' x':=by
 obtain⟨hl,hr⟩:=hrep
 match args,hl with
 | [x,x'],_=>exact⟨x,x',rfl,(hr 0 (by simp) (by simp)).p_inv,(hr 1 (by simp) (by simp)).p_inv⟩
def aP6 (n:Int):ByteArray:=⟨(Lib.itoa n).toArray⟩
def aRz:List D->aAR->Option (List Nat×List D×aAR)
 | [.p (.i .i64 n)],[]=>if -9223372036854775808<=n∧n<=9223372036854775807 then some ([],[.p (.s (aP6 n))],[])else none
 | _,_=>none
theorem aRR {ds:List D}{h:aAR}{r:List Nat×List D×aAR}(he:aRz ds h=some r):aFi ds h=[]:=by
 unfold aRz at he
 split at he
 ·rfl
 ·cases he
def bCn {R:Type}:En R:=fun ds h k=>match ds,h with
 | [.p (.i .i64 n)],[]=>bif decide (-9223372036854775808<=n∧n<=9223372036854775807)then k [] [.p (.s (aP6 n))] []else none
 | _,_=>none
theorem aYh {R:Type}{T:Tab}{v:Nat}(hv:T.ver v=none)(hx:T.ext v=aRz):Snd T v (bCn:En R):=by
 intro ds h k r hk
 unfold bCn at hk
 split at hk
 ·rename_i n
  cases hb:decide (-9223372036854775808<=n∧n<=9223372036854775807)with
  | false=>rw[hb]at hk;cases hk
  | true=>
   rw[hb]at hk
   refine⟨_,_,_,?_,hk⟩
   rw[aFH hv,hx]
   show (if _ then _ else _)=_
   rw[if_pos (of_decide_eq_true hb)];rfl
 ·cases hk
def aIk:Array Value:=(Lib.pow10Tab.map fun z=>Value.int .u64 z).toArray
theorem bDL {f G:Nat}{fn:Func}(hname:(fn.name == "runtime.NumGoroutine")=false) (hfn:P.funcs[f]? = some fn) (hbody:fn.body.isSome=true)
  (hC:∀ n w,-9223372036854775808<=n->n<=9223372036854775807->Lib.TabIs P w "internal/strconv.uint64pow10" .u64 Lib.pow10Tab->Calls P f #[.int .i64 n] w fun e w'=>e=.returned (.string ⟨(Lib.itoa n).toArray⟩)∧∃ k os,w'=Sort.grow (w.drewN k) os)
  (hg:P.globalNamed "internal/strconv.uint64pow10" = some G) (ht:fo.tab G=some aIk) {ds:List D} {r1:List Nat} {r2:List D} {r3:aAR} {args:List Value} (he:aRz ds h=some (r1,r2,r3)) (hs:HS fo φ Im w h) (hrep:RepDs fo φ Im w ds args) :
  Lands P (callFunc f args.toArray) w (aC2 fo φ Im w h ds args r1 r2 r3):=by
 unfold aRz at he
 split at he
 ·rename_i n
  split at he
  · rename_i hn
    injection he with he
    injection he with e1 he
    injection he with e2 e3
    subst e1 e2 e3
    obtain⟨x,rfl,hx⟩:=bDj hrep
    cases hx
    obtain⟨_,t,f',htw⟩:=hs.tb G _ ht
    have htab:Lib.TabIs P w "internal/strconv.uint64pow10" .u64 Lib.pow10Tab:=by
     unfold Lib.TabIs World.var?
     rw[hg]
     simp only[Option.bind_some,htw]
     rfl
    refine aGF hname hfn hbody ((hC n w hn.1 hn.2 htab).mono fun e w' ⟨he,k,os,hw⟩=>⟨_,he,?_⟩)
    subst hw
    exact aL7 (us:=[.i .i64 n]) hs hrep (Lib.below_grow _ _ (Nat.le_refl _) k os) (.s _)
  · cases he
 ·cases he
theorem aPP {W:World}{G t e n:Nat}{rest:List (String×DataW Unit)}(hg:P.globalNamed "internal/strconv.uint64pow10" = some G) (hty:(P.globals[G]?).map (·.type)=some t) (ht:P.underlying t=some (.array n e)) (he:P.underlying e=some (.int .u64)) (hce:P.cellsOf e=1) (hct:P.cellsOf t=n)
  (h:laidMet P (("internal/strconv.uint64pow10",Lib.tabData .u64 Lib.pow10Tab) :: rest) W):∃ t f,W.heap[G]? = some (.cells aIk t f):=by
 have:=Lib.tabIs_of_head hg hty ht he hce hct h
 unfold Lib.TabIs World.var? at this
 rw[hg]at this
 simp only[Option.bind_some]at this
 split at this
 ·rename_i cs t' f' hh
  injection this with this
  exact⟨t',f',by rw[hh,this];rfl⟩
 ·cases this
def bRW (s:ByteArray)(c:Nat):ByteArray:=⟨(Lib.repeatL s.data.toList c).toArray⟩
def bDU (s:ByteArray)(c:Int):Bool:=decide (0<=c∧c<=9223372036854775807∧s.size*c.toNat<=140737488355328)
def bHn:List D->aAR->Option (List Nat×List D×aAR)
 | [.p (.s s),.p (.i .i64 c)],[]=>if bDU s c=true then some ([],[.p (.s (bRW s c.toNat))],[])else none
 | _,_=>none
theorem bHD {ds:List D}{h:aAR}{r:List Nat×List D×aAR}(he:bHn ds h=some r):aFi ds h=[]:=by
 unfold bHn at he
 split at he
 ·rfl
 ·cases he
def bQI {R:Type}:En R:=fun ds h k=>match ds,h with
 | [.p (.s s),.p (.i .i64 c)],[]=>bif bDU s c then k [] [.p (.s (bRW s c.toNat))] []else none
 | _,_=>none
theorem bOK {R:Type}{T:Tab}{v:Nat}(hv:T.ver v=none)(hx:T.ext v=bHn):Snd T v (bQI:En R):=by
 intro ds h k r hk
 unfold bQI at hk
 split at hk
 ·rename_i s c
  cases hb:bDU s c with
  | false=>rw[hb]at hk;cases hk
  | true=>
   rw[hb]at hk
   refine⟨_,_,_,?_,hk⟩
   rw[aFH hv,hx]
   show (if _ then _ else _)=_
   rw[if_pos hb];rfl
 ·cases hk
theorem bSo {f:Nat}{fn:Func}(hname:(fn.name == "runtime.NumGoroutine")=false) (hfn:P.funcs[f]? = some fn) (hbody:fn.body.isSome=true)
  (hC:∀ (s:ByteArray) (c:Nat) w,c<=9223372036854775807->s.size*c<=140737488355328->Calls P f #[.string s,.int .i64 c] w fun e w'=>e=.returned (.string ⟨(Lib.repeatL s.data.toList c).toArray⟩)∧Below w.heap.size w w')
  {ds:List D} {r1:List Nat} {r2:List D} {r3:aAR} {args:List Value} (he:bHn ds h=some (r1,r2,r3)) (hs:HS fo φ Im w h) (hrep:RepDs fo φ Im w ds args) :
  Lands P (callFunc f args.toArray) w (aC2 fo φ Im w h ds args r1 r2 r3):=by
 unfold bHn at he
 split at he
 ·rename_i s c
  split at he
  · rename_i hn
    have hn:=of_decide_eq_true hn
    injection he with he
    injection he with e1 he
    injection he with e2 e3
    subst e1 e2 e3
    obtain⟨x,x',rfl,hx,hx'⟩:=aNp hrep
    cases hx
    cases hx'
    obtain⟨m,rfl⟩:∃ m:Nat,c=m:=⟨c.toNat,by omega⟩
    rw[Int.toNat_natCast]at hn
    refine aGF hname hfn hbody ((hC s m w (by omega) hn.2.2).mono fun e w' ⟨he,hb⟩=>⟨_,he,?_⟩)
    exact aL7 (us:=[.s s,.i .i64 m]) hs hrep hb (.s _)
  · cases he
 ·cases he
end
end Am
end Go.Proofs.YtkmbhgggpfbffaaGreatDoor
