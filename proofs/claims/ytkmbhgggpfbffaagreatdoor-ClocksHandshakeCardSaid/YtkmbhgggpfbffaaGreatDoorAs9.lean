/- Functions that the model stands in for: sums with a carry, the place of a byte. -/
import Derived.Test.YtkmbhgggpfbffaaGreatDoorAs8
import Derived.Laws.Externs
import Derived.Lib.Bytealg
set_option linter.unusedVariables false
set_option linter.unusedSimpArgs false
set_option linter.constructorNameAsVariable false
namespace Go.Proofs.YtkmbhgggpfbffaaGreatDoor
namespace Am
open Go.RowKit (Below)
section
variable {P:Program} {fo:Fo} {φ:Lay} {Im:Nat->Prop} {w:World} {h:aAR}
theorem aOY {us rs:List V}{args:List Value}{x:Value}(hs:HS fo φ Im w [])(hrep:RepDs fo φ Im w (us.map .p) args)(hu:RepD fo φ Im w (aId (rs.map .p)) x):aC2 fo φ Im w [] (us.map .p) args [] (rs.map .p) [] x w:=by
 have hren:∀ g,D.renL g (us.map .p)=us.map .p:=by
  intro g;clear hrep
  induction us with
  | nil=>rfl
  | cons a r ih=>simp only[List.map_cons,D.renL,D.ren,ih]
 have hrf:D.refsL (us.map D.p)=[]:=by
  clear hrep hren
  induction us with
  | nil=>rfl
  | cons a r ih=>simp only[List.map_cons,D.refsL,D.refs,List.nil_append,ih]
 refine⟨φ,Im,id,⟨hs,fun g hg=>hg,fun g _ _=>rfl,fun g hg=>.inl ?_,fun g hg=>.inl hg,Nat.le_refl _,rfl,rfl,rfl⟩,hu,?_,?_,?_,fun k hk=>by rw[hrf]at hk;cases hk⟩
 ·rcases hg with⟨k,o,l,h1,_⟩;cases h1
 ·rw[hrf];rfl
 ·rw[hren];exact hrep
 ·intro x hx;cases hx
theorem aMs {f:FuncId}{args:Array Value}{Q:Value->World->Prop}{v:Value}(hc:(callFunc f args).run P w=.ok (.value v) w)(hq:Q v w):Lands P (callFunc f args) w Q:=by
 unfold Lands;rw[hc];exact hq
theorem aVE {u u' u2:V}{args:List Value}(hrep:RepDs fo φ Im w [.p u,.p u',.p u2] args):∃ x x' x2,args=[x,x',x2]∧RepV fo Im w u x∧RepV fo Im w u' x'∧RepV fo Im w u2 x2:=by
 obtain⟨hl,hr⟩:=hrep
 match args,hl with
 | [x,x',x2],_=>exact⟨x,x',x2,rfl,(hr 0 (by simp) (by simp)).p_inv,(hr 1 (by simp) (by simp)).p_inv,(hr 2 (by simp) (by simp)).p_inv⟩
def bEW (x y c:Int):Int:=(x+y+c)%18446744073709551616
def bEN (x y c:Int):Int:=(x+y+c)/18446744073709551616
def bPt (x y c:Int):Bool:=decide (0<=x∧0<=y∧0<=c∧c<=1)
def bJA:List D->aAR->Option (List Nat×List D×aAR)
 | [.p (.i .u64 x),.p (.i .u64 y),.p (.i .u64 c)],[]=>if bPt x y c=true then some ([],[.p (.i .u64 (bEW x y c)),.p (.i .u64 (bEN x y c))],[])else none
 | _,_=>none
theorem bHq {ds:List D}{h:aAR}{r:List Nat×List D×aAR}(he:bJA ds h=some r):aFi ds h=[]:=by
 unfold bJA at he
 split at he
 ·rfl
 ·cases he
def bSF {R:Type}:En R:=fun ds h k=>match ds,h with
 | [.p (.i .u64 x),.p (.i .u64 y),.p (.i .u64 c)],[]=>bif bPt x y c then k [] [.p (.i .u64 (bEW x y c)),.p (.i .u64 (bEN x y c))] []else none
 | _,_=>none
theorem bO0 {R:Type}{T:Tab}{v:Nat}(hv:T.ver v=none)(hx:T.ext v=bJA):Snd T v (bSF:En R):=by
 intro ds h k r hk
 unfold bSF at hk
 split at hk
 ·rename_i x y c
  cases hb:bPt x y c with
  | false=>rw[hb]at hk;cases hk
  | true=>
   rw[hb]at hk
   refine⟨_,_,_,?_,hk⟩
   rw[aFH hv,hx]
   show (if _ then _ else _)=_
   rw[if_pos hb];rfl
 ·cases hk
theorem bRj {f:Nat}{fn:Func}(hname:(fn.name == "runtime.NumGoroutine")=false) (hfn:P.funcs[f]? = some fn) (hbody:fn.body.isNone=true) (hn:Extern.findNext fn=none) (he0:Extern.find fn=some add64Entry)
  {ds:List D} {r1:List Nat} {r2:List D} {r3:aAR} {args:List Value} (he:bJA ds h=some (r1,r2,r3)) (hs:HS fo φ Im w h) (hrep:RepDs fo φ Im w ds args) :
  Lands P (callFunc f args.toArray) w (aC2 fo φ Im w h ds args r1 r2 r3):=by
 unfold bJA at he
 split at he
 ·rename_i x y c
  split at he
  ·rename_i hb
   have hb:=of_decide_eq_true hb
   injection he with he
   injection he with e1 he
   injection he with e2 e3
   subst e1 e2 e3
   obtain⟨v1,v2,v3,rfl,h1,h2,h3⟩:=aVE hrep
   cases h1;cases h2;cases h3
   have hc:=run_callFunc_extern hfn hname hbody hn he0 (List.toArray [Value.int .u64 x,.int .u64 y,.int .u64 c]) w
   rw[show (List.toArray [Value.int .u64 x,.int .u64 y,.int .u64 c])=#[.int .u64 x,.int .u64 y,.int .u64 c]from rfl,run_add64 x y c hb.1 hb.2.1 hb.2.2.1 hb.2.2.2 w]at hc
   refine aMs hc (aOY (us:=[.i .u64 x,.i .u64 y,.i .u64 c]) (rs:=[.i .u64 (bEW x y c),.i .u64 (bEN x y c)]) hs hrep (.tup [_,_] [_,_] rfl fun i hi hi'=>?_))
   match i,hi with
   | 0,_=>exact .p _ _ (.i _ _)
   | 1,_=>exact .p _ _ (.i _ _)
  ·cases he
 ·cases he
def bPW (s:ByteArray)(c:Int):Int:=Lib.indexByte s.data.toList c.toNat.toUInt8
def bI8:List D->aAR->Option (List Nat×List D×aAR)
 | [.p (.s s),.p (.i .u8 c)],[]=>some ([],[.p (.i .i64 (bPW s c))],[])
 | _,_=>none
theorem bJh {ds:List D}{h:aAR}{r:List Nat×List D×aAR}(he:bI8 ds h=some r):aFi ds h=[]:=by
 unfold bI8 at he
 split at he
 ·rfl
 ·cases he
def bRq {R:Type}:En R:=fun ds h k=>match ds,h with
 | [.p (.s s),.p (.i .u8 c)],[]=>k [] [.p (.i .i64 (bPW s c))] []
 | _,_=>none
theorem bOH {R:Type}{T:Tab}{v:Nat}(hv:T.ver v=none)(hx:T.ext v=bI8):Snd T v (bRq:En R):=by
 intro ds h k r hk
 unfold bRq at hk
 split at hk
 ·rename_i s c
  refine⟨_,_,_,?_,hk⟩
  rw[aFH hv,hx];rfl
 ·cases hk
theorem bQ6 {f:Nat}{fn:Func}(hname:(fn.name == "runtime.NumGoroutine")=false) (hfn:P.funcs[f]? = some fn) (hbody:fn.body.isNone=true) (hn:Extern.findNext fn=none) (he0:Extern.find fn=some Extern.BytealgIndexByte.indexByte)
  {ds:List D} {r1:List Nat} {r2:List D} {r3:aAR} {args:List Value} (he:bI8 ds h=some (r1,r2,r3)) (hs:HS fo φ Im w h) (hrep:RepDs fo φ Im w ds args) :
  Lands P (callFunc f args.toArray) w (aC2 fo φ Im w h ds args r1 r2 r3):=by
 unfold bI8 at he
 split at he
 ·rename_i s c
  injection he with he
  injection he with e1 he
  injection he with e2 e3
  subst e1 e2 e3
  obtain⟨v1,v2,rfl,h1,h2⟩:=aNp hrep
  cases h1;cases h2
  have hc:=run_callFunc_extern hfn hname hbody hn he0 (List.toArray [Value.string s,.int .u8 c]) w
  rw[show (List.toArray [Value.string s,.int .u8 c])=#[.string s,.int .u8 c]from rfl,Lib.run_indexByteString s c w]at hc
  exact aMs hc (aOY (us:=[.s s,.i .u8 c]) (rs:=[.i .i64 (bPW s c)]) hs hrep (.p _ _ (.i _ _)))
 ·cases he
end
end Am
end Go.Proofs.YtkmbhgggpfbffaaGreatDoor
