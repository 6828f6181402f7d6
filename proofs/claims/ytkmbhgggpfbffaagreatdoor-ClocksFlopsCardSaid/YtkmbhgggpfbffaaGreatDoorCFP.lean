/- The statement ClocksFlops over plain data: the flops are as the reference says, or the errors: a bit comes out as many ticks of the second domain later as there are registers, and the crossing is guarded; it holds for all counts and all lists, without a condition of its own. -/
import Derived.Test.YtkmbhgggpfbffaaGreatDoorCFF
import Derived.Test.YtkmbhgggpfbffaaGreatDoorPu
set_option linter.unusedVariables false
set_option linter.unusedSimpArgs false
set_option linter.constructorNameAsVariable false
set_option maxRecDepth 100000
namespace Go.Proofs.YtkmbhgggpfbffaaGreatDoor
namespace Am
section
variable {R:Type}
theorem sc {k n:Nat}(h:k<n):∃ m,n=m+1:=⟨n-1,by omega⟩
def p2 (n:Int):Int:=2^n.toNat
theorem aQ8 (n:Int):0<p2 n:=by unfold p2;exact Int.pow_pos (by omega)
theorem bJV {a b:Int}(h:a<=b):p2 a<=p2 b:=by
 unfold p2
 have:(2:Nat)^a.toNat<=2^b.toNat:=Nat.pow_le_pow_right (by omega) (by omega)
 exact_mod_cast this
theorem bDz {n:Int}(h:n<=16):p2 n<=65536:=bJV h
theorem cAZ {a b:Int}(ha:0<=a)(hb:0<=b):p2 (a+b)=p2 a*p2 b:=by
 unfold p2
 rw[show (a+b).toNat=a.toNat+b.toNat by omega,Int.pow_add]
theorem bZN {w:Int}(h:1<=w):p2 w=2*p2 (w-1):=by
 have:=cAZ (a:=w-1) (b:=1) (by omega) (by omega)
 rw[show w-1+1=w by omega]at this
 rw[this,Int.mul_comm];rfl
theorem aVr {n:Int}(h0:0<=n)(h:n<=40):aPi .i64 1 n=p2 n:=by
 have h1:p2 n<=p2 40:=bJV h
 have h2:p2 40=1099511627776:=by decide
 have h3:=aQ8 n
 unfold aPi
 have e:min n.toNat (IntKind.bits .i64)=n.toNat:=by
  have:IntKind.bits .i64=64:=rfl
  omega
 rw[e,Int.one_mul]
 exact aDt (x:=p2 n) (by omega) (by omega)
def vok (w n:Int):Bool:=decide (0<=n∧n<=p2 w-1)
theorem bYC (n:Int):(BitVec.ofInt 64 n).toNat=(n%18446744073709551616).toNat:=by
 rw[BitVec.toNat_ofInt];rfl
theorem bX8 {w:Int}(n:Int):vok w (n%p2 w)=true:=by
 have h:=aQ8 w
 have h1:=Int.emod_nonneg n (show p2 w≠0 by omega)
 have h2:=Int.emod_lt_of_pos n h
 exact decide_eq_true ⟨h1,by omega⟩
def sg (w n:Int):Int:=if p2 (w-1)<=n then n-p2 w else n
def f1 (a b:Int):Int:=if a=0 then b else a
theorem aGq (b:Int):f1 0 b=b:=rfl
theorem aKn {a:Int}(h:a≠0)(b:Int):f1 a b=a:=if_neg h
theorem f1_0 {a b:Int}:f1 a b=0↔a=0∧b=0:=by
 unfold f1;split <;> simp_all
theorem aAh {α:Type}{l:List α}{x:α}{r:List α}{i:Nat}(h:l.drop i=x :: r):i<l.length∧at? l (i:Int)=some x∧l.drop (i+1)=r:=by
 have hl:i<l.length:=by
  rcases Nat.lt_or_ge i l.length with q | q
  ·exact q
  ·rw[List.drop_eq_nil_of_le q]at h;cases h
 rw[aI8 hl]at h
 injection h with h1 h2
 exact⟨hl,by rw[aHb hl,h1],h2⟩
theorem aAm {α:Type}{l:List α}{i:Nat}(h:l.drop i=[]):¬((i:Int)<(l.length:Int)):=by
 have:=List.drop_eq_nil_iff.1 h
 omega
theorem aAl {i:Nat}(h:i<=9223372036854775806):w64 ((i:Int)+1)=((i+1:Nat):Int):=by
 rw[aDt (by omega) (by omega)];omega
theorem aG2 (N:Nat)(a lo hi:Int)(k:Bool->Option R):aAF N a lo hi k=k (decide (lo<=a∧a<=hi)):=by
 unfold aAF
 by_cases h:lo<=a <;> simp[h]
theorem aIK (N:Nat)(a lo hi:Int)(k:Bool->Option R):aC6 N a lo hi k=k (decide (lo<=a∧a<=hi)):=by
 unfold aC6
 by_cases h:lo<=a <;> simp[h]
theorem aCK (N:Nat)(b:Bool)(e:Int)(k:Int->Option R):aAj N b e k=k (if b=true then 0 else e):=by cases b <;> rfl
theorem aCt (N:Nat)(b:Bool)(e:Int)(k:Int->Option R):aAy N b e k=k (if b=true then 0 else e):=by cases b <;> rfl
theorem aIE (N:Nat)(k0:Int->Option R)(k1:Option R)(l:List Int)(hl:l.length<=1000000):∀ (r:List Int) (n i:Nat),l.drop i=r->r.length<n->aDQ N k0 k1 n l l.length i=match r.find? (fun x=>decide (x≠0))with | some x=>k0 x | none=>k1
 | [],n,i,h,hn=>by
  obtain⟨n,rfl⟩:=sc hn
  rw[aDQ,aAc (aAm h)];rfl
 | x :: r,n,i,h,hn=>by
  obtain⟨n,rfl⟩:=sc hn
  obtain⟨h1,h2,h3⟩:=aAh h
  rw[aDQ,aAd (by omega),h2,aAe,List.find?_cons]
  by_cases hx:x=0
  ·rw[aAc (by simp[hx]),aAl (by omega)]
   simp only[hx,ne_eq,not_true,decide_false]
   exact aIE N k0 k1 l hl r n (i+1) h3 (by simp at hn;omega)
  ·rw[aAd hx];simp[hx]
theorem aIN (N:Nat)(k0:Int->Option R)(k1:Option R)(l:List Int)(hl:l.length<=1000000):∀ (r:List Int) (n i:Nat),l.drop i=r->r.length<n->aEh N k0 k1 n l l.length i=match r.find? (fun x=>decide (x≠0))with | some x=>k0 x | none=>k1
 | [],n,i,h,hn=>by
  obtain⟨n,rfl⟩:=sc hn
  rw[aEh,aAc (aAm h)];rfl
 | x :: r,n,i,h,hn=>by
  obtain⟨n,rfl⟩:=sc hn
  obtain⟨h1,h2,h3⟩:=aAh h
  rw[aEh,aAd (by omega),h2,aAe,List.find?_cons]
  by_cases hx:x=0
  ·rw[aAc (by simp[hx]),aAl (by omega)]
   simp only[hx,ne_eq,not_true,decide_false]
   exact aIN N k0 k1 l hl r n (i+1) h3 (by simp at hn;omega)
  ·rw[aAd hx];simp[hx]
theorem aGL (N:Nat)(hN:10<=N)(a b:Int)(k:Int->Option R):aAY N [a,b] k=k (f1 a b):=by
 unfold aAY f1
 have:=aIE N k (k 0) [a,b] (by simp) [a,b] N 0 rfl (by simp;omega)
 rw[Int.natCast_zero]at this
 rw[this]
 by_cases ha:a=0 <;> by_cases hb:b=0 <;> simp[ha,hb]
theorem aM0 (N:Nat)(hN:10<=N)(a b c:Int)(k:Int->Option R):aAY N [a,b,c] k=k (f1 a (f1 b c)):=by
 unfold aAY f1
 have:=aIE N k (k 0) [a,b,c] (by simp) [a,b,c] N 0 rfl (by simp;omega)
 rw[Int.natCast_zero]at this
 rw[this]
 by_cases ha:a=0 <;> by_cases hb:b=0 <;> by_cases hc:c=0 <;> simp[ha,hb,hc]
theorem aUx (N:Nat)(hN:10<=N)(a b:Int)(k:Int->Option R):aC8 N [a,b] k=k (f1 a b):=by
 unfold aC8 f1
 have:=aIN N k (k 0) [a,b] (by simp) [a,b] N 0 rfl (by simp;omega)
 rw[Int.natCast_zero]at this
 rw[this]
 by_cases ha:a=0 <;> by_cases hb:b=0 <;> simp[ha,hb]
theorem bC4 (N:Nat)(hN:10<=N)(a b c:Int)(k:Int->Option R):aC8 N [a,b,c] k=k (f1 a (f1 b c)):=by
 unfold aC8 f1
 have:=aIN N k (k 0) [a,b,c] (by simp) [a,b,c] N 0 rfl (by simp;omega)
 rw[Int.natCast_zero]at this
 rw[this]
 by_cases ha:a=0 <;> by_cases hb:b=0 <;> by_cases hc:c=0 <;> simp[ha,hb,hc]
def Tx (l:List UInt8):ByteArray:=⟨l.toArray⟩
theorem bGb (s:ByteArray):s=Tx s.data.toList:=by unfold Tx;rw[Array.toArray_toList]
theorem aLG (l:List UInt8):(Tx l).size=l.length:=by simp[Tx,ByteArray.size]
theorem aSG {l:List UInt8}{i:Nat}(h:i<l.length):aJd (Tx l) (i:Int)=some (l[i].toNat:Int):=by
 unfold aJd
 rw[dif_pos ⟨by omega,by rw[aLG];simpa using h⟩]
 rfl
def bGz (c:Nat):Bool:=decide ((97<=c∧c<=122)∨(65<=c∧c<=90))
def nmL:Bool->List UInt8->Bool
 | _,[]=>true
 | f,c :: r=>(bGz c.toNat||(!f&&decide (c.toNat=95∨(48<=c.toNat∧c.toNat<=57))))&&nmL false r
theorem aQD (f:Bool)(c:UInt8)(r:List UInt8):nmL f (c :: r)=((bGz c.toNat||(!f&&decide (c.toNat=95∨(48<=c.toNat∧c.toNat<=57))))&&nmL false r):=rfl
def nmB (s:ByteArray):Bool:=nmL true s.data.toList&&decide (1<=s.size∧s.size<=16)
theorem aMA (N:Nat)(k0:Bool->Option R)(k1:ByteArray->Option R)(l:List UInt8)(hl:l.length<=9223372036854775807):∀ (r:List UInt8) (n i:Nat),l.drop i=r->r.length<n->aB3 N k0 k1 n (Tx l) l.length i=if nmL (decide (i=0)) r=true then k1 (Tx l)else k0 false
 | [],n,i,h,hn=>by
  obtain⟨n,rfl⟩:=sc hn
  rw[aB3,aAc (aAm h)];rfl
 | c :: r,n,i,h,hn=>by
  obtain⟨n,rfl⟩:=sc hn
  obtain⟨h1,h2,h3⟩:=aAh h
  have hc:l[i]=c:=by
   rw[aI8 h1]at h
   injection h
  have ih:=aMA N k0 k1 l hl r n (i+1) h3 (by simp at hn;omega)
  rw[show (decide (i+1=0))=false from rfl]at ih
  have hb:=c.toNat_lt
  rw[aB3,aAd (by omega),aSG h1,aAe,hc,aDt (x:=(c.toNat:Int)) (by omega) (by omega),aAl (by omega)]
  simp only[aG2,ih]
  rw[aQD]
  unfold bGz
  generalize nmL false r=z
  generalize c.toNat=m at hb
  by_cases q1:97<=m∧m<=122
  ·have e1:(97:Int)<=(m:Int)∧(m:Int)<=122:=by omega
   simp[q1,e1]
  ·have e1:¬((97:Int)<=(m:Int)∧(m:Int)<=122):=by omega
   by_cases q2:65<=m∧m<=90
   ·have e2:(65:Int)<=(m:Int)∧(m:Int)<=90:=by omega
    rw[decide_eq_false e1,decide_eq_true e2]
    simp[q1,q2]
   ·have e2:¬((65:Int)<=(m:Int)∧(m:Int)<=90):=by omega
    rw[decide_eq_false e1,decide_eq_false e2]
    by_cases q3:i=0
    ·subst q3;simp[q1,q2]
    ·have e3:¬((i:Int)=0):=by omega
     by_cases q4:m=95
     ·subst q4;simp[e3,q3]
     ·have e4:(m:Int)≠95:=by omega
      by_cases q5:48<=m∧m<=57
      ·have e5:(48:Int)<=(m:Int)∧(m:Int)<=57:=by omega
       simp[q1,q2,q3,q4,q5,e3,e4,e5]
      ·have e5:¬((48:Int)<=(m:Int)∧(m:Int)<=57):=by omega
       rw[decide_eq_false e5]
       simp[q1,q2,q3,q4,q5,e3,e4]
theorem bKs (N:Nat)(s:ByteArray)(hN:s.size<N)(hs:s.size<=9223372036854775807)(k:Bool->Option R):aFt N s k=k (nmB s):=by
 have hz:s.size=s.data.toList.length:=by
  have:=aLG s.data.toList
  rw[<- bGb s]at this;exact this
 have:=aMA N k (fun z6=>aAF N ((z6.size:Nat):Int) 1 16 k) s.data.toList (by omega) s.data.toList N 0 rfl (by omega)
 rw[<- bGb s,<- hz,Int.natCast_zero]at this
 unfold aFt nmB
 rw[this,decide_eq_true rfl]
 cases nmL true s.data.toList
 ·rfl
 ·rw[if_pos rfl,aG2,Bool.true_and]
  congr 1
  exact decide_eq_decide.2 (by omega)
def inS (a:ByteArray):List ByteArray->Bool
 | []=>false
 | x :: r=>decide (a=x)||inS a r
abbrev NM:=List (ByteArray×Nat×Bool)
def mxS (a:ByteArray):NM->Option Nat
 | []=>none
 | e :: r=>bif decide (a=e.1)then some 0 else (mxS a r).map (·+1)
theorem aNq (a:ByteArray)(e:ByteArray×Nat×Bool)(r:NM):mxS a (e :: r)=bif decide (a=e.1)then some 0 else (mxS a r).map (·+1):=rfl
theorem aM1 (a x:ByteArray)(r:List ByteArray):inS a (x :: r)=(decide (a=x)||inS a r):=rfl
theorem aTg (a:ByteArray):∀ xs:NM,aLY .s a xs=mxS a xs
 | []=>rfl
 | e :: r=>by
  have ih:=aTg a r
  rw[aNq,<- ih];rfl
def mgS (a:ByteArray)(xs:NM):Bool:=match mxS a xs with
 | none=>false
 | some i=>((xs[i]?).map (·.2.2)).getD false
def mpS (a:ByteArray)(c:Nat)(xs:NM):NM:=match mxS a xs with
 | none=>xs++[(a,c,true)]
 | some i=>xs.modify i fun e=>(a,e.2.1,true)
theorem bH9 (a:ByteArray)(xs:NM):aFh .s a xs false=mgS a xs:=by
 unfold aFh mgS
 rw[aTg];rfl
theorem bKf (a:ByteArray)(c:Nat)(xs:NM):aOS .s a true c xs=mpS a c xs:=by
 unfold aOS mpS
 rw[aTg];rfl
theorem aKU (t:ByteArray)(e:ByteArray×Nat×Bool)(r:NM):mgS t (e :: r)=if t=e.1 then e.2.2 else mgS t r:=by
 unfold mgS
 rw[aNq]
 by_cases h:t=e.1
 ·rw[aAd h,if_pos h];rfl
 ·rw[aAc h,if_neg h]
  cases mxS t r <;> rfl
theorem aY1 (a b:ByteArray)(c:Nat):∀ xs:NM,mgS b (mpS a c xs)=if b=a then true else mgS b xs
 | []=>by
  show mgS b [(a,c,true)]=_
  rw[aKU]
 | e :: r=>by
  have ih:=aY1 a b c r
  unfold mpS
  rw[aNq]
  by_cases h:a=e.1
  ·rw[aAd h]
   show mgS b ((a,e.2.1,true) :: r)=_
   rw[aKU,aKU]
   by_cases q:b=a
   ·simp[q]
   ·simp[q,<- h]
  ·rw[aAc h]
   unfold mpS at ih
   cases hm:mxS a r with
   | none=>
    rw[hm]at ih
    show mgS b (e :: (r++[(a,c,true)]))=_
    rw[aKU,aKU,ih]
    by_cases q:b=e.1
    ·simp[q,Ne.symm h]
    ·simp[q]
   | some i=>
    rw[hm]at ih
    show mgS b (e :: r.modify i _)=_
    rw[aKU,aKU,ih]
    by_cases q:b=e.1
    ·simp[q,Ne.symm h]
    ·simp[q]
def KN (m:NM)(S:List ByteArray):Prop:=∀ a,mgS a m=inS a S
theorem aQN:KN [] []:=fun a=>rfl
theorem aOa {m:NM}{S:List ByteArray}(h:KN m S)(a:ByteArray)(c:Nat):KN (mpS a c m) (a :: S):=fun b=>by
 rw[aY1,h b]
 rw[aM1]
 by_cases q:b=a <;> simp[q]
def aNU (S:List ByteArray)(s:ByteArray):Int:=if nmB s=true then (if inS s S=true then 5 else 0)else 4
theorem aOm (N:Nat)(hN:10<=N)(s:ByteArray)(c:Nat){m:NM}{S:List ByteArray}(hs:s.size<N)(hs2:s.size<=9223372036854775807)(hm:KN m S)(k:Int->Nat->NM->Option R) :
  aCs N s c m k=k (aNU S s) (aGp .s s c m) (mpS s c m):=by
 unfold aCs aNU
 rw[bKs N s hs hs2,aCK,aCK,aGL N hN,bH9,bKf,hm s]
 congr 1
 cases nmB s <;> cases inS s S <;> rfl
abbrev Nd:=Int×Int×List Int×Int
def aKu (nodes:List Nd)(a:Int):Int:=((nodes[a.toNat]?).map (·.2.1)).getD 0
def wOK (n:Int):Bool:=decide (1<=n∧n<=16)
def aOs (op:Int):Int:=if op<=1 then 0 else if op=2∨op=14∨op=15∨op=16 then 1 else if op=12 then 3 else 2
def aJg (leaves:List Int)(op wd v:Int):Int:=if op=0 then (if vok wd v=true then 0 else 2)else if op=1 then (if 0<=v∧v<=(leaves.length:Int)-1 then (if leaves[v.toNat]? = some wd then 0 else 25)else 6)else if op=14 then (if 0<=v∧v<=15 then 0 else 2)else if v=0 then 0 else 3
def w0 (w:List Int)(i:Nat):Int:=(w[i]?).getD 0
def aJ5 (op wd v:Int)(w:List Int):Bool:=if op<=1 then true else if op<=8 then w.all (fun x=>decide (x=wd))else if op<=11 then decide (wd=1∧w0 w 0=w0 w 1)else if op=12 then decide (w0 w 0=1∧w0 w 1=wd∧w0 w 2=wd)else if op=13 then decide (w0 w 0+w0 w 1=wd)else if op=14 then decide (v+wd<=w0 w 0)else if op<=16 then decide (w0 w 0<=wd)else decide (w0 w 0=wd)
def aNS (i:Int)(args:List Int):Bool:=args.any fun a=>!decide (0<=a∧a<=i-1)
def aJQ (leaves:List Int)(nodes:List Nd)(i:Int)(x:Nd):Int:=
 f1 (if 0<=x.1∧x.1<=18 then 0 else 15) (f1 (if wOK x.2.1=true then 0 else 2) (f1 (if (x.2.2.1.length:Int)=aOs x.1 then 0 else 10) (f1 (if aNS i x.2.2.1=true then 9 else 0) (f1 (aJg leaves x.1 x.2.1 x.2.2.2)
  (if aJ5 x.1 x.2.1 x.2.2.2 (x.2.2.1.map (aKu nodes))=true then 0 else 25)))))
theorem aZm (N:Nat)(n:Int)(k:Bool->Option R):aFy N n k=k (wOK n):=by unfold aFy wOK;rw[aIK]
theorem aKT (N:Nat)(k0:Int->Int->Option R)(k1:Option R)(l:List Int)(hl:l.length<=1000000):∀ (r:List Int) (n i:Nat),l.drop i=r->r.length<n ->
  ∃ j:Int,aAT N k0 k1 n l l.length i=if r.all wOK=true then k1 else k0 j 2
 | [],n,i,h,hn=>by
  obtain⟨n,rfl⟩:=sc hn
  exact⟨0,by rw[aAT,aAc (aAm h)];rfl⟩
 | x :: r,n,i,h,hn=>by
  obtain⟨n,rfl⟩:=sc hn
  obtain⟨h1,h2,h3⟩:=aAh h
  obtain⟨j,ih⟩:=aKT N k0 k1 l hl r n (i+1) h3 (by simp at hn;omega)
  rw[aAT,aAd (by omega),h2,aAe]
  unfold aFj
  rw[aZm,aCt,List.all_cons]
  cases hx:wOK x
  ·exact⟨i,rfl⟩
  ·refine⟨j,?_⟩
   rw[if_pos rfl,aAc (by simp),aAl (by omega),ih,Bool.true_and]
theorem aPH (N:Nat)(l:List Int)(hl:l.length<=1000000)(hN:l.length<N)(k:Int->Int->Option R):∃ j:Int,aC4 N l k=if l.all wOK=true then k 0 0 else k j 2:=by
 have:=aKT N k (k 0 0) l hl l N 0 rfl hN
 rwa [Int.natCast_zero]at this
theorem aQU (N:Nat)(k0:Int->Int->Option R)(k1:Int->Option R)(l:List Int)(hl:l.length<=1000000)(m:Int)(hm:0<=m∧m<=1000000):∀ (r:List Int) (n i:Nat),l.drop i=r->r.length<n ->
  ∃ j:Nat,aAn N k0 k1 n l l.length i m=if aNS m r=true then k0 j m else k1 m
 | [],n,i,h,hn=>by
  obtain⟨n,rfl⟩:=sc hn
  exact⟨0,by rw[aAn,aAc (aAm h)];rfl⟩
 | x :: r,n,i,h,hn=>by
  obtain⟨n,rfl⟩:=sc hn
  obtain⟨h1,h2,h3⟩:=aAh h
  obtain⟨j,ih⟩:=aQU N k0 k1 l hl m hm r n (i+1) h3 (by simp at hn;omega)
  rw[aAn,aAd (by omega),h2,aAe]
  unfold aEl
  rw[aIK,aDt (x:=m-1) (by omega) (by omega)]
  unfold aNS at ih ⊢
  rw[List.any_cons]
  cases decide (0<=x∧x<=m-1)
  ·exact⟨i,rfl⟩
  ·refine⟨j,?_⟩
   dsimp only
   rw[Bool.not_true,cond_false,aAl (by omega),ih,Bool.false_or]
theorem bGZ (N:Nat)(l:List Int)(hl:l.length<=1000000)(hN:l.length<N)(m:Int)(hm:0<=m∧m<=1000000)(k:Bool->Int->Option R):aAb N l m k=k (aNS m l) m:=by
 unfold aAb aBf
 obtain⟨j,this⟩:=aQU N (fun y1 y2=>k (decide (0<=y1)) y2) (fun z=>k (decide ((0:Int)<=-1)) z) l hl m hm l N 0 rfl hN
 rw[Int.natCast_zero]at this
 rw[this]
 cases aNS m l
 ·rfl
 ·rw[if_pos rfl,decide_eq_true (by omega)]
theorem aN1 (N:Nat)(k0:Int->Int->Option R)(k1:Int->Option R)(l:List Int)(hl:l.length<=1000000)(m:Int):∀ (r:List Int) (n i:Nat),l.drop i=r->r.length<n ->
  ∃ j:Nat,aAD N k0 k1 n l l.length i m=if r.all (fun x=>decide (x=m))=true then k1 m else k0 j m
 | [],n,i,h,hn=>by
  obtain⟨n,rfl⟩:=sc hn
  exact⟨0,by rw[aAD,aAc (aAm h)];rfl⟩
 | x :: r,n,i,h,hn=>by
  obtain⟨n,rfl⟩:=sc hn
  obtain⟨h1,h2,h3⟩:=aAh h
  obtain⟨j,ih⟩:=aN1 N k0 k1 l hl m r n (i+1) h3 (by simp at hn;omega)
  rw[aAD,aAd (by omega),h2,aAe]
  unfold aHN
  dsimp only
  rw[List.all_cons]
  by_cases hx:x=m
  ·refine⟨j,?_⟩
   rw[aAc (by simp[hx]),aAl (by omega),ih,decide_eq_true hx,Bool.true_and]
  ·exact⟨i,by rw[aAd hx,decide_eq_false hx];rfl⟩
theorem same_eq (N:Nat)(l:List Int)(hl:l.length<=1000000)(hN:l.length<N)(m v:Int)(k:Bool->Option R):aIh N m l v k=k (l.all fun x=>decide (x=m)):=by
 unfold aIh aB0 aCh
 obtain⟨j,this⟩:=aN1 N (fun y1 y2=>k (!decide (0<=y1))) (fun z=>k (!decide ((0:Int)<=-1))) l hl m l N 0 rfl hN
 rw[Int.natCast_zero]at this
 rw[this]
 cases l.all fun x=>decide (x=m)
 ·rw[if_neg (by simp),decide_eq_true (by omega)];rfl
 ·rfl
theorem bN7 (N:Nat)(v w:Int)(h0:1<=w)(h:w<=16)(k:Bool->Option R):aHu N v w k=k (vok w v):=by
 have:=aQ8 w;have:=bDz h
 unfold aHu
 rw[aAd (by omega),aAc (by omega),aVr (by omega) (by omega),aDt (by omega) (by omega),aIK];rfl
theorem aOQ (N:Nat)(leaves:List Int)(hl:leaves.length<=1000000)(op wd:Int)(args:List Int)(v:Int)(nm:ByteArray)(na:Int)(b:Bool)(f g:Nat)(cs:List S)(hw:wOK wd=true)(hb:b=decide (op=0∨op=1∨op=14))(k:Int->Option R) :
  aE8 N leaves op wd args v nm na b f g cs k=k (aJg leaves op wd v):=by
 have hw:=of_decide_eq_true hw
 unfold aE8 aJg
 by_cases c0:op=0
 ·rw[aAd c0,if_pos c0,bN7 N v wd hw.1 hw.2,aCt]
 ·rw[aAc c0,if_neg c0]
  by_cases c1:op=1
  ·rw[aAd c1,if_pos c1,aIK,aDt (by omega) (by omega)]
   by_cases c:0<=v∧v<=(leaves.length:Int)-1
   ·rw[decide_eq_true c,if_pos c,Bool.not_true,cond_false]
    obtain⟨n,rfl⟩:∃ n:Nat,v=n:=⟨v.toNat,by omega⟩
    rw[aHb (show n<leaves.length by omega),aAe,aCt,Int.toNat_natCast,List.getElem?_eq_getElem (show n<leaves.length by omega)]
    by_cases e:leaves[n]'(by omega)=wd <;> simp[e]
   ·rw[decide_eq_false c,if_neg c];rfl
  ·rw[aAc c1,if_neg c1]
   by_cases c2:op=14
   ·rw[aAd c2,if_pos c2,aIK,aCt]
    congr 1;by_cases c:0<=v∧v<=15 <;> simp[c]
   ·rw[aAc c2,if_neg c2,hb,decide_eq_false (by omega),cond_false,aCt]
    congr 1;by_cases c:v=0 <;> simp[c]
theorem aKK (N:Nat)(k0:Int->Int->List Int->Int->ByteArray->Int->Bool->Nat->Nat->List S->List Int->List Int->List Nd->Option R)(l:List Int)(hl:l.length<=3)(nodes:List Nd)(m:Int)(hm:m<=nodes.length)
  (op wd:Int) (args:List Int) (v:Int) (nm:ByteArray) (na:Int) (b:Bool) (f g:Nat) (cs:List S) (lv:List Int):∀ (r:List Int) (n i:Nat) (acc:List Int),l.drop i=r->r.length<n->acc.length<=i->aNS m r=false ->
  aBp N k0 n l l.length i nodes op wd args v nm na b f g cs acc lv=k0 op wd args v nm na b f g cs (acc++r.map (aKu nodes)) lv nodes
 | [],n,i,acc,h,hn,ha,ho=>by
  obtain⟨n,rfl⟩:=sc hn
  rw[aBp,aAc (aAm h),List.map_nil,List.append_nil]
 | x :: r,n,i,acc,h,hn,ha,ho=>by
  obtain⟨n,rfl⟩:=sc hn
  obtain⟨h1,h2,h3⟩:=aAh h
  unfold aNS at ho
  rw[List.any_cons,Bool.or_eq_false_iff]at ho
  have hx:0<=x∧x<=m-1:=by simpa using ho.1
  obtain⟨a,rfl⟩:∃ a:Nat,x=a:=⟨x.toNat,by omega⟩
  have ih:=aKK N k0 l hl nodes m hm op wd args v nm na b f g cs lv r n (i+1) (acc++[nodes[a]'(by omega) |>.2.1]) h3 (by simp at hn;omega) (by simp;omega) ho.2
  rw[aBp,aAd (by omega),h2,aAe,aHb (show a<nodes.length by omega),aAe,aBs (by omega),cond_true,aAl (by omega),ih,List.map_cons,List.append_assoc]
  unfold aKu
  rw[Int.toNat_natCast,List.getElem?_eq_getElem (show a<nodes.length by omega)]
  rfl
def WOK (nodes:List Nd)(i:Int):Prop:=∀ a:Int,0<=a->a<=i-1->wOK (aKu nodes a)=true
theorem bIx (N:Nat)(hN:10<=N)(leaves:List Int)(hl:leaves.length<=1000000)(nodes:List Nd)(m:Int)(hm:m<=nodes.length)(hW:WOK nodes m)(op wd:Int)(args:List Int)(v:Int)(nm:ByteArray)(na:Int)(b:Bool)(f g:Nat)(cs:List S)
  (hw:wOK wd=true) (hb:b=decide (op=0∨op=1∨op=14)) (hna:na=aOs op) (k:Int->List Int->List Nd->Option R) (K:Int->Int->List Int->Int->ByteArray->Int->Bool->Nat->Nat->List S->List Int->List Int->List Nd->Option R)
  (hj:∀ w:List Int,(w.length:Int)=aOs op->(∀ x,x∈w->wOK x=true)->aJg leaves op wd v=0->K op wd args v nm na b f g cs w leaves nodes=k (if aJ5 op wd v w=true then 0 else 25) leaves nodes) :
  (aAy N (decide (((args.length:Nat):Int)=na)) 10 (fun y1=>(aAy N (!(aNS m args)) 9 (fun y2=>(aE8 N leaves op wd args v nm na b f g cs (fun y3=>(aC8 N [y1,y2,y3] (fun y4=>(bif decide (y4≠0)then (k y4 leaves nodes)else (aBp N K N args ((args.length:Nat):Int) 0 nodes op wd args v nm na b f g cs [] leaves)))))))))) =
  k (f1 (if (args.length:Int)=aOs op then 0 else 10) (f1 (if aNS m args=true then 9 else 0) (f1 (aJg leaves op wd v) (if aJ5 op wd v (args.map (aKu nodes))=true then 0 else 25)))) leaves nodes:=by
 rw[aCt,aCt,aOQ N leaves hl op wd args v nm na b f g cs hw hb,bC4 N hN,hna]
 by_cases c1:(args.length:Int)=aOs op
 ·rw[decide_eq_true c1,if_pos rfl,aGq,if_pos c1,aGq]
  have h3:args.length<=3:=by
    unfold aOs at c1
    split at c1
    ·omega
    ·split at c1
     ·omega
     ·split at c1 <;> omega
  cases c2:aNS m args
  · rw[Bool.not_false,if_pos rfl,aGq,if_neg (by simp),aGq]
    by_cases c3:aJg leaves op wd v=0
    ·rw[c3,aAc (by simp),aGq]
     have:=aKK N K args h3 nodes m hm op wd args v nm (aOs op) b f g cs leaves args N 0 [] rfl (by omega) (by simp) c2
     rw[Int.natCast_zero,List.nil_append]at this
     rw[this,<- hna]
     refine hj _ (by rw[List.length_map];exact c1) (fun x hx=>?_) c3
     obtain⟨a,ha,rfl⟩:=List.mem_map.1 hx
     have:=List.any_eq_false.1 c2 a ha
     have:0<=a∧a<=m-1:=by simpa using this
     exact hW a this.1 this.2
    ·rw[aAd c3,aKn c3]
  · rw[if_pos rfl];rfl
 ·rw[decide_eq_false c1,if_neg c1];rfl
theorem aLX {w:List Int}{i:Nat}(h:i<w.length):at? w (i:Int)=some (w0 w i):=by rw[aHb h];unfold w0;rw[List.getElem?_eq_getElem h];rfl
theorem aMJ (N:Nat)(wd v:Int){w:List Int}(h:0<w.length)(k:Bool->Option R):aGI N wd w v k=k (decide (w0 w 0=wd)):=by unfold aGI;rw[show (0:Int)=((0:Nat):Int)from rfl,aLX h];rfl
theorem aK9 (N:Nat)(wd v:Int){w:List Int}(h:0<w.length)(k:Bool->Option R):aF9 N wd w v k=k (decide (w0 w 0<=wd)):=by unfold aF9;rw[show (0:Int)=((0:Nat):Int)from rfl,aLX h];rfl
theorem aIQ (N:Nat)(wd v:Int){w:List Int}(h:1<w.length)(k:Bool->Option R):aF5 N wd w v k=k (decide (wd=1∧w0 w 0=w0 w 1)):=by
 unfold aF5
 by_cases c:wd=1
 ·rw[aAd c,show (0:Int)=((0:Nat):Int)from rfl,aLX (by omega),aAe,show (1:Int)=((1:Nat):Int)from rfl,aLX h,aAe]
  congr 1;exact decide_eq_decide.2 ⟨fun h=>⟨c,h⟩,fun h=>h.2⟩
 ·rw[aAc c,decide_eq_false (fun h=>c h.1)]
theorem bHz (N:Nat)(wd v:Int){w:List Int}(h:2<w.length)(k:Bool->Option R):aDE N wd w v k=k (decide (w0 w 0=1∧w0 w 1=wd∧w0 w 2=wd)):=by
 unfold aDE
 rw[show at? w 0=_ from aLX (i:=0) (by omega),show at? w 1=_ from aLX (i:=1) (by omega),show at? w 2=_ from aLX (i:=2) h]
 simp only[aAe]
 by_cases c:w0 w 0=1
 ·rw[aAd c]
  by_cases c2:w0 w 1=wd
  ·rw[aAd c2];congr 1;exact decide_eq_decide.2 ⟨fun h=>⟨c,c2,h⟩,fun h=>h.2.2⟩
  ·rw[aAc c2,decide_eq_false (fun h=>c2 h.2.1)]
 ·rw[aAc c,decide_eq_false (fun h=>c h.1)]
theorem aU6 {w:List Int}(hw:∀ x,x∈w->wOK x=true){i:Nat}(h:i<w.length):1<=w0 w i∧w0 w i<=16:=by
 unfold w0;rw[List.getElem?_eq_getElem h]
 exact of_decide_eq_true (hw _ (List.getElem_mem h))
theorem bDg (N:Nat)(wd v:Int){w:List Int}(h:1<w.length)(hw:∀ x,x∈w->wOK x=true)(k:Bool->Option R):aDF N wd w v k=k (decide (w0 w 0+w0 w 1=wd)):=by
 have:=aU6 hw h;have:=aU6 hw (show 0<w.length by omega)
 unfold aDF
 rw[show at? w 0=_ from aLX (i:=0) (by omega),aAe,show at? w 1=_ from aLX (i:=1) (by omega),aAe,aDt (by omega) (by omega)]
theorem aYv (N:Nat)(wd v:Int){w:List Int}(h:0<w.length)(h1:0<=wd∧wd<=16)(h2:0<=v∧v<=15)(k:Bool->Option R):aDC N wd w v k=k (decide (v+wd<=w0 w 0)):=by
 unfold aDC
 rw[show at? w 0=_ from aLX (i:=0) (by omega),aAe,aDt (by omega) (by omega)]
theorem bBO (N:Nat)(hN:10<=N)(leaves:List Int)(hl:leaves.length<=1000000)(nodes:List Nd)(hn:nodes.length<=1000000)(m:Nat)(hm:m<=nodes.length)(hW:WOK nodes m)(op wd:Int)(args:List Int)(ha:args.length<=1000000)(haN:args.length<N)(v:Int)(k:Int->List Int->List Nd->Option R) :
  aDZ N m op wd args v leaves nodes k=k (aJQ leaves nodes m (op,wd,args,v)) leaves nodes:=by
 unfold aDZ aJQ
 simp only[aIK,aCt,aZm,aUx N hN,bGZ N args ha haN (m:Int) ⟨by omega,by omega⟩]
 by_cases c0:0<=op∧op<=18
 ·rw[decide_eq_true c0,if_pos rfl,if_pos c0,aGq,aGq]
  by_cases c1:wOK wd=true
  ·have hwd:=of_decide_eq_true c1
   rw[if_pos c1,aAc (by simp),aGq]
   have hop:op=18∨op=17∨op=16∨op=15∨op=14∨op=13∨op=12∨op=11∨op=10∨op=9∨op=8∨op=7∨op=6∨op=5∨op=4∨op=3∨op=2∨op=1∨op=0:=by omega
   rcases hop with rfl | rfl | rfl | rfl | rfl | rfl | rfl | rfl | rfl | rfl | rfl | rfl | rfl | rfl | rfl | rfl | rfl | rfl | rfl
   all_goals
    simp only[Int.reduceEq,decide_true,decide_false,cond_true,cond_false]
    unfold aAg
    refine bIx N hN leaves hl nodes m (by omega) hW _ wd args v _ _ _ _ _ _ c1 (by rfl) (by rfl) k _ fun w hw1 hw2 hw3=>?_
    try dsimp only
    simp only[Nat.reduceEqDiff,decide_true,decide_false,cond_true,cond_false]
   ·rw[aMJ N wd v (by have:(w.length:Int)=2:=hw1;omega),aCt];rfl
   ·rw[aMJ N wd v (by have:(w.length:Int)=2:=hw1;omega),aCt];rfl
   ·rw[aK9 N wd v (by have:(w.length:Int)=1:=hw1;omega),aCt];rfl
   ·rw[aK9 N wd v (by have:(w.length:Int)=1:=hw1;omega),aCt];rfl
   ·have hv:(if 0<=v∧v<=15 then (0:Int)else 2)=0:=hw3
    rw[aYv N wd v (by have:(w.length:Int)=1:=hw1;omega) ⟨by omega,by omega⟩ (by split at hv <;> omega),aCt];rfl
   ·rw[bDg N wd v (by have:(w.length:Int)=2:=hw1;omega) hw2,aCt];rfl
   ·rw[bHz N wd v (by have:(w.length:Int)=3:=hw1;omega),aCt];rfl
   ·rw[aIQ N wd v (by have:(w.length:Int)=2:=hw1;omega),aCt];rfl
   ·rw[aIQ N wd v (by have:(w.length:Int)=2:=hw1;omega),aCt];rfl
   ·rw[aIQ N wd v (by have:(w.length:Int)=2:=hw1;omega),aCt];rfl
   ·have:(w.length:Int)=2:=hw1
    rw[same_eq N w (by omega) (by omega),aCt];rfl
   ·have:(w.length:Int)=2:=hw1
    rw[same_eq N w (by omega) (by omega),aCt];rfl
   ·have:(w.length:Int)=2:=hw1
    rw[same_eq N w (by omega) (by omega),aCt];rfl
   ·have:(w.length:Int)=2:=hw1
    rw[same_eq N w (by omega) (by omega),aCt];rfl
   ·have:(w.length:Int)=2:=hw1
    rw[same_eq N w (by omega) (by omega),aCt];rfl
   ·have:(w.length:Int)=2:=hw1
    rw[same_eq N w (by omega) (by omega),aCt];rfl
   ·have:(w.length:Int)=1:=hw1
    rw[same_eq N w (by omega) (by omega),aCt];rfl
   ·unfold aF6;dsimp only;rw[aCt];rfl
   ·unfold aF6;dsimp only;rw[aCt];rfl
  ·rw[if_neg c1,aAd (by omega)];rfl
 ·rw[decide_eq_false c0,if_neg c0];rfl
def aGZ (leaves:List Int)(nodes:List Nd):Nat->List Nd->Int
 | _,[]=>0
 | i,x :: r=>f1 (aJQ leaves nodes i x) (aGZ leaves nodes (i+1) r)
theorem aIL (leaves:List Int)(nodes:List Nd)(i:Nat)(x:Nd)(r:List Nd):aGZ leaves nodes i (x :: r)=f1 (aJQ leaves nodes i x) (aGZ leaves nodes (i+1) r):=rfl
theorem aPs {leaves:List Int}{nodes:List Nd}{i:Int}{x:Nd}(h:aJQ leaves nodes i x=0):(0<=x.1∧x.1<=18)∧wOK x.2.1=true∧(x.2.2.1.length:Int)=aOs x.1∧aNS i x.2.2.1=false∧aJg leaves x.1 x.2.1 x.2.2.2=0∧aJ5 x.1 x.2.1 x.2.2.2 (x.2.2.1.map (aKu nodes))=true:=by
 unfold aJQ at h
 simp only[f1_0]at h
 obtain⟨h1,h2,h3,h4,h5,h6⟩:=h
 refine⟨?_,?_,?_,?_,h5,?_⟩
 ·split at h1
  ·assumption
  ·cases h1
 ·split at h2
  ·assumption
  ·cases h2
 ·split at h3
  ·assumption
  ·cases h3
 ·split at h4
  ·cases h4
  ·rename_i q;exact Bool.eq_false_iff.2 q
 ·split at h6
  ·assumption
  ·cases h6
theorem aQn {nodes:List Nd}{i:Nat}{x:Nd}{r:List Nd}(h:nodes.drop i=x :: r)(hw:wOK x.2.1=true)(hW:WOK nodes i):WOK nodes ((i+1:Nat):Int):=by
 intro a h0 h1
 by_cases e:a=(i:Int)
 ·subst e
  have hl:=(aAh h).1
  rw[aI8 hl]at h
  injection h with h2 h3
  unfold aKu
  rw[Int.toNat_natCast,List.getElem?_eq_getElem hl,h2]
  exact hw
 ·exact hW a h0 (by omega)
theorem aME (N:Nat)(hN:10<=N)(k0:Int->Int->List Int->List Nd->Option R)(k1:List Int->List Nd->Option R)(leaves:List Int)(hl:leaves.length<=1000000)(nodes:List Nd)(hn:nodes.length<=1000000)(hA:∀ x,x∈nodes->x.2.2.1.length<=1000000∧x.2.2.1.length<N):∀ (r:List Nd) (n i:Nat),nodes.drop i=r->r.length<n->WOK nodes i ->
  ∃ j:Int,aCk N k0 k1 n nodes nodes.length i leaves nodes=if aGZ leaves nodes i r=0 then k1 leaves nodes else k0 j (aGZ leaves nodes i r) leaves nodes
 | [],n,i,h,hn,hW=>by
  obtain⟨n,rfl⟩:=sc hn
  exact⟨0,by rw[aCk,aAc (aAm h)];rfl⟩
 | x :: r,n,i,h,hn,hW=>by
  obtain⟨n,rfl⟩:=sc hn
  obtain⟨h1,h2,h3⟩:=aAh h
  have hx:x∈nodes:=List.mem_of_mem_drop (h▸List.mem_cons_self:x∈nodes.drop i)
  rw[aCk,aAd (by omega),h2,aAe,bBO N hN leaves hl nodes ‹_› i (by omega) hW x.1 x.2.1 x.2.2.1 (hA x hx).1 (hA x hx).2,aIL]
  by_cases c:aJQ leaves nodes i x=0
  ·obtain⟨j,ih⟩:=aME N hN k0 k1 leaves hl nodes ‹_› hA r n (i+1) h3 (by simp at hn;omega) (aQn h (aPs c).2.1 hW)
   refine⟨j,?_⟩
   have c':aJQ leaves nodes i (x.1,x.2.1,x.2.2.1,x.2.2.2)=0:=c
   rw[aAc (by simp[c']),aAl (by omega),ih,c,aGq]
  ·refine⟨i,?_⟩
   have c':aJQ leaves nodes i (x.1,x.2.1,x.2.2.1,x.2.2.2)≠0:=c
   rw[aAd c',aKn c,if_neg c]
def aQR (leaves:List Int)(nodes:List Nd):Int:=if 40<(leaves.length:Int)then 8 else if leaves.all wOK=true then (if 400<(nodes.length:Int)then 8 else aGZ leaves nodes 0 nodes)else 2
theorem aMH (N:Nat)(hN:1000<=N)(leaves:List Int)(nodes:List Nd)(hA:∀ x,x∈nodes->x.2.2.1.length<=1000000∧x.2.2.1.length<N)(k:Int->Int->Option R):∃ j:Int,aD8 N leaves nodes k=k j (aQR leaves nodes):=by
 unfold aD8 aQR
 by_cases c0:40<(leaves.length:Int)
 ·exact⟨0,by rw[aAd c0,if_pos c0]⟩
 ·rw[aAc c0,if_neg c0]
  obtain⟨j,e⟩:=aPH N leaves (by omega) (by omega) (fun y1 y2=>bif decide (y2≠0)then k y1 y2 else bif decide (400<((nodes.length:Nat):Int))then k 0 8 else aFg N (aG4 N nodes leaves nodes fun y3 y4 y5 y6=>k y3 y4))
  rw[e]
  by_cases c1:leaves.all wOK=true
  ·rw[if_pos c1,if_pos c1]
   try dsimp only
   rw[aAc (by simp)]
   by_cases c2:400<(nodes.length:Int)
   ·exact⟨0,by rw[aAd c2,if_pos c2]⟩
   ·rw[aAc c2,if_neg c2]
    obtain⟨j,e⟩:=aME N (by omega) (fun y3 y4 y5 y6=>k y3 y4) (fun z9 z10=>k 0 0) leaves (by omega) nodes (by omega) hA nodes N 0 rfl (by omega) (fun a h0 h1=>by omega)
    rw[Int.natCast_zero]at e
    refine⟨if aGZ leaves nodes 0 nodes=0 then 0 else j,?_⟩
    show aCk N (fun y3 y4 y5 y6=>k y3 y4) (fun z9 z10=>k 0 0) N nodes nodes.length 0 leaves nodes=_
    rw[e]
    by_cases c:aGZ leaves nodes 0 nodes=0
    ·rw[if_pos c,if_pos c,c]
    ·rw[if_neg c,if_neg c]
  ·refine⟨j,?_⟩
   rw[if_neg c1,if_neg c1];rfl
def b2i (b:Bool):Int:=if b=true then 1 else 0
def apS (op wd v:Int)(w a:List Int):Int:=
 if op=0 then v else if op=2 then p2 wd-1-w0 a 0 else if op=3 then bLe .i64 (w0 a 0) (w0 a 1)else if op=4 then orI .i64 (w0 a 0) (w0 a 1)else if op=5 then bQA .i64 (w0 a 0) (w0 a 1)
 else if op=6 then (w0 a 0+w0 a 1)%p2 wd else if op=7 then (w0 a 0-w0 a 1)%p2 wd else if op=8 then (w0 a 0*w0 a 1)%p2 wd else if op=9 then b2i (decide (w0 a 0=w0 a 1))else if op=10 then b2i (decide (w0 a 0<w0 a 1))
 else if op=11 then b2i (decide (sg (w0 w 0) (w0 a 0)<sg (w0 w 0) (w0 a 1)))else if op=12 then (if w0 a 0=1 then w0 a 1 else w0 a 2)else if op=13 then w0 a 0*p2 (w0 w 1)+w0 a 1 else if op=14 then w0 a 0/p2 v%p2 wd
 else if op=15 then w0 a 0 else if op=16 then sg (w0 w 0) (w0 a 0)%p2 wd else if op=17 then (if wd<=w0 a 1 then 0 else w0 a 0*p2 (w0 a 1)%p2 wd)else (if wd<=w0 a 1 then 0 else w0 a 0/p2 (w0 a 1))
theorem bYj {n:Nat}(h:n<18446744073709551616):(BitVec.ofInt 64 (n:Int)).toNat=n:=by
 rw[bYC,Int.emod_eq_of_lt (by omega) (by omega)];omega
theorem bZZ {a b:Nat}(ha:a<65536)(hb:b<65536):bLe .i64 a b=((a &&& b:Nat):Int):=by
 have h:a &&& b<2^16:=Nat.and_lt_two_pow a hb
 have e:(BitVec.ofInt 64 (a:Int) &&& BitVec.ofInt 64 (b:Int)).toNat=a &&& b:=by rw[BitVec.toNat_and,bYj (by omega),bYj (by omega)]
 show IntKind.wrap .i64 (((BitVec.ofInt 64 (a:Int) &&& BitVec.ofInt 64 (b:Int)).toNat:Nat):Int)=_
 rw[e];exact aDt (by omega) (by omega)
theorem cB6 {a b:Nat}(ha:a<65536)(hb:b<65536):orI .i64 a b=((a ||| b:Nat):Int):=by
 have h:a ||| b<2^16:=Nat.or_lt_two_pow (n:=16) ha hb
 have e:(BitVec.ofInt 64 (a:Int) ||| BitVec.ofInt 64 (b:Int)).toNat=a ||| b:=by rw[BitVec.toNat_or,bYj (by omega),bYj (by omega)]
 show IntKind.wrap .i64 (((BitVec.ofInt 64 (a:Int) ||| BitVec.ofInt 64 (b:Int)).toNat:Nat):Int)=_
 rw[e];exact aDt (by omega) (by omega)
theorem bZ7 {a b:Nat}(ha:a<65536)(hb:b<65536):bQA .i64 a b=((a ^^^ b:Nat):Int):=by
 have h:a ^^^ b<2^16:=Nat.xor_lt_two_pow (n:=16) ha hb
 have e:(BitVec.ofInt 64 (a:Int) ^^^ BitVec.ofInt 64 (b:Int)).toNat=a ^^^ b:=by rw[BitVec.toNat_xor,bYj (by omega),bYj (by omega)]
 show IntKind.wrap .i64 (((BitVec.ofInt 64 (a:Int) ^^^ BitVec.ofInt 64 (b:Int)).toNat:Nat):Int)=_
 rw[e];exact aDt (by omega) (by omega)
theorem bZW {w n:Int}(h:vok w n=true):0<=n∧n<=p2 w-1:=of_decide_eq_true h
theorem bYD {w n:Int}(h:0<=n∧n<=p2 w-1):vok w n=true:=decide_eq_true h
theorem bX6 {w n:Int}(hw:w<=16)(h:vok w n=true):0<=n∧n<=65535:=by
 have:=bZW h;have:=bDz hw;omega
theorem cCS {w w' n:Int}(h:vok w n=true)(hw:w<=w'):vok w' n=true:=by
 have:=bZW h;have:=bJV hw;exact bYD (by omega)
theorem bZI (b:Bool):vok 1 (b2i b)=true:=by cases b <;> rfl
def VS (w a:List Int):Prop:=w.length=a.length∧∀ i,i<w.length->(1<=w0 w i∧w0 w i<=16)∧vok (w0 w i) (w0 a i)=true
theorem bX9 {w n:Int}(h:w<=16)(hv:vok w n=true):∃ m:Nat,n=m∧m<65536∧m<2^w.toNat:=by
 have h1:=bX6 h hv
 have h2:=bZW hv
 refine⟨n.toNat,by omega,by omega,?_⟩
 have:p2 w=((2^w.toNat:Nat):Int):=by unfold p2;simp
 omega
theorem bYB {w:Int}{m:Nat}(h:m<2^w.toNat):vok w (m:Int)=true:=by
 have:p2 w=((2^w.toNat:Nat):Int):=by unfold p2;simp
 exact bYD (by omega)
theorem bX2 {wd:Int}{w:List Int}(h:(w.all fun x=>decide (x=wd))=true){i:Nat}(hi:i<w.length):w0 w i=wd:=by
 have:=List.all_eq_true.1 h _ (List.getElem_mem hi)
 unfold w0;rw[List.getElem?_eq_getElem hi];simpa using this
theorem bYo {x y X Y:Int}(h1:0<=x)(h2:x<=X)(h3:0<=y)(h4:y<=Y):0<=x*y∧x*y<=X*Y:=⟨Int.mul_nonneg h1 h3,Int.mul_le_mul h2 h4 h3 (by omega)⟩
theorem cC6 (N:Nat){op wd v:Int}{w a:List Int}(h0:0<=op∧op<=18)(h1:op≠1)(hw:wOK wd=true)(hl:(w.length:Int)=aOs op)(hv:aJg [] op wd v=0)(hf:aJ5 op wd v w=true)(hs:VS w a):vok wd (apS op wd v w a)=true:=by
 have hwd:=of_decide_eq_true hw
 have hP:=aQ8 wd
 have hop:op=18∨op=17∨op=16∨op=15∨op=14∨op=13∨op=12∨op=11∨op=10∨op=9∨op=8∨op=7∨op=6∨op=5∨op=4∨op=3∨op=2∨op=0:=by omega
 rcases hop with rfl | rfl | rfl | rfl | rfl | rfl | rfl | rfl | rfl | rfl | rfl | rfl | rfl | rfl | rfl | rfl | rfl | rfl
 ·have hl:(w.length:Int)=2:=hl
  have hf:w0 w 0=wd:=of_decide_eq_true hf
  have h:=(hs.2 0 (by omega)).2
  have h':=bZW (hs.2 1 (by omega)).2
  rw[hf]at h
  have hr:=bZW h
  show vok wd (if wd<=w0 a 1 then 0 else w0 a 0/p2 (w0 a 1))=true
  split
  ·exact bYD (by omega)
  ·have:=aQ8 (w0 a 1)
   have e1:=Int.ediv_nonneg hr.1 (show 0<=p2 (w0 a 1) by omega)
   have e2:=Int.ediv_le_self (p2 (w0 a 1)) hr.1
   exact bYD (by omega)
 ·show vok wd (if wd<=w0 a 1 then 0 else w0 a 0*p2 (w0 a 1)%p2 wd)=true
  split
  ·exact bYD (by omega)
  ·exact bX8 _
 ·exact bX8 _
 ·have hl:(w.length:Int)=1:=hl
  have hf:w0 w 0<=wd:=of_decide_eq_true hf
  exact cCS (hs.2 0 (by omega)).2 hf
 ·exact bX8 _
 ·have hl:(w.length:Int)=2:=hl
  have hf:w0 w 0+w0 w 1=wd:=of_decide_eq_true hf
  have a0:=bZW (hs.2 0 (by omega)).2;have a1:=bZW (hs.2 1 (by omega)).2
  have b0:=(hs.2 0 (by omega)).1;have b1:=(hs.2 1 (by omega)).1
  have hp:=cAZ (a:=w0 w 0) (b:=w0 w 1) (by omega) (by omega)
  have q1:=aQ8 (w0 w 1)
  show vok wd (w0 a 0*p2 (w0 w 1)+w0 a 1)=true
  have e:=Int.mul_le_mul_of_nonneg_right a0.2 (show 0<=p2 (w0 w 1) by omega)
  rw[Int.sub_mul,Int.one_mul]at e
  have e2:=Int.mul_nonneg a0.1 (show 0<=p2 (w0 w 1) by omega)
  rw[hf]at hp
  exact bYD (by omega)
 ·have hl:(w.length:Int)=3:=hl
  have hf:w0 w 0=1∧w0 w 1=wd∧w0 w 2=wd:=of_decide_eq_true hf
  have h1:=(hs.2 1 (by omega)).2;have h2:=(hs.2 2 (by omega)).2
  rw[hf.2.1]at h1
  rw[hf.2.2]at h2
  show vok wd (if w0 a 0=1 then w0 a 1 else w0 a 2)=true
  split <;> assumption
 ·have hf:wd=1∧_:=of_decide_eq_true hf
  rw[hf.1];exact bZI _
 ·have hf:wd=1∧_:=of_decide_eq_true hf
  rw[hf.1];exact bZI _
 ·have hf:wd=1∧_:=of_decide_eq_true hf
  rw[hf.1];exact bZI _
 ·exact bX8 _
 ·exact bX8 _
 ·exact bX8 _
 ·have hl:(w.length:Int)=2:=hl
  have e0:=bX2 hf (i:=0) (by omega);have e1:=bX2 hf (i:=1) (by omega)
  obtain⟨x,hx,x1,x2⟩:=bX9 (by omega) (e0▸(hs.2 0 (by omega)).2)
  obtain⟨y,hy,y1,y2⟩:=bX9 (by omega) (e1▸(hs.2 1 (by omega)).2)
  show vok wd (bQA .i64 (w0 a 0) (w0 a 1))=true
  rw[hx,hy,bZ7 x1 y1];exact bYB (Nat.xor_lt_two_pow x2 y2)
 ·have hl:(w.length:Int)=2:=hl
  have e0:=bX2 hf (i:=0) (by omega);have e1:=bX2 hf (i:=1) (by omega)
  obtain⟨x,hx,x1,x2⟩:=bX9 (by omega) (e0▸(hs.2 0 (by omega)).2)
  obtain⟨y,hy,y1,y2⟩:=bX9 (by omega) (e1▸(hs.2 1 (by omega)).2)
  show vok wd (orI .i64 (w0 a 0) (w0 a 1))=true
  rw[hx,hy,cB6 x1 y1];exact bYB (Nat.or_lt_two_pow x2 y2)
 ·have hl:(w.length:Int)=2:=hl
  have e0:=bX2 hf (i:=0) (by omega);have e1:=bX2 hf (i:=1) (by omega)
  obtain⟨x,hx,x1,x2⟩:=bX9 (by omega) (e0▸(hs.2 0 (by omega)).2)
  obtain⟨y,hy,y1,y2⟩:=bX9 (by omega) (e1▸(hs.2 1 (by omega)).2)
  show vok wd (bLe .i64 (w0 a 0) (w0 a 1))=true
  rw[hx,hy,bZZ x1 y1];exact bYB (Nat.and_lt_two_pow _ y2)
 ·have hl:(w.length:Int)=1:=hl
  have e0:=bX2 hf (i:=0) (by omega)
  have h:=bZW (e0▸(hs.2 0 (by omega)).2)
  show vok wd (p2 wd-1-w0 a 0)=true
  exact bYD (by omega)
 ·have hv:(if vok wd v=true then (0:Int)else 2)=0:=hv
  show vok wd v=true
  split at hv
  ·assumption
  ·cases hv
theorem aZS (op:Int):aOs op<=3:=by
 unfold aOs
 split
 ·omega
 ·split
  ·omega
  ·split <;> omega
def nv1 (lv:List Int)(nodes:List Nd)(acc:List Int)(x:Nd):Int:=if x.1=1 then w0 lv x.2.2.2.toNat else apS x.1 x.2.1 x.2.2.2 (x.2.2.1.map (aKu nodes)) (x.2.2.1.map fun a=>w0 acc a.toNat)
def nvG (lv:List Int)(nodes:List Nd):List Nd->List Int->List Int
 | [],acc=>acc
 | x :: r,acc=>nvG lv nodes r (acc++[nv1 lv nodes acc x])
theorem bYI (lv:List Int)(nodes:List Nd)(x:Nd)(r:List Nd)(acc:List Int):nvG lv nodes (x :: r) acc=nvG lv nodes r (acc++[nv1 lv nodes acc x]):=rfl
def LV (lw lv:List Int):Prop:=lv.length=lw.length∧∀ i,i<lw.length->vok (w0 lw i) (w0 lv i)=true
theorem bZ6 {l:List Int}{i:Nat}(h:i<l.length):w0 l i=l[i]:=by unfold w0;rw[List.getElem?_eq_getElem h];rfl
theorem bYq {α:Type}{l:List α}{f:α->Int}{i:Nat}(h:i<l.length):w0 (l.map f) i=f l[i]:=by rw[bZ6 (by simpa using h),List.getElem_map]
theorem cCT {l:List Int}{x:Int}{i:Nat}(h:i<l.length):w0 (l++[x]) i=w0 l i:=by unfold w0;rw[List.getElem?_append_left h]
theorem cB9 (l:List Int)(x:Int):w0 (l++[x]) l.length=x:=by unfold w0;rw[List.getElem?_append_right (by omega)];simp
theorem bYp {lw:List Int}{op wd v:Int}(h:op≠1):aJg [] op wd v=aJg lw op wd v:=by
 unfold aJg;rw[if_neg h,if_neg h]
structure VI (lw:List Int) (nodes:List Nd) (i:Nat) (acc:List Int):Prop where
 len:acc.length=i
 wok:WOK nodes i
 fit:∀ j,j<i->vok (aKu nodes j) (w0 acc j)=true
theorem bZG {lw:List Int}{nodes:List Nd}{i:Nat}{acc args:List Int}(h:VI lw nodes i acc)(ho:aNS i args=false):VS (args.map (aKu nodes)) (args.map fun x=>w0 acc x.toNat):=by
 refine⟨by simp,fun j hj=>?_⟩
 have hj:j<args.length:=by simpa using hj
 rw[bYq hj,bYq hj]
 have:=List.any_eq_false.1 ho _ (List.getElem_mem hj)
 have hx:0<=args[j]∧args[j]<=(i:Int)-1:=by simpa using this
 refine⟨of_decide_eq_true (h.wok _ hx.1 hx.2),?_⟩
 have:=h.fit args[j].toNat (by omega)
 rwa [show ((args[j].toNat:Nat):Int)=args[j] by omega]at this
theorem cCa {nodes:List Nd}{x:Nd}{r:List Nd}{i:Nat}(h:nodes.drop i=x :: r):aKu nodes i=x.2.1:=by
 have hl:=(aAh h).1
 rw[aI8 hl]at h
 injection h with h2 _
 unfold aKu
 rw[Int.toNat_natCast,List.getElem?_eq_getElem hl,h2]
 rfl
theorem cB5 {lw lv:List Int}{nodes:List Nd}{i:Nat}{acc:List Int}(hL:LV lw lv)(h:VI lw nodes i acc){x:Nd}(hc:aJQ lw nodes i x=0):vok x.2.1 (nv1 lv nodes acc x)=true:=by
 obtain⟨h1,h2,h3,h4,h5,h6⟩:=aPs hc
 unfold nv1
 by_cases c:x.1=1
 ·rw[if_pos c]
  rw[c]at h5
  have h5:(if 0<=x.2.2.2∧x.2.2.2<=(lw.length:Int)-1 then (if lw[x.2.2.2.toNat]? = some x.2.1 then (0:Int)else 25)else 6)=0:=h5
  split at h5
  ·rename_i hb
   split at h5
   ·rename_i he
    have:=hL.2 x.2.2.2.toNat (by omega)
    unfold w0 at this ⊢
    rw[he]at this
    exact this
   ·cases h5
  ·cases h5
 ·rw[if_neg c]
  exact cC6 10 h1 c h2 (by rw[List.length_map];exact h3) ((bYp c).trans h5) h6 (bZG h h4)
theorem bZH {lw lv:List Int}{nodes:List Nd}{i:Nat}{acc:List Int}(hL:LV lw lv)(h:VI lw nodes i acc){x:Nd}{r:List Nd}(hd:nodes.drop i=x :: r)(hc:aJQ lw nodes i x=0):VI lw nodes (i+1) (acc++[nv1 lv nodes acc x]):=by
 refine⟨by simp[h.len],aQn hd (aPs hc).2.1 h.wok,fun j hj=>?_⟩
 by_cases e:j=i
 ·subst e
  rw[cCa hd,<- h.len,cB9]
  exact cB5 hL h hc
 ·rw[cCT (by rw[h.len];omega)]
  exact h.fit j (by omega)
theorem cAX {lw lv:List Int}{nodes:List Nd}(hL:LV lw lv):∀ (r:List Nd) (i:Nat) (acc:List Int),i<=nodes.length->nodes.drop i=r->VI lw nodes i acc->aGZ lw nodes i r=0->VI lw nodes nodes.length (nvG lv nodes r acc)
 | [],i,acc,hi,hd,h,hc=>by
  have h1:=List.drop_eq_nil_iff.1 hd
  have e:i=nodes.length:=by omega
  unfold nvG
  rw[<- e];exact h
 | x :: r,i,acc,hi,hd,h,hc=>by
  rw[aIL,f1_0]at hc
  rw[bYI]
  exact cAX hL r (i+1) _ (aAh hd).1 (aAh hd).2.2 (bZH hL h hd hc.1) hc.2
theorem cDP (lw:List Int)(nodes:List Nd):VI lw nodes 0 []:=⟨rfl,fun a h0 h1=>by omega,fun j hj=>by omega⟩
theorem cCP {lw lv:List Int}(hL:LV lw lv){nodes:List Nd}(hc:aGZ lw nodes 0 nodes=0):(nvG lv nodes nodes []).length=nodes.length∧∀ j,j<nodes.length->vok (aKu nodes j) (w0 (nvG lv nodes nodes []) j)=true:=
 have h:=cAX hL nodes 0 [] (Nat.zero_le _) rfl (cDP lw nodes) hc
 ⟨h.len,h.fit⟩
theorem aOj {lw:List Int}{nodes:List Nd}(h:aQR lw nodes=0):lw.length<=40∧lw.all wOK=true∧nodes.length<=400∧aGZ lw nodes 0 nodes=0:=by
 unfold aQR at h
 split at h
 ·cases h
 ·split at h
  ·split at h
   ·cases h
   ·exact⟨by omega,by assumption,by omega,h⟩
  ·cases h
abbrev aAp:=ByteArray×Int
abbrev aAP:=ByteArray×Int×Int×Int×Int
abbrev WrT:=Int×Int×Int
abbrev aA1:=ByteArray×Int×List (Int×Int×Int)
abbrev aCE:=Int×List Int
abbrev KD (X:Type):=ByteArray->List aAp->List aAP->List Nd->List aA1->List aAp->List aCE->X
def SZ (N:Nat)(s:ByteArray):Prop:=s.size<N∧s.size<=9223372036854775807
def aNm (nodes:List Nd)(n:Int):Bool:=decide (0<=n∧n<=(nodes.length:Int)-1)
def aFw (nodes:List Nd)(n:Int):Bool:=aNm nodes n&&decide (aKu nodes n=1)
def ewd (els:List aAP)(e:Int):Int:=((els[e.toNat]?).map (·.2.2.1)).getD 0
def aKd (els:List aAP)(nodes:List Nd)(x:WrT):Int:=f1 (if 0<=x.1∧x.1<=(els.length:Int)-1 then 0 else 6) (f1 (if (aFw nodes x.2.1&&aNm nodes x.2.2)=true then 0 else 9) (if aKu nodes x.2.2=ewd els x.1 then 0 else 25))
def aD3 (els:List aAP)(nodes:List Nd):List WrT->Int
 | []=>0
 | x :: r=>f1 (aKd els nodes x) (aD3 els nodes r)
def aRj (S:List ByteArray)(els:List aAP)(nodes:List Nd)(x:aA1):Int:=f1 (f1 (aNU S x.1) (f1 (if aFw nodes x.2.1=true then 0 else 9) (if x.2.2.length<=16 then 0 else 8))) (aD3 els nodes x.2.2)
def aFP (els:List aAP)(nodes:List Nd):List ByteArray->List aA1->Int
 | _,[]=>0
 | S,x :: r=>f1 (aRj S els nodes x) (aFP els nodes (x.1 :: S) r)
def bIJ (nodes:List Nd)(S:List ByteArray)(x:aAp):Int:=f1 (aNU S x.1) (if aNm nodes x.2=true then 0 else 9)
def aHW (nodes:List Nd):List ByteArray->List aAp->Int
 | _,[]=>0
 | S,x :: r=>f1 (bIJ nodes S x) (aHW nodes (x.1 :: S) r)
def aRg (S:List ByteArray)(x:aAp):Int:=f1 (aNU S x.1) (if wOK x.2=true then 0 else 2)
def aFr:List ByteArray->List aAp->Int
 | _,[]=>0
 | S,x :: r=>f1 (aRg S x) (aFr (x.1 :: S) r)
def aLo:List ByteArray->List aAp->List ByteArray
 | S,[]=>S
 | S,x :: r=>aLo (x.1 :: S) r
def aPr (S:List ByteArray)(x:aAP):Int:=f1 (f1 (aNU S x.1) (f1 (if 0<=x.2.1∧x.2.1<=1 then 0 else 15) (if wOK x.2.2.1=true then 0 else 2))) (if vok x.2.2.1 x.2.2.2.1=true∧(0<=x.2.2.2.2∧x.2.2.2.2<=3)then 0 else 2)
def aFn:List ByteArray->List aAP->Int
 | _,[]=>0
 | S,x :: r=>f1 (aPr S x) (aFn (x.1 :: S) r)
def aHs (nr:Int)(l:List Int):Nat->List Int->Int
 | _,[]=>0
 | i,x :: r=>f1 (f1 (if 0<=x∧x<=nr-1 then 0 else 6) (if (l.take i).contains x=true then 23 else 0)) (aHs nr l (i+1) r)
def aWx (nr:Int)(x:aCE):Int:=f1 (if 0<=x.1∧x.1<=3 then 0 else 15) (f1 (if 1<=x.2.length∧x.2.length<=16 then 0 else 10) (aHs nr x.2 0 x.2))
def aG7 (nr:Int):List aCE->Int
 | []=>0
 | x :: r=>f1 (aWx nr x) (aG7 nr r)
def aIV (ins:List aAp)(els:List aAP):List Int:=ins.map (·.2)++els.map (·.2.2.1)
def le8 (n m:Nat):Int:=if n<=m then 0 else 8
def aHq (nm:ByteArray)(ins:List aAp)(els:List aAP)(nodes:List Nd)(rules:List aA1)(outs:List aAp)(attrs:List aCE):Int:=
 f1 (f1 (if nmB nm=true then 0 else 4) (le8 ins.length 12)) (f1 (aFr [] ins) (f1 (le8 (ins.length+els.length) 40) (f1 (aFn (aLo [] ins) els) (f1 (aQR (aIV ins els) nodes) (f1 (le8 rules.length 16) (f1 (aFP els nodes [] rules) (f1 (le8 outs.length 12) (f1 (aHW nodes [] outs) (f1 (le8 attrs.length 16) (aG7 rules.length attrs))))))))))
theorem bAl (N:Nat)(n:Int)(k:Bool->Option R):aFc N n k=k (wOK n):=by unfold aFc wOK;rw[aG2]
theorem aNL (N:Nat)(nm:ByteArray)(ins:List aAp)(els:List aAP)(nodes:List Nd)(rules:List aA1)(outs:List aAp)(attrs:List aCE)(hn:nodes.length<=1000000)(n:Int)(k:Bool->Option R):aEQ N nm ins els nodes rules outs attrs n k=k (aNm nodes n):=by
 unfold aEQ aNm;rw[aDt (by omega) (by omega),aG2]
theorem aM8 {nodes:List Nd}{n:Int}(h:aNm nodes n=true):∃ x,at? nodes n=some x∧x.2.1=aKu nodes n:=by
 have h:=of_decide_eq_true h
 obtain⟨a,rfl⟩:∃ a:Nat,n=a:=⟨n.toNat,by omega⟩
 have ha:a<nodes.length:=by omega
 refine⟨_,aHb ha,?_⟩
 unfold aKu
 rw[Int.toNat_natCast,List.getElem?_eq_getElem ha];rfl
theorem aSV (N:Nat)(nm:ByteArray)(ins:List aAp)(els:List aAP)(nodes:List Nd)(rules:List aA1)(outs:List aAp)(attrs:List aCE)(hn:nodes.length<=1000000)(n:Int)(k:Bool->Option R):aDv N nm ins els nodes rules outs attrs n k=k (aFw nodes n):=by
 unfold aDv aFw
 rw[aNL N nm ins els nodes rules outs attrs hn]
 cases h:aNm nodes n
 ·rfl
 ·obtain⟨x,h1,h2⟩:=aM8 h
  rw[cond_true,h1,aAe,h2];rfl
theorem bIN (N:Nat)(hN:10<=N)(nm:ByteArray)(ins:List aAp)(els:List aAP)(nodes:List Nd)(rules:List aA1)(outs:List aAp)(attrs:List aCE)(hn:nodes.length<=1000000)(he:els.length<=1000000)(e w v:Int)(k:Int->Option R) :
  aFJ N nm ins els nodes rules outs attrs e w v k=k (aKd els nodes (e,w,v)):=by
 unfold aFJ aKd
 rw[aDt (by omega) (by omega),aG2,aCK,aSV N nm ins els nodes rules outs attrs hn]
 by_cases c0:0<=e∧e<=(els.length:Int)-1
 ·rw[decide_eq_true c0,if_pos rfl,if_pos c0]
  cases c1:aFw nodes w
  ·rw[cond_false,aCK,aGL N hN];rfl
  ·rw[cond_true,aNL N nm ins els nodes rules outs attrs hn,aCK]
   cases c2:aNm nodes v
   ·rw[aGL N hN];rfl
   ·rw[aGL N hN]
    obtain⟨x,h1,h2⟩:=aM8 c2
    obtain⟨a,rfl⟩:∃ a:Nat,e=a:=⟨e.toNat,by omega⟩
    have ha:a<els.length:=by omega
    have:ewd els (a:Int)=els[a].2.2.1:=by
     unfold ewd
     rw[Int.toNat_natCast,List.getElem?_eq_getElem ha];rfl
    rw[if_pos rfl,aGq,aAc (by simp),h1,aAe,aHb ha,aAe,aCK,h2,this]
    show _=k (if aKu nodes v=els[a].2.2.1 then 0 else 25)
    by_cases c3:aKu nodes v=els[a].2.2.1 <;> simp[c3]
 ·rw[decide_eq_false c0,if_neg c0]
  cases c1:aFw nodes w
  ·rw[cond_false,aCK,aGL N hN];rfl
  ·rw[cond_true,aNL N nm ins els nodes rules outs attrs hn,aCK,aGL N hN];rfl
theorem aLB (N:Nat)(hN:10<=N)(k0:Int->Int->KD (Option R))(k1:KD (Option R))(nm:ByteArray)(ins:List aAp)(els:List aAP)(nodes:List Nd)(rules:List aA1)(outs:List aAp)(attrs:List aCE)(hn:nodes.length<=1000000)(he:els.length<=1000000)(l:List WrT)(hl:l.length<=1000000):∀ (r:List WrT) (n i:Nat),l.drop i=r->r.length<n ->
  ∃ j:Int,aAs N k0 k1 n l l.length i nm ins els nodes rules outs attrs=if aD3 els nodes r=0 then k1 nm ins els nodes rules outs attrs else k0 j (aD3 els nodes r) nm ins els nodes rules outs attrs
 | [],n,i,h,hn=>by
  obtain⟨n,rfl⟩:=sc hn
  exact⟨0,by rw[aAs,aAc (aAm h)];rfl⟩
 | x :: r,n,i,h,hr=>by
  obtain⟨n,rfl⟩:=sc hr
  obtain⟨h1,h2,h3⟩:=aAh h
  obtain⟨j,ih⟩:=aLB N hN k0 k1 nm ins els nodes rules outs attrs hn he l hl r n (i+1) h3 (by simp at hr;omega)
  rw[aAs,aAd (by omega),h2,aAe]
  unfold aC7
  rw[bIN N hN nm ins els nodes rules outs attrs hn he,show aD3 els nodes (x :: r)=f1 (aKd els nodes x) (aD3 els nodes r)from rfl]
  dsimp only
  by_cases c:aKd els nodes x=0
  ·refine⟨j,?_⟩
   have c':aKd els nodes (x.1,x.2.1,x.2.2)=0:=c
   rw[aAc (by simp[c']),aAl (by omega),ih,c,aGq]
  ·refine⟨i,?_⟩
   have c':aKd els nodes (x.1,x.2.1,x.2.2)≠0:=c
   rw[aAd c',aKn c,if_neg c]
theorem bPs (N:Nat)(hN:1000<=N)(nm:ByteArray)(ins:List aAp)(els:List aAP)(nodes:List Nd)(rules:List aA1)(outs:List aAp)(attrs:List aCE)(hn:nodes.length<=1000000)(he:els.length<=1000000)(i:Int)(x:aA1)(hx:SZ N x.1)(hw:x.2.2.length<=1000000)(hwN:x.2.2.length<N)(c:Nat){m:NM}{S:List ByteArray}(hm:KN m S)(k:Int->Nat->NM->KD (Option R)) :
  aCN N i x.1 x.2.1 x.2.2 c m nm ins els nodes rules outs attrs k=k (aRj S els nodes x) (aGp .s x.1 c m) (mpS x.1 c m) nm ins els nodes rules outs attrs:=by
 unfold aCN aRj
 rw[aOm N (by omega) x.1 c hx.1 hx.2 hm,aSV N nm ins els nodes rules outs attrs hn,aCK,aCK,aM0 N (by omega)]
 unfold aBI
 obtain⟨j,e⟩:=aLB N (by omega) (fun y8 y9 y10 y11 y12 y13 y14 y15 y16=>aAY N [f1 (aNU S x.1) (f1 (if aFw nodes x.2.1=true then 0 else 9) (if decide (((x.2.2.length:Nat):Int)<=16)=true then 0 else 8)),y9] fun y17=>k y17 (aGp .s x.1 c m) (mpS x.1 c m) y10 y11 y12 y13 y14 y15 y16)
  (fun z19 z20 z21 z22 z23 z24 z25=>aAY N [f1 (aNU S x.1) (f1 (if aFw nodes x.2.1=true then 0 else 9) (if decide (((x.2.2.length:Nat):Int)<=16)=true then 0 else 8)),0] fun y17=>k y17 (aGp .s x.1 c m) (mpS x.1 c m) z19 z20 z21 z22 z23 z24 z25)
  nm ins els nodes rules outs attrs hn he x.2.2 hw x.2.2 N 0 rfl hwN
 rw[Int.natCast_zero]at e
 refine e.trans ?_
 have q:(if decide (((x.2.2.length:Nat):Int)<=16)=true then (0:Int)else 8)=if x.2.2.length<=16 then 0 else 8:=by
  by_cases c:x.2.2.length<=16
  · rw[if_pos c,decide_eq_true (by omega)];rfl
  · rw[if_neg c,decide_eq_false (by omega)];rfl
 rw[q]
 by_cases c:aD3 els nodes x.2.2=0
 ·rw[if_pos c,aGL N (by omega),c]
 ·rw[if_neg c,aGL N (by omega)]
theorem aMb (N:Nat)(hN:1000<=N)(k0:Int->Int->Nat->NM->KD (Option R))(k1:Nat->NM->KD (Option R))(nm:ByteArray)(ins:List aAp)(els:List aAP)(nodes:List Nd)(rules:List aA1)(outs:List aAp)(attrs:List aCE)(hn:nodes.length<=1000000)(he:els.length<=1000000)(l:List aA1)(hl:l.length<=1000000)
  (hs:∀ x,x∈l->SZ N x.1∧x.2.2.length<=1000000∧x.2.2.length<N):∀ (r:List aA1) (n i c:Nat) (m:NM) (S:List ByteArray),l.drop i=r->r.length<n->KN m S ->
  ∃ (j:Int) (c':Nat) (m':NM),aAA N k0 k1 n l l.length i c m nm ins els nodes rules outs attrs=if aFP els nodes S r=0 then k1 c' m' nm ins els nodes rules outs attrs else k0 j (aFP els nodes S r) c' m' nm ins els nodes rules outs attrs
 | [],n,i,c,m,S,h,hn,hm=>by
  obtain⟨n,rfl⟩:=sc hn
  exact⟨0,c,m,by rw[aAA,aAc (aAm h)];rfl⟩
 | x :: r,n,i,c,m,S,h,hr,hm=>by
  obtain⟨n,rfl⟩:=sc hr
  obtain⟨h1,h2,h3⟩:=aAh h
  have hx:=hs x (List.mem_of_mem_drop (h▸List.mem_cons_self:x∈l.drop i))
  obtain⟨j,c',m',ih⟩:=aMb N hN k0 k1 nm ins els nodes rules outs attrs hn he l hl hs r n (i+1) (aGp .s x.1 c m) (mpS x.1 c m) (x.1 :: S) h3 (by simp at hr;omega) (aOa hm x.1 c)
  rw[aAA,aAd (by omega),h2,aAe,bPs N hN nm ins els nodes rules outs attrs hn he i x hx.1 hx.2.1 hx.2.2 c hm,show aFP els nodes S (x :: r)=f1 (aRj S els nodes x) (aFP els nodes (x.1 :: S) r)from rfl]
  by_cases q:aRj S els nodes x=0
  · refine⟨j,c',m',?_⟩
    rw[aAc (by simp[q]),aAl (by omega),ih,q,aGq]
  · refine⟨i,aGp .s x.1 c m,mpS x.1 c m,?_⟩
    rw[aAd q,aKn q,if_neg q]
theorem aO3 (N:Nat)(hN:1000<=N)(k0:Int->Int->Nat->NM->KD (Option R))(k1:Nat->NM->KD (Option R))(nm:ByteArray)(ins:List aAp)(els:List aAP)(nodes:List Nd)(rules:List aA1)(outs:List aAp)(attrs:List aCE)(hn:nodes.length<=1000000)(l:List aAp)(hl:l.length<=1000000)
  (hs:∀ x,x∈l->SZ N x.1):∀ (r:List aAp) (n i c:Nat) (m:NM) (S:List ByteArray),l.drop i=r->r.length<n->KN m S ->
  ∃ (j:Int) (c':Nat) (m':NM),aAw N k0 k1 n l l.length i c m nm ins els nodes rules outs attrs=if aHW nodes S r=0 then k1 c' m' nm ins els nodes rules outs attrs else k0 j (aHW nodes S r) c' m' nm ins els nodes rules outs attrs
 | [],n,i,c,m,S,h,hn,hm=>by
  obtain⟨n,rfl⟩:=sc hn
  exact⟨0,c,m,by rw[aAw,aAc (aAm h)];rfl⟩
 | x :: r,n,i,c,m,S,h,hr,hm=>by
  obtain⟨n,rfl⟩:=sc hr
  obtain⟨h1,h2,h3⟩:=aAh h
  have hx:=hs x (List.mem_of_mem_drop (h▸List.mem_cons_self:x∈l.drop i))
  obtain⟨j,c',m',ih⟩:=aO3 N hN k0 k1 nm ins els nodes rules outs attrs hn l hl hs r n (i+1) (aGp .s x.1 c m) (mpS x.1 c m) (x.1 :: S) h3 (by simp at hr;omega) (aOa hm x.1 c)
  rw[aAw,aAd (by omega),h2,aAe]
  unfold aDR
  rw[aOm N (by omega) x.1 c hx.1 hx.2 hm,aNL N nm ins els nodes rules outs attrs hn,aCK,aGL N (by omega),show aHW nodes S (x :: r)=f1 (bIJ nodes S x) (aHW nodes (x.1 :: S) r)from rfl]
  show ∃ j c' m',(bif decide (bIJ nodes S x≠0)then _ else _)=_
  by_cases q:bIJ nodes S x=0
  · refine⟨j,c',m',?_⟩
    rw[aAc (by simp[q]),aAl (by omega),ih,q,aGq]
  · refine⟨i,aGp .s x.1 c m,mpS x.1 c m,?_⟩
    rw[aAd q,aKn q,if_neg q];rfl
theorem aMa (N:Nat)(hN:1000<=N)(k0:Int->Int->Nat->NM->Nat->NM->Option R)(k1:Nat->NM->Nat->NM->Option R)(l:List aAp)(hl:l.length<=1000000)(hs:∀ x,x∈l->SZ N x.1):∀ (r:List aAp) (n i c c2:Nat) (m m2:NM) (S:List ByteArray),l.drop i=r->r.length<n->KN m S->KN m2 S ->
  ∃ (j:Int) (c' c2':Nat) (m' m2':NM),(aFr S r=0->KN m' (aLo S r))∧aAB N k0 k1 n l l.length i c m c2 m2=if aFr S r=0 then k1 c' m' c2' m2' else k0 j (aFr S r) c' m' c2' m2'
 | [],n,i,c,c2,m,m2,S,h,hn,hm,hm2=>by
  obtain⟨n,rfl⟩:=sc hn
  exact⟨0,c,c2,m,m2,fun _=>hm,by rw[aAB,aAc (aAm h)];rfl⟩
 | x :: r,n,i,c,c2,m,m2,S,h,hr,hm,hm2=>by
  obtain⟨n,rfl⟩:=sc hr
  obtain⟨h1,h2,h3⟩:=aAh h
  have hx:=hs x (List.mem_of_mem_drop (h▸List.mem_cons_self:x∈l.drop i))
  obtain⟨j,c',c2',m',m2',hk,ih⟩:=aMa N hN k0 k1 l hl hs r n (i+1) (aGp .s x.1 c m) (aGp .s x.1 c2 m2) (mpS x.1 c m) (mpS x.1 c2 m2) (x.1 :: S) h3 (by simp at hr;omega) (aOa hm x.1 c) (aOa hm2 x.1 c2)
  rw[aAB,aAd (by omega),h2,aAe]
  unfold aDS
  rw[aOm N (by omega) x.1 c hx.1 hx.2 hm,aOm N (by omega) x.1 c2 hx.1 hx.2 hm2,bAl,aCK,aM0 N (by omega),show aFr S (x :: r)=f1 (aRg S x) (aFr (x.1 :: S) r)from rfl]
  have e:f1 (aNU S x.1) (f1 (aNU S x.1) (if wOK x.2=true then 0 else 2))=aRg S x:=by
   unfold aRg f1;split <;> simp_all
  rw[e]
  try dsimp only
  by_cases q:aRg S x=0
  ·refine⟨j,c',c2',m',m2',fun hq=>hk (by rwa [q,aGq]at hq),?_⟩
   rw[aAc (by simp[q]),aAl (by omega),ih,q,aGq]
  ·refine⟨i,aGp .s x.1 c m,aGp .s x.1 c2 m2,mpS x.1 c m,mpS x.1 c2 m2,fun hq=>absurd (f1_0.1 hq).1 q,?_⟩
   rw[aAd q,aKn q,if_neg q]
theorem bM5 (N:Nat)(v w:Int)(h0:1<=w)(h:w<=16)(k:Bool->Option R):aF4 N v w k=k (vok w v):=by
 have:=aQ8 w;have:=bDz h
 unfold aF4
 rw[aAd (by omega),aAc (by omega),aVr (by omega) (by omega),aDt (by omega) (by omega),aG2];rfl
theorem bNV (N:Nat)(hN:1000<=N)(i:Int)(x:aAP)(hx:SZ N x.1)(c:Nat){m:NM}{S:List ByteArray}(hm:KN m S)(k:Int->Nat->NM->Option R):aCO N i x.1 x.2.1 x.2.2.1 x.2.2.2.1 x.2.2.2.2 c m k=k (aPr S x) (aGp .s x.1 c m) (mpS x.1 c m):=by
 unfold aCO aPr
 rw[aOm N (by omega) x.1 c hx.1 hx.2 hm,aG2,aCK,bAl,aCK,aM0 N (by omega)]
 have e:(if decide (0<=x.2.1∧x.2.1<=1)=true then (0:Int)else 15)=if 0<=x.2.1∧x.2.1<=1 then 0 else 15:=by
  by_cases q:0<=x.2.1∧x.2.1<=1
  ·rw[decide_eq_true q,if_pos rfl,if_pos q]
  ·rw[decide_eq_false q,if_neg q];rfl
 rw[e]
 by_cases q:f1 (aNU S x.1) (f1 (if 0<=x.2.1∧x.2.1<=1 then 0 else 15) (if wOK x.2.2.1=true then 0 else 2))=0
 ·rw[q,aAc (by simp),aGq]
  have hw:wOK x.2.2.1=true:=by
   simp only[f1_0]at q
   have:=q.2.2
   split at this
   ·assumption
   ·cases this
  have hb:=of_decide_eq_true hw
  rw[bM5 N _ _ hb.1 hb.2]
  cases hv:vok x.2.2.1 x.2.2.2.1
  ·rw[cond_false,aCK,if_neg (by simp),if_neg (by simp)]
  ·rw[cond_true,aG2,aCK]
   by_cases q2:0<=x.2.2.2.2∧x.2.2.2.2<=3
   ·rw[decide_eq_true q2,if_pos rfl,if_pos ⟨rfl,q2⟩]
   ·rw[decide_eq_false q2,if_neg (by simp),if_neg (fun h=>q2 h.2)]
 ·rw[aAd q,aKn q]
theorem aMu (N:Nat)(hN:1000<=N)(k0:Int->Int->Nat->NM->Option R)(k1:Nat->NM->Option R)(l:List aAP)(hl:l.length<=1000000)(hs:∀ x,x∈l->SZ N x.1):∀ (r:List aAP) (n i c:Nat) (m:NM) (S:List ByteArray),l.drop i=r->r.length<n->KN m S ->
  ∃ (j:Int) (c':Nat) (m':NM),aAt N k0 k1 n l l.length i c m=if aFn S r=0 then k1 c' m' else k0 j (aFn S r) c' m'
 | [],n,i,c,m,S,h,hn,hm=>by
  obtain⟨n,rfl⟩:=sc hn
  exact⟨0,c,m,by rw[aAt,aAc (aAm h)];rfl⟩
 | x :: r,n,i,c,m,S,h,hr,hm=>by
  obtain⟨n,rfl⟩:=sc hr
  obtain⟨h1,h2,h3⟩:=aAh h
  have hx:=hs x (List.mem_of_mem_drop (h▸List.mem_cons_self:x∈l.drop i))
  obtain⟨j,c',m',ih⟩:=aMu N hN k0 k1 l hl hs r n (i+1) (aGp .s x.1 c m) (mpS x.1 c m) (x.1 :: S) h3 (by simp at hr;omega) (aOa hm x.1 c)
  rw[aAt,aAd (by omega),h2,aAe,bNV N hN i x hx c hm,show aFn S (x :: r)=f1 (aPr S x) (aFn (x.1 :: S) r)from rfl]
  by_cases q:aPr S x=0
  ·refine⟨j,c',m',?_⟩
   rw[aAc (by simp[q]),aAl (by omega),ih,q,aGq]
  ·refine⟨i,aGp .s x.1 c m,mpS x.1 c m,?_⟩
   rw[aAd q,aKn q,if_neg q]
theorem aJt (N:Nat)(k0:Int->Option R)(k1:Option R)(l:List Int)(hl:l.length<=1000000)(v:Int):∀ (r:List Int) (n i:Nat),l.drop i=r->r.length<n ->
  ∃ j:Nat,aBy N k0 k1 n l v l.length i=if r.contains v=true then k0 j else k1
 | [],n,i,h,hn=>by
  obtain⟨n,rfl⟩:=sc hn
  exact⟨0,by rw[aBy,aAc (aAm h)];rfl⟩
 | x :: r,n,i,h,hn=>by
  obtain⟨n,rfl⟩:=sc hn
  obtain⟨h1,h2,h3⟩:=aAh h
  obtain⟨j,ih⟩:=aJt N k0 k1 l hl v r n (i+1) h3 (by simp at hn;omega)
  rw[aBy,aAd (by omega),h2,aAe,List.contains_cons]
  by_cases q:v=x
  ·exact⟨i,by rw[aAd q,if_pos (by simp[q])]⟩
  ·refine⟨j,?_⟩
   rw[aAc q,aAl (by omega),ih]
   simp[q]
theorem aPN (N:Nat)(l:List Int)(hl:l.length<=1000000)(hN:l.length<N)(v:Int)(k:Bool->Option R):aB7 N l v k=k (l.contains v):=by
 unfold aB7 aEz
 obtain⟨j,this⟩:=aJt N (fun y1=>k (decide (0<=y1))) (k (decide ((0:Int)<=-1))) l hl v l N 0 rfl hN
 rw[Int.natCast_zero]at this
 rw[this]
 cases l.contains v
 ·rfl
 ·rw[if_pos rfl,decide_eq_true (by omega)]
theorem aMq (N:Nat)(hN:1000<=N)(k0:Int->Int->KD (Int->List Int->Option R))(k1:KD (Int->List Int->Option R))(nm:ByteArray)(ins:List aAp)(els:List aAP)(nodes:List Nd)(rules:List aA1)(outs:List aAp)(attrs:List aCE)(hr:rules.length<=1000000)(kd:Int)(l:List Int)(hl:l.length<=1000000)(hlN:l.length<N):∀ (r:List Int) (n i:Nat),l.drop i=r->r.length<n ->
  ∃ j:Int,aAu N k0 k1 n l l.length i nm ins els nodes rules outs attrs kd l=if aHs rules.length l i r=0 then k1 nm ins els nodes rules outs attrs kd l else k0 j (aHs rules.length l i r) nm ins els nodes rules outs attrs kd l
 | [],n,i,h,hn=>by
  obtain⟨n,rfl⟩:=sc hn
  exact⟨0,by rw[aAu,aAc (aAm h)];rfl⟩
 | x :: r,n,i,h,hn=>by
  obtain⟨n,rfl⟩:=sc hn
  obtain⟨h1,h2,h3⟩:=aAh h
  obtain⟨j,ih⟩:=aMq N hN k0 k1 nm ins els nodes rules outs attrs hr kd l hl hlN r n (i+1) h3 (by simp at hn;omega)
  have e:(if decide (0<=x∧x<=(rules.length:Int)-1)=true then (0:Int)else 6)=if 0<=x∧x<=(rules.length:Int)-1 then 0 else 6:=by
   by_cases q:0<=x∧x<=(rules.length:Int)-1
   ·rw[decide_eq_true q,if_pos rfl,if_pos q]
   ·rw[decide_eq_false q,if_neg q];rfl
  have e2:(if (!(l.take i).contains x)=true then (0:Int)else 23)=if (l.take i).contains x=true then 23 else 0:=by cases (l.take i).contains x <;> rfl
  rw[aAu,aAd (by omega),h2,aAe]
  unfold aC3
  rw[aDt (by omega) (by omega),aG2,aCK,e,bBp (by omega),cond_true,Int.toNat_natCast,List.drop_zero,aPN N _ (by rw[List.length_take];omega) (by rw[List.length_take];omega),aCK,e2,aGL N (by omega),
   show aHs rules.length l i (x :: r)=f1 (f1 (if 0<=x∧x<=(rules.length:Int)-1 then 0 else 6) (if (l.take i).contains x=true then 23 else 0)) (aHs rules.length l (i+1) r)from rfl]
  generalize f1 (if 0<=x∧x<=(rules.length:Int)-1 then (0:Int)else 6) (if (l.take i).contains x=true then 23 else 0)=z
  try dsimp only
  by_cases q:z=0
  ·refine⟨j,?_⟩
   rw[aAc (by simp[q]),aAl (by omega),ih,q,aGq]
  ·refine⟨i,?_⟩
   rw[aAd q,aKn q,if_neg q]
theorem bO2 (N:Nat)(hN:1000<=N)(nm:ByteArray)(ins:List aAp)(els:List aAP)(nodes:List Nd)(rules:List aA1)(outs:List aAp)(attrs:List aCE)(hr:rules.length<=1000000)(i:Int)(x:aCE)(hl:x.2.length<=1000000)(hlN:x.2.length<N)(k:Int->KD (Option R)) :
  aCF N i x.1 x.2 nm ins els nodes rules outs attrs k=k (aWx rules.length x) nm ins els nodes rules outs attrs:=by
 unfold aCF aBS aWx
 let K:Int->ByteArray->List aAp->List aAP->List Nd->List aA1->List aAp->List aCE->Int->List Int->Option R:=fun y2 y3 y4 y5 y6 y7 y8 y9 y10 y11=>(aAF N y10 0 3 (fun y12=>(aAj N y12 15 (fun y13=>(aAF N ((y11.length:Nat):Int) 1 16 (fun y14=>(aAj N y14 10 (fun y15=>(aAY N [y13,y15,y2] (fun y16=>(k y16 y3 y4 y5 y6 y7 y8 y9)))))))))))
 obtain⟨j,e⟩:=aMq N hN (fun y1=>K) (K 0) nm ins els nodes rules outs attrs hr x.1 x.2 hl hlN x.2 N 0 rfl hlN
 rw[Int.natCast_zero]at e
 refine e.trans ?_
 have hK:∀ z,K z nm ins els nodes rules outs attrs x.1 x.2=k (f1 (if 0<=x.1∧x.1<=3 then 0 else 15) (f1 (if 1<=x.2.length∧x.2.length<=16 then 0 else 10) z)) nm ins els nodes rules outs attrs:=by
  intro z
  show aAF N x.1 0 3 _=_
  rw[aG2,aCK,aG2,aCK,aM0 N (by omega)]
  have e1:(if decide (0<=x.1∧x.1<=3)=true then (0:Int)else 15)=if 0<=x.1∧x.1<=3 then 0 else 15:=by
   by_cases q:0<=x.1∧x.1<=3
   ·rw[decide_eq_true q,if_pos rfl,if_pos q]
   ·rw[decide_eq_false q,if_neg q];rfl
  have e2:(if decide (1<=((x.2.length:Nat):Int)∧((x.2.length:Nat):Int)<=16)=true then (0:Int)else 10)=if 1<=x.2.length∧x.2.length<=16 then 0 else 10:=by
   by_cases q:1<=x.2.length∧x.2.length<=16
   ·rw[decide_eq_true (by omega),if_pos rfl,if_pos q]
   ·rw[decide_eq_false (by omega),if_neg q];rfl
  rw[e1,e2]
 by_cases c:aHs rules.length x.2 0 x.2=0
 ·rw[if_pos c,hK,c]
 ·rw[if_neg c,hK]
theorem aMM (N:Nat)(hN:1000<=N)(k0:Int->Int->KD (Option R))(k1:KD (Option R))(nm:ByteArray)(ins:List aAp)(els:List aAP)(nodes:List Nd)(rules:List aA1)(outs:List aAp)(attrs:List aCE)(hr:rules.length<=1000000)(l:List aCE)(hl:l.length<=1000000)(hs:∀ x,x∈l->x.2.length<=1000000∧x.2.length<N):∀ (r:List aCE) (n i:Nat),l.drop i=r->r.length<n ->
  ∃ j:Int,aAq N k0 k1 n l l.length i nm ins els nodes rules outs attrs=if aG7 rules.length r=0 then k1 nm ins els nodes rules outs attrs else k0 j (aG7 rules.length r) nm ins els nodes rules outs attrs
 | [],n,i,h,hn=>by
  obtain⟨n,rfl⟩:=sc hn
  exact⟨0,by rw[aAq,aAc (aAm h)];rfl⟩
 | x :: r,n,i,h,hn=>by
  obtain⟨n,rfl⟩:=sc hn
  obtain⟨h1,h2,h3⟩:=aAh h
  have hx:=hs x (List.mem_of_mem_drop (h▸List.mem_cons_self:x∈l.drop i))
  obtain⟨j,ih⟩:=aMM N hN k0 k1 nm ins els nodes rules outs attrs hr l hl hs r n (i+1) h3 (by simp at hn;omega)
  rw[aAq,aAd (by omega),h2,aAe,bO2 N hN nm ins els nodes rules outs attrs hr i x hx.1 hx.2,show aG7 rules.length (x :: r)=f1 (aWx rules.length x) (aG7 rules.length r)from rfl]
  by_cases q:aWx rules.length x=0
  ·refine⟨j,?_⟩
   rw[aAc (by simp[q]),aAl (by omega),ih,q,aGq]
  ·refine⟨i,?_⟩
   rw[aAd q,aKn q,if_neg q]
structure DH (N:Nat) (nm:ByteArray) (ins:List aAp) (els:List aAP) (nodes:List Nd) (rules:List aA1) (outs:List aAp) (attrs:List aCE):Prop where
 nm:SZ N nm
 ins:ins.length<=1000000∧ins.length<N∧∀ x,x∈ins->SZ N x.1
 els:els.length<=1000000∧els.length<N∧∀ x,x∈els->SZ N x.1
 nodes:nodes.length<=1000000∧∀ x,x∈nodes->x.2.2.1.length<=1000000∧x.2.2.1.length<N
 rules:rules.length<=1000000∧rules.length<N∧∀ x,x∈rules->SZ N x.1∧x.2.2.length<=1000000∧x.2.2.length<N
 outs:outs.length<=1000000∧outs.length<N∧∀ x,x∈outs->SZ N x.1
 attrs:attrs.length<=1000000∧attrs.length<N∧∀ x,x∈attrs->x.2.length<=1000000∧x.2.length<N
theorem aVk (N:Nat)(k0:KD (List Int->Option R))(nm:ByteArray)(ins:List aAp)(els:List aAP)(nodes:List Nd)(rules:List aA1)(outs:List aAp)(attrs:List aCE)(l:List aAp)(hl:l.length<=1000000):∀ (r:List aAp) (n i:Nat) (acc:List Int),l.drop i=r->r.length<n->acc.length<=i ->
  aDl N k0 n l l.length i nm ins els nodes rules outs attrs acc=k0 nm ins els nodes rules outs attrs (acc++r.map (·.2))
 | [],n,i,acc,h,hn,ha=>by
  obtain⟨n,rfl⟩:=sc hn
  rw[aDl,aAc (aAm h),List.map_nil,List.append_nil]
 | x :: r,n,i,acc,h,hn,ha=>by
  obtain⟨n,rfl⟩:=sc hn
  obtain⟨h1,h2,h3⟩:=aAh h
  rw[aDl,aAd (by omega),h2,aAe,aBs (by omega),cond_true,aAl (by omega),aVk N k0 nm ins els nodes rules outs attrs l hl r n (i+1) (acc++[x.2]) h3 (by simp at hn;omega) (by simp;omega),List.map_cons,List.append_assoc]
  rfl
theorem aXi (N:Nat)(k0:List Int->Option R)(l:List aAP)(hl:l.length<=1000000):∀ (r:List aAP) (n i:Nat) (acc:List Int),l.drop i=r->r.length<n->acc.length+r.length<=3000000 ->
  aDn N k0 n l l.length i acc=k0 (acc++r.map (·.2.2.1))
 | [],n,i,acc,h,hn,ha=>by
  obtain⟨n,rfl⟩:=sc hn
  rw[aDn,aAc (aAm h),List.map_nil,List.append_nil]
 | x :: r,n,i,acc,h,hn,ha=>by
  obtain⟨n,rfl⟩:=sc hn
  obtain⟨h1,h2,h3⟩:=aAh h
  rw[List.length_cons]at ha hn
  rw[aDn,aAd (by omega),h2,aAe,aBs (by omega),cond_true,aAl (by omega),aXi N k0 l hl r n (i+1) (acc++[x.2.2.1]) h3 (by omega) (by rw[List.length_append,List.length_singleton];omega),List.map_cons,List.append_assoc]
  rfl
section
variable {N:Nat} {nm:ByteArray} {ins:List aAp} {els:List aAP} {nodes:List Nd} {rules:List aA1} {outs:List aAp} {attrs:List aCE}
theorem aTh (h:DH N nm ins els nodes rules outs attrs)(k:List Int->Option R):aFI N nm ins els nodes rules outs attrs k=k (aIV ins els):=by
 unfold aFI aIV
 have hi:=h.ins;have he:=h.els
 refine (aVk N _ nm ins els nodes rules outs attrs ins hi.1 ins N 0 [] rfl hi.2.1 (by simp)).trans ?_
 exact aXi N k els he.1 els N 0 _ rfl he.2.1 (by rw[List.nil_append,List.length_map];omega)
theorem aJM {K:Option R}{k0:Int->Int->Option R}{c:Int}{j:Int}:(bif decide (c≠0)then k0 j c else K)=if c=0 then K else k0 j c:=by
 by_cases h:c=0
 ·rw[aAc (by simp[h]),if_pos h]
 ·rw[aAd h,if_neg h]
theorem aOM (n m:Nat)(a b:Int)(ha:a=n)(hb:b=m):(if decide (a<=b)=true then (0:Int)else 8)=le8 n m:=by
 unfold le8
 by_cases h:n<=m
 ·rw[if_pos h,decide_eq_true (by omega)];rfl
 ·rw[if_neg h,decide_eq_false (by omega)];rfl
variable (k0:Int->Int->Option R) (k1:Option R) (M c1 c2 c3 c4:Nat) (m1 m2 m3 m4:NM)
theorem st0 (hN:1000<=N)(h:DH N nm ins els nodes rules outs attrs):aAa N k0 k1 (M+1) 0 nm ins els nodes rules outs attrs c1 m1 c2 m2 c3 m3 c4 m4=if f1 (if nmB nm=true then 0 else 4) (le8 ins.length 12)=0 then aAa N k0 k1 M 1 nm ins els nodes rules outs attrs c1 m1 c2 m2 c3 m3 c4 m4 else k0 0 (f1 (if nmB nm=true then 0 else 4) (le8 ins.length 12)):=by
 rw[aAa]
 simp only[Int.reduceLT,Int.reduceEq,decide_true,decide_false,cond_true,cond_false]
 unfold aEv
 rw[bKs N nm h.nm.1 h.nm.2,aCK,aCK,aOM ins.length 12 _ 12 rfl rfl,aGL N (by omega)]
 exact aJM
theorem st1 (hN:1000<=N)(h:DH N nm ins els nodes rules outs attrs)(hm1:KN m1 [])(hm2:KN m2 []):∃ (j:Int) (c1' c2':Nat) (m1' m2':NM),(aFr [] ins=0->KN m1' (aLo [] ins))∧aAa N k0 k1 (M+1) 1 nm ins els nodes rules outs attrs c1 m1 c2 m2 c3 m3 c4 m4=if aFr [] ins=0 then aAa N k0 k1 M 2 nm ins els nodes rules outs attrs c1' m1' c2' m2' c3 m3 c4 m4 else k0 j (aFr [] ins):=by
 rw[aAa]
 simp only[Int.reduceLT,Int.reduceEq,decide_true,decide_false,cond_true,cond_false]
 unfold aEH aCe
 obtain⟨j,c1',c2',m1',m2',hk,e⟩:=aMa N hN (fun y1 y2 y3 y4 y5 y6=>bif decide (y2≠0)then k0 y1 y2 else aAa N k0 k1 M (w64 (1+1)) nm ins els nodes rules outs attrs y3 y4 y5 y6 c3 m3 c4 m4)
  (fun y3 y4 y5 y6=>aAa N k0 k1 M (w64 (1+1)) nm ins els nodes rules outs attrs y3 y4 y5 y6 c3 m3 c4 m4) ins h.ins.1 h.ins.2.2 ins N 0 c1 c2 m1 m2 [] rfl h.ins.2.1 hm1 hm2
 refine⟨j,c1',c2',m1',m2',hk,e.trans ?_⟩
 by_cases q:aFr [] ins=0
 ·rw[if_pos q,if_pos q];rfl
 ·rw[if_neg q,if_neg q,aAd q]
theorem st2 (hN:1000<=N)(h:DH N nm ins els nodes rules outs attrs):aAa N k0 k1 (M+1) 2 nm ins els nodes rules outs attrs c1 m1 c2 m2 c3 m3 c4 m4=if le8 (ins.length+els.length) 40=0 then aAa N k0 k1 M 3 nm ins els nodes rules outs attrs c1 m1 c2 m2 c3 m3 c4 m4 else k0 0 (le8 (ins.length+els.length) 40):=by
 have hi:=h.ins;have he:=h.els
 rw[aAa]
 simp only[Int.reduceLT,Int.reduceEq,decide_true,decide_false,cond_true,cond_false]
 unfold aEK
 rw[aCK,aOM (ins.length+els.length) 40 _ 40 (by rw[aDt (by omega) (by omega)];omega) rfl]
 exact aJM
theorem st3 (hN:1000<=N)(h:DH N nm ins els nodes rules outs attrs){S:List ByteArray}(hm1:KN m1 S):∃ (j:Int) (c1':Nat) (m1':NM),aAa N k0 k1 (M+1) 3 nm ins els nodes rules outs attrs c1 m1 c2 m2 c3 m3 c4 m4=if aFn S els=0 then aAa N k0 k1 M 4 nm ins els nodes rules outs attrs c1' m1' c2 m2 c3 m3 c4 m4 else k0 j (aFn S els):=by
 rw[aAa]
 simp only[Int.reduceLT,Int.reduceEq,decide_true,decide_false,cond_true,cond_false]
 unfold aEE aBT
 obtain⟨j,c1',m1',e⟩:=aMu N hN (fun y1 y2 y3 y4=>bif decide (y2≠0)then k0 y1 y2 else aAa N k0 k1 M (w64 (3+1)) nm ins els nodes rules outs attrs y3 y4 c2 m2 c3 m3 c4 m4)
  (fun y3 y4=>aAa N k0 k1 M (w64 (3+1)) nm ins els nodes rules outs attrs y3 y4 c2 m2 c3 m3 c4 m4) els h.els.1 h.els.2.2 els N 0 c1 m1 S rfl h.els.2.1 hm1
 refine⟨j,c1',m1',e.trans ?_⟩
 by_cases q:aFn S els=0
 ·rw[if_pos q,if_pos q];rfl
 ·rw[if_neg q,if_neg q,aAd q]
theorem st4 (hN:1000<=N)(h:DH N nm ins els nodes rules outs attrs):∃ (j:Int),aAa N k0 k1 (M+1) 4 nm ins els nodes rules outs attrs c1 m1 c2 m2 c3 m3 c4 m4=if aQR (aIV ins els) nodes=0 then aAa N k0 k1 M 5 nm ins els nodes rules outs attrs c1 m1 c2 m2 c3 m3 c4 m4 else k0 j (aQR (aIV ins els) nodes):=by
 rw[aAa]
 simp only[Int.reduceLT,Int.reduceEq,decide_true,decide_false,cond_true,cond_false]
 unfold aEy
 rw[aTh h]
 obtain⟨j,e⟩:=aMH N hN (aIV ins els) nodes h.nodes.2 (fun y2 y3=>bif decide (y3≠0)then k0 y2 y3 else aAa N k0 k1 M (w64 (4+1)) nm ins els nodes rules outs attrs c1 m1 c2 m2 c3 m3 c4 m4)
 exact⟨j,e.trans aJM⟩
theorem st5 (hN:1000<=N)(h:DH N nm ins els nodes rules outs attrs):aAa N k0 k1 (M+1) 5 nm ins els nodes rules outs attrs c1 m1 c2 m2 c3 m3 c4 m4=if le8 rules.length 16=0 then aAa N k0 k1 M 6 nm ins els nodes rules outs attrs c1 m1 c2 m2 c3 m3 c4 m4 else k0 0 (le8 rules.length 16):=by
 rw[aAa]
 simp only[Int.reduceLT,Int.reduceEq,decide_true,decide_false,cond_true,cond_false]
 unfold aEx
 rw[aCK,aOM rules.length 16 _ 16 rfl rfl]
 exact aJM
theorem st6 (hN:1000<=N)(h:DH N nm ins els nodes rules outs attrs)(hm3:KN m3 []):∃ (j:Int) (c3':Nat) (m3':NM),aAa N k0 k1 (M+1) 6 nm ins els nodes rules outs attrs c1 m1 c2 m2 c3 m3 c4 m4=if aFP els nodes [] rules=0 then aAa N k0 k1 M 7 nm ins els nodes rules outs attrs c1 m1 c2 m2 c3' m3' c4 m4 else k0 j (aFP els nodes [] rules):=by
 rw[aAa]
 simp only[Int.reduceLT,Int.reduceEq,decide_true,decide_false,cond_true,cond_false]
 unfold aED aCf
 obtain⟨j,c3',m3',e⟩:=aMb N hN (fun y1 y2 y3 y4 y5 y6 y7 y8 y9 y10 y11=>bif decide (y2≠0)then k0 y1 y2 else aAa N k0 k1 M (w64 (6+1)) y5 y6 y7 y8 y9 y10 y11 c1 m1 c2 m2 y3 y4 c4 m4)
  (fun y3 y4 y5 y6 y7 y8 y9 y10 y11=>aAa N k0 k1 M (w64 (6+1)) y5 y6 y7 y8 y9 y10 y11 c1 m1 c2 m2 y3 y4 c4 m4) nm ins els nodes rules outs attrs h.nodes.1 h.els.1 rules h.rules.1 h.rules.2.2 rules N 0 c3 m3 [] rfl h.rules.2.1 hm3
 refine⟨j,c3',m3',e.trans ?_⟩
 by_cases q:aFP els nodes [] rules=0
 ·rw[if_pos q,if_pos q];rfl
 ·rw[if_neg q,if_neg q,aAd q]
theorem st7 (hN:1000<=N)(h:DH N nm ins els nodes rules outs attrs):aAa N k0 k1 (M+1) 7 nm ins els nodes rules outs attrs c1 m1 c2 m2 c3 m3 c4 m4=if le8 outs.length 12=0 then aAa N k0 k1 M 8 nm ins els nodes rules outs attrs c1 m1 c2 m2 c3 m3 c4 m4 else k0 0 (le8 outs.length 12):=by
 rw[aAa]
 simp only[Int.reduceLT,Int.reduceEq,decide_true,decide_false,cond_true,cond_false]
 unfold aEC
 rw[aCK,aOM outs.length 12 _ 12 rfl rfl]
 exact aJM
theorem st8 (hN:1000<=N)(h:DH N nm ins els nodes rules outs attrs)(hm4:KN m4 []):∃ (j:Int) (c4':Nat) (m4':NM),aAa N k0 k1 (M+1) 8 nm ins els nodes rules outs attrs c1 m1 c2 m2 c3 m3 c4 m4=if aHW nodes [] outs=0 then aAa N k0 k1 M 9 nm ins els nodes rules outs attrs c1 m1 c2 m2 c3 m3 c4' m4' else k0 j (aHW nodes [] outs):=by
 rw[aAa]
 simp only[Int.reduceLT,Int.reduceEq,decide_true,decide_false,cond_true,cond_false]
 unfold aEF aBZ
 obtain⟨j,c4',m4',e⟩:=aO3 N hN (fun y1 y2 y3 y4 y5 y6 y7 y8 y9 y10 y11=>bif decide (y2≠0)then k0 y1 y2 else aAa N k0 k1 M (w64 (8+1)) y5 y6 y7 y8 y9 y10 y11 c1 m1 c2 m2 c3 m3 y3 y4)
  (fun y3 y4 y5 y6 y7 y8 y9 y10 y11=>aAa N k0 k1 M (w64 (8+1)) y5 y6 y7 y8 y9 y10 y11 c1 m1 c2 m2 c3 m3 y3 y4) nm ins els nodes rules outs attrs h.nodes.1 outs h.outs.1 h.outs.2.2 outs N 0 c4 m4 [] rfl h.outs.2.1 hm4
 refine⟨j,c4',m4',e.trans ?_⟩
 by_cases q:aHW nodes [] outs=0
 ·rw[if_pos q,if_pos q];rfl
 ·rw[if_neg q,if_neg q,aAd q]
theorem st9 (hN:1000<=N)(h:DH N nm ins els nodes rules outs attrs):aAa N k0 k1 (M+1) 9 nm ins els nodes rules outs attrs c1 m1 c2 m2 c3 m3 c4 m4=if le8 attrs.length 16=0 then aAa N k0 k1 M 10 nm ins els nodes rules outs attrs c1 m1 c2 m2 c3 m3 c4 m4 else k0 0 (le8 attrs.length 16):=by
 rw[aAa]
 simp only[Int.reduceLT,Int.reduceEq,decide_true,decide_false,cond_true,cond_false]
 unfold aEm
 rw[aCK,aOM attrs.length 16 _ 16 rfl rfl]
 exact aJM
theorem bVN (hN:1000<=N)(h:DH N nm ins els nodes rules outs attrs):∃ (j:Int),aAa N k0 k1 (M+2) 10 nm ins els nodes rules outs attrs c1 m1 c2 m2 c3 m3 c4 m4=if aG7 rules.length attrs=0 then k1 else k0 j (aG7 rules.length attrs):=by
 rw[aAa]
 simp only[Int.reduceLT,Int.reduceEq,decide_true,decide_false,cond_true,cond_false]
 unfold aEj aBv
 obtain⟨j,e⟩:=aMM N hN (fun y1 y2 y3 y4 y5 y6 y7 y8 y9=>bif decide (y2≠0)then k0 y1 y2 else aAa N k0 k1 (M+1) (w64 (10+1)) y3 y4 y5 y6 y7 y8 y9 c1 m1 c2 m2 c3 m3 c4 m4)
  (fun y3 y4 y5 y6 y7 y8 y9=>aAa N k0 k1 (M+1) (w64 (10+1)) y3 y4 y5 y6 y7 y8 y9 c1 m1 c2 m2 c3 m3 c4 m4) nm ins els nodes rules outs attrs h.rules.1 attrs h.attrs.1 h.attrs.2.2 attrs N 0 rfl h.attrs.2.1
 refine⟨j,e.trans ?_⟩
 by_cases q:aG7 rules.length attrs=0
 ·rw[if_pos q,if_pos q]
  show aAa N k0 k1 (M+1) 11 _ _ _ _ _ _ _ _ _ _ _ _ _ _ _=_
  rw[aAa];rfl
 ·rw[if_neg q,if_neg q,aAd q]
theorem aPK (hN:1000<=N)(h:DH N nm ins els nodes rules outs attrs)(k:Int->Int->Option R):∃ j:Int,aDr N nm ins els nodes rules outs attrs k=k j (aHq nm ins els nodes rules outs attrs):=by
 obtain⟨M,rfl⟩:∃ M,N=M+12:=⟨N-12,by omega⟩
 unfold aDr aHq
 rw[st0 _ _ _ _ _ _ _ _ _ _ _ hN h]
 by_cases q0:f1 (if nmB nm=true then 0 else 4) (le8 ins.length 12)=0
 ·rw[if_pos q0,q0,aGq]
  obtain⟨j,c1',c2',m1',m2',hk,e⟩:=st1 k (k 0 0) (M+10) 0 0 0 0 [] [] [] [] hN h aQN aQN
  rw[e]
  by_cases q1:aFr [] ins=0
  ·rw[if_pos q1,q1,aGq,st2 _ _ _ _ _ _ _ _ _ _ _ hN h]
   by_cases q2:le8 (ins.length+els.length) 40=0
   ·rw[if_pos q2,q2,aGq]
    obtain⟨j,c1'',m1'',e⟩:=st3 k (k 0 0) (M+8) c1' c2' 0 0 m1' m2' [] [] hN h (hk q1)
    rw[e]
    by_cases q3:aFn (aLo [] ins) els=0
    ·rw[if_pos q3,q3,aGq]
     obtain⟨j,e⟩:=st4 k (k 0 0) (M+7) c1'' c2' 0 0 m1'' m2' [] [] hN h
     rw[e]
     by_cases q4:aQR (aIV ins els) nodes=0
     ·rw[if_pos q4,q4,aGq,st5 _ _ _ _ _ _ _ _ _ _ _ hN h]
      by_cases q5:le8 rules.length 16=0
      ·rw[if_pos q5,q5,aGq]
       obtain⟨j,c3',m3',e⟩:=st6 k (k 0 0) (M+5) c1'' c2' 0 0 m1'' m2' [] [] hN h aQN
       rw[e]
       by_cases q6:aFP els nodes [] rules=0
       ·rw[if_pos q6,q6,aGq,st7 _ _ _ _ _ _ _ _ _ _ _ hN h]
        by_cases q7:le8 outs.length 12=0
        ·rw[if_pos q7,q7,aGq]
         obtain⟨j,c4',m4',e⟩:=st8 k (k 0 0) (M+3) c1'' c2' c3' 0 m1'' m2' m3' [] hN h aQN
         rw[e]
         by_cases q8:aHW nodes [] outs=0
         ·rw[if_pos q8,q8,aGq,st9 _ _ _ _ _ _ _ _ _ _ _ hN h]
          by_cases q9:le8 attrs.length 16=0
          ·rw[if_pos q9,q9,aGq]
           obtain⟨j,e⟩:=bVN k (k 0 0) M c1'' c2' c3' c4' m1'' m2' m3' m4' hN h
           rw[e]
           by_cases q10:aG7 rules.length attrs=0
           ·rw[if_pos q10,q10];exact⟨0,rfl⟩
           ·rw[if_neg q10];exact⟨j,rfl⟩
          ·rw[if_neg q9,aKn q9];exact⟨0,rfl⟩
         ·rw[if_neg q8,aKn q8];exact⟨j,rfl⟩
        ·rw[if_neg q7,aKn q7];exact⟨0,rfl⟩
       ·rw[if_neg q6,aKn q6];exact⟨j,rfl⟩
      ·rw[if_neg q5,aKn q5];exact⟨0,rfl⟩
     ·rw[if_neg q4,aKn q4];exact⟨j,rfl⟩
    ·rw[if_neg q3,aKn q3];exact⟨j,rfl⟩
   ·rw[if_neg q2,aKn q2];exact⟨0,rfl⟩
  ·rw[if_neg q1,aKn q1];exact⟨j,rfl⟩
 ·rw[if_neg q0,aKn q0];exact⟨0,rfl⟩
end
theorem if0 {c:Prop} [Decidable c] {e:Int}(he:e≠0)(h:(if c then 0 else e)=0):c:=by
 split at h
 ·assumption
 ·exact absurd h he
theorem aNu:∀ (l:List aAp) (S:List ByteArray),aFr S l=0->∀ x,x∈l->wOK x.2=true
 | [],_,_,x,hx=>by cases hx
 | y :: r,S,h,x,hx=>by
  obtain⟨h1,h2⟩:=f1_0.1 (show f1 (aRg S y) (aFr (y.1 :: S) r)=0 from h)
  rcases List.mem_cons.1 hx with rfl | hx
  ·exact if0 (by decide) (f1_0.1 h1).2
  ·exact aNu r _ h2 x hx
theorem aNd:∀ (l:List aAP) (S:List ByteArray),aFn S l=0->∀ x,x∈l->(0<=x.2.1∧x.2.1<=1)∧wOK x.2.2.1=true∧vok x.2.2.1 x.2.2.2.1=true∧0<=x.2.2.2.2∧x.2.2.2.2<=3
 | [],_,_,x,hx=>by cases hx
 | y :: r,S,h,x,hx=>by
  obtain⟨h1,h2⟩:=f1_0.1 (show f1 (aPr S y) (aFn (y.1 :: S) r)=0 from h)
  rcases List.mem_cons.1 hx with rfl | hx
  ·obtain⟨h3,h4⟩:=f1_0.1 h1
   have h5:=(f1_0.1 (f1_0.1 h3).2)
   exact⟨if0 (by decide) h5.1,if0 (by decide) h5.2,(if0 (by decide) h4).1,(if0 (by decide) h4).2⟩
  ·exact aNd r _ h2 x hx
theorem aSM {nodes:List Nd}:∀ (l:List aAp) (S:List ByteArray),aHW nodes S l=0->∀ x,x∈l->aNm nodes x.2=true
 | [],_,_,x,hx=>by cases hx
 | y :: r,S,h,x,hx=>by
  obtain⟨h1,h2⟩:=f1_0.1 (show f1 (bIJ nodes S y) (aHW nodes (y.1 :: S) r)=0 from h)
  rcases List.mem_cons.1 hx with rfl | hx
  ·exact if0 (by decide) (f1_0.1 h1).2
  ·exact aSM r _ h2 x hx
def bOa (els:List aAP)(nodes:List Nd)(x:WrT):Prop:=(0<=x.1∧x.1<=(els.length:Int)-1)∧aFw nodes x.2.1=true∧aNm nodes x.2.2=true∧aKu nodes x.2.2=ewd els x.1
theorem aOE {els:List aAP}{nodes:List Nd}:∀ (l:List WrT),aD3 els nodes l=0->∀ x,x∈l->bOa els nodes x
 | [],_,x,hx=>by cases hx
 | y :: r,h,x,hx=>by
  obtain⟨h1,h2⟩:=f1_0.1 (show f1 (aKd els nodes y) (aD3 els nodes r)=0 from h)
  rcases List.mem_cons.1 hx with rfl | hx
  ·obtain⟨h3,h4⟩:=f1_0.1 h1
   obtain⟨h5,h6⟩:=f1_0.1 h4
   have h5:=if0 (by decide) h5
   rw[Bool.and_eq_true]at h5
   exact⟨if0 (by decide) h3,h5.1,h5.2,if0 (by decide) h6⟩
  ·exact aOE r h2 x hx
theorem aQG {els:List aAP}{nodes:List Nd}:∀ (l:List aA1) (S:List ByteArray),aFP els nodes S l=0->∀ x,x∈l->aFw nodes x.2.1=true∧x.2.2.length<=16∧∀ y,y∈x.2.2->bOa els nodes y
 | [],_,_,x,hx=>by cases hx
 | y :: r,S,h,x,hx=>by
  obtain⟨h1,h2⟩:=f1_0.1 (show f1 (aRj S els nodes y) (aFP els nodes (y.1 :: S) r)=0 from h)
  rcases List.mem_cons.1 hx with rfl | hx
  ·obtain⟨h3,h4⟩:=f1_0.1 h1
   have h5:=f1_0.1 (f1_0.1 h3).2
   exact⟨if0 (by decide) h5.1,if0 (by decide) h5.2,aOE _ h4⟩
  ·exact aQG r _ h2 x hx
structure DV (ins:List aAp) (els:List aAP) (nodes:List Nd) (rules:List aA1) (outs:List aAp):Prop where
 insW:∀ x,x∈ins->wOK x.2=true
 elsW:∀ x,x∈els->(0<=x.2.1∧x.2.1<=1)∧wOK x.2.2.1=true∧vok x.2.2.1 x.2.2.2.1=true∧0<=x.2.2.2.2∧x.2.2.2.2<=3
 chk:aQR (aIV ins els) nodes=0
 rulesW:∀ x,x∈rules->aFw nodes x.2.1=true∧x.2.2.length<=16∧∀ y,y∈x.2.2->bOa els nodes y
 outsW:∀ x,x∈outs->aNm nodes x.2=true
 nr:rules.length<=16
 no:outs.length<=12
theorem aYI {n m:Nat}(h:le8 n m=0):n<=m:=if0 (by decide) h
theorem bEG {nm:ByteArray}{ins:List aAp}{els:List aAP}{nodes:List Nd}{rules:List aA1}{outs:List aAp}{attrs:List aCE}(h:aHq nm ins els nodes rules outs attrs=0):DV ins els nodes rules outs:=by
 unfold aHq at h
 simp only[f1_0]at h
 obtain⟨_,h1,_,h2,h3,h4,h5,h6,h7,_⟩:=h
 exact⟨aNu _ _ h1,aNd _ _ h2,h3,aQG _ _ h5,aSM _ _ h7,aYI h4,aYI h6⟩
def bZV:List Int->List Int->Bool
 | w :: ws,x :: xs=>vok w x&&bZV ws xs
 | _,_=>true
theorem bYn:∀ (ws l:List Int),l.length=ws.length->(bZV ws l=true↔∀ i,i<ws.length->vok (w0 ws i) (w0 l i)=true)
 | [],l,_=>by simp[bZV]
 | w :: ws,[],h=>by simp at h
 | w :: ws,x :: xs,h=>by
  rw[show bZV (w :: ws) (x :: xs)=(vok w x&&bZV ws xs)from rfl,Bool.and_eq_true,bYn ws xs (by simpa using h)]
  constructor
  ·rintro ⟨h1,h2⟩ i hi
   cases i with
   | zero=>exact h1
   | succ i=>exact h2 i (by simpa using hi)
  ·intro h2
   exact⟨h2 0 (by simp),fun i hi=>h2 (i+1) (by simpa using hi)⟩
theorem bYE {a b x y:List Int}(h1:LV a x)(h2:LV b y):LV (a++b) (x++y):=by
 refine⟨by simp[h1.1,h2.1],fun i hi=>?_⟩
 have hl:=h1.1
 by_cases c:i<a.length
 ·have:=h1.2 i c
  unfold w0 at this ⊢
  rwa [List.getElem?_append_left c,List.getElem?_append_left (by omega)]
 ·have:=h2.2 (i-a.length) (by simp at hi;omega)
  unfold w0 at this ⊢
  rwa [List.getElem?_append_right (by omega),List.getElem?_append_right (by omega),hl]
def inW (ins:List aAp):List Int:=ins.map (·.2)
def elW (els:List aAP):List Int:=els.map (·.2.2.1)
section
variable {N:Nat} {nm:ByteArray} {ins:List aAp} {els:List aAP} {nodes:List Nd} {rules:List aA1} {outs:List aAp} {attrs:List aCE}
def dV (nodes:List Nd)(inp s:List Int):List Int:=nvG (inp++s) nodes nodes []
theorem cB1 (hv:DV ins els nodes rules outs){inp s:List Int}(hi:LV (inW ins) inp)(hs:LV (elW els) s):(dV nodes inp s).length=nodes.length∧∀ j,j<nodes.length->vok (aKu nodes j) (w0 (dV nodes inp s) j)=true:=
 cCP (bYE hi hs) (aOj hv.chk).2.2.2
theorem bZ1 (hv:DV ins els nodes rules outs){inp s:List Int}(hi:LV (inW ins) inp)(hs:LV (elW els) s){n:Int}(hn:aNm nodes n=true):at? (dV nodes inp s) n=some (w0 (dV nodes inp s) n.toNat):=by
 have hn:=of_decide_eq_true hn
 have:=(cB1 hv hi hs).1
 obtain⟨a,rfl⟩:∃ a:Nat,n=a:=⟨n.toNat,by omega⟩
 rw[Int.toNat_natCast];exact aLX (by omega)
def elI (els:List aAP):List Int:=els.map (·.2.2.2.1)
theorem bZ3 (hv:DV ins els nodes rules outs):LV (elW els) (elI els):=by
 unfold elW elI
 refine⟨by simp,fun i hi=>?_⟩
 have hi:i<els.length:=by simpa using hi
 rw[bYq hi,bYq hi]
 exact (hv.elsW _ (List.getElem_mem hi)).2.2.1
end
section
variable {N:Nat} {nm:ByteArray} {ins:List aAp} {els:List aAP} {nodes:List Nd} {rules:List aA1} {outs:List aAp} {attrs:List aCE}
def hap (V:List Int):List WrT->List Int->List Int
 | [],s=>s
 | x :: r,s=>hap V r (if w0 V x.2.1.toNat=1 then s.set x.1.toNat (w0 V x.2.2.toNat)else s)
theorem cCU {s:List Int}{i j:Nat}(v:Int)(h:i<s.length):w0 (s.set i v) j=if i=j then v else w0 s j:=by
 unfold w0
 rw[List.getElem?_set]
 by_cases c:i=j
 ·subst c;rw[if_pos rfl,if_pos h,if_pos rfl];rfl
 ·rw[if_neg c,if_neg c]
theorem bZM {els:List aAP}{nodes:List Nd}{V:List Int}(hV:∀ j,j<nodes.length->vok (aKu nodes j) (w0 V j)=true):∀ (l:List WrT) (s:List Int),(∀ x,x∈l->bOa els nodes x)->LV (elW els) s->LV (elW els) (hap V l s)
 | [],s,_,hs=>hs
 | x :: r,s,hl,hs=>by
  show LV (elW els) (hap V r (if _ then _ else _))
  refine bZM hV r _ (fun y hy=>hl y (List.mem_cons_of_mem _ hy)) ?_
  split
  ·obtain⟨h1,h2,h3,h4⟩:=hl x List.mem_cons_self
   have h3:=of_decide_eq_true h3
   have hlen:(elW els).length=els.length:=by unfold elW;simp
   have hsl:=hs.1
   refine⟨by rw[List.length_set];exact hs.1,fun i hi=>?_⟩
   rw[cCU _ (by omega)]
   split
   ·rename_i e
    subst e
    have:=hV x.2.2.toNat (by omega)
    rw[show ((x.2.2.toNat:Nat):Int)=x.2.2 by omega,h4]at this
    have he:w0 (elW els) x.1.toNat=ewd els x.1:=by
     unfold elW ewd
     rw[bYq (by omega),List.getElem?_eq_getElem (by omega)];rfl
    rw[he];exact this
   ·exact hs.2 i hi
  ·exact hs
theorem bYz (hv:DV ins els nodes rules outs){inp s:List Int}(hi:LV (inW ins) inp)(hs:LV (elW els) s){a:Nat}(ha:a<rules.length):LV (elW els) (hap (dV nodes inp s) rules[a].2.2 s):=
 bZM (cB1 hv hi hs).2 _ s (hv.rulesW _ (List.getElem_mem ha)).2.2 hs
end
theorem aD5 (N:Nat)(a lo hi:Int)(k:Bool->Option R):aAz N a lo hi k=k (decide (lo<=a∧a<=hi)):=by
 unfold aAz
 by_cases h:lo<=a <;> simp[h]
theorem aYr (N:Nat){n:Int}(h0:0<=n)(h:n<=40)(k:Int->Option R):aEO N n k=k (p2 n):=by
 unfold aEO;rw[aAc (by omega),aVr h0 h]
theorem bZ4 {w n:Int}(hw:1<=w)(h:vok w n=true):- p2 (w-1)<=sg w n∧sg w n<=p2 (w-1)-1:=by
 have:=of_decide_eq_true h
 have h1:=bZN hw
 unfold sg;split <;> omega
theorem bYc (N:Nat){w:Int}(n:Int)(h0:1<=w)(h:w<=16)(hn:0<=n∧n<=65536)(k:Int->Option R):bXd N n w k=k (sg w n):=by
 have h1:=bZN h0
 have h2:=bDz h
 have h3:=aQ8 (w-1)
 unfold bXd sg
 rw[aDt (x:=w-1) (by omega) (by omega),aYr N (by omega) (by omega)]
 by_cases c:p2 (w-1)<=n
 ·rw[aAd c,aYr N (by omega) (by omega),if_pos c,aDt (by omega) (by omega)]
 ·rw[aAc c,if_neg c]
theorem aK2 (N:Nat)(l:List Int)(hl:l.length<=1000000)(k:List Int->Option R):aCX N l k=k l:=by
 unfold aCX;rw[aBs (by omega)];rfl
theorem bZ5 {n d:Int}(hd:0<d):n%d=if Int.tmod n d<0 then Int.tmod n d+d else Int.tmod n d:=by
 have h1:=Int.mul_tdiv_add_tmod n d
 have h2:Int.tmod n d<d:=Int.tmod_lt_of_pos n hd
 have h3:-d<Int.tmod n d:=Int.lt_tmod_of_pos n hd
 split
 ·exact ((Int.ediv_emod_unique (q:=Int.tdiv n d-1) (r:=Int.tmod n d+d) hd).2 ⟨by rw[Int.mul_sub,Int.mul_one];omega,by omega,by omega⟩).2
 ·exact ((Int.ediv_emod_unique (q:=Int.tdiv n d) (r:=Int.tmod n d) hd).2 ⟨by omega,by omega,by omega⟩).2
theorem cAs (N:Nat)(n d:Int)(hd:0<d)(hd2:d<=4294967296)(k:Int->Option R):bXH N n d k=k (n%d):=by
 have hf:=bZ5 (n:=n) hd
 have h3:=Int.emod_nonneg n (show d≠0 by omega)
 have h4:=Int.emod_lt_of_pos n hd
 unfold bXH
 rw[aAc (by omega)]
 by_cases c:Int.tmod n d<0
 ·rw[if_pos c]at hf;rw[aAd c,aDt (by omega) (by omega),hf]
 ·rw[if_neg c]at hf;rw[aAc c,hf]
theorem cCO {S:List ByteArray}{s:ByteArray}(h:aNU S s=0):nmB s=true∧inS s S=false:=by
 unfold aNU at h
 split at h
 ·split at h
  ·cases h
  ·rename_i h1 h2;exact⟨h1,Bool.eq_false_iff.2 h2⟩
 ·cases h
theorem bK5 {w:List Int}(h:(w.length:Int)=1):∃ a,w=[a]:=by
 match w,h with
 | [a],_=>exact⟨a,rfl⟩
 | [],h=>cases h
 | _ :: _ :: _,h=>simp at h;omega
theorem aRX {w:List Int}(h:(w.length:Int)=2):∃ a b,w=[a,b]:=by
 match w,h with
 | [a,b],_=>exact⟨a,b,rfl⟩
 | [],h=>cases h
 | [_],h=>cases h
 | _ :: _ :: _ :: _,h=>simp at h;omega
theorem bVT {w:List Int}(h:(w.length:Int)=3):∃ a b c,w=[a,b,c]:=by
 match w,h with
 | [a,b,c],_=>exact⟨a,b,c,rfl⟩
 | [],h=>cases h
 | [_],h=>cases h
 | [_,_],h=>cases h
 | _ :: _ :: _ :: _ :: _,h=>simp at h;omega
section
variable {N:Nat} (nm:ByteArray) (ins:List aAp) {els:List aAP} {nodes:List Nd} (l:List aA1) (outs:List aAp) (attrs:List aCE)
end
theorem cC7 (N:Nat)(b:Bool)(k:Int->Option R):bXG N b k=k (b2i b):=by cases b <;> rfl
theorem bYL {n:Int}(P:Int)(h:0<=n):Int.tmod n P=n%P:=Int.tmod_eq_emod_of_nonneg h
theorem cCQ {n:Int}(P:Int)(h:0<=n):Int.tdiv n P=n/P:=Int.tdiv_eq_ediv_of_nonneg h
theorem VS1 {a b:Int}(h:VS [a] [b]):(1<=a∧a<=16)∧vok a b=true:=h.2 0 (by simp)
theorem VS2 {a b x y:Int}(h:VS [a,b] [x,y]):((1<=a∧a<=16)∧vok a x=true)∧(1<=b∧b<=16)∧vok b y=true:=⟨h.2 0 (by simp),h.2 1 (by simp)⟩
theorem bZY {w a:List Int}(hl:(w.length:Int)=1)(h:VS w a):∃ p x,w=[p]∧a=[x]:=by
 obtain⟨p,rfl⟩:=bK5 hl
 obtain⟨x,rfl⟩:=bK5 (w:=a) (by rw[<- h.1];rfl)
 exact⟨p,x,rfl,rfl⟩
theorem bYb {w a:List Int}(hl:(w.length:Int)=2)(h:VS w a):∃ p q x y,w=[p,q]∧a=[x,y]:=by
 obtain⟨p,q,rfl⟩:=aRX hl
 obtain⟨x,y,rfl⟩:=aRX (w:=a) (by rw[<- h.1];rfl)
 exact⟨p,q,x,y,rfl,rfl⟩
theorem cC5 {w a:List Int}(hl:(w.length:Int)=3)(h:VS w a):∃ p q r x y z,w=[p,q,r]∧a=[x,y,z]:=by
 obtain⟨p,q,r,rfl⟩:=bVT hl
 obtain⟨x,y,z,rfl⟩:=bVT (w:=a) (by rw[<- h.1];rfl)
 exact⟨p,q,r,x,y,z,rfl,rfl⟩
theorem a0 (x:Int)(l:List Int):at? (x :: l) 0=some x:=rfl
theorem a1 (x y:Int)(l:List Int):at? (x :: y :: l) 1=some y:=rfl
theorem a2 (x y z:Int)(l:List Int):at? (x :: y :: z :: l) 2=some z:=rfl
theorem cCB (N:Nat)(args lv:List Int){op wd v:Int}{w a:List Int}(h0:0<=op∧op<=18)(h1:op≠1)(hw:wOK wd=true)(hl:(w.length:Int)=aOs op)(hv:aJg [] op wd v=0)(hf:aJ5 op wd v w=true)(hs:VS w a)(k:Int->Option R) :
  bXw N op wd args v a w lv k=k (apS op wd v w a):=by
 have hwd:=of_decide_eq_true hw
 have hP:=aQ8 wd;have hP2:=bDz hwd.2
 unfold bXw
 rw[aYr N (by omega) (by omega)]
 have hop:op=18∨op=17∨op=16∨op=15∨op=14∨op=13∨op=12∨op=11∨op=10∨op=9∨op=8∨op=7∨op=6∨op=5∨op=4∨op=3∨op=2∨op=0:=by omega
 rcases hop with rfl | rfl | rfl | rfl | rfl | rfl | rfl | rfl | rfl | rfl | rfl | rfl | rfl | rfl | rfl | rfl | rfl | rfl
 all_goals simp only[Int.reduceEq,decide_true,decide_false,cond_true,cond_false]
 ·obtain⟨p,q,x,y,rfl,rfl⟩:=bYb hl hs
  obtain⟨s1,s2⟩:=VS2 hs
  have r1:=bX6 s1.1.2 s1.2;have r2:=bX6 s2.1.2 s2.2
  have hy:=aQ8 y
  rw[a1,aAe,a0,aAe,aAe]
  show _=k (if wd<=y then 0 else x/p2 y)
  by_cases c:wd<=y
  ·rw[aAd c,if_pos c]
  ·have e1:=Int.ediv_nonneg r1.1 (show 0<=p2 y by omega)
   have e2:=Int.ediv_le_self (p2 y) r1.1
   rw[aAc c,if_neg c,aYr N (by omega) (by omega),aAc (by omega),cCQ _ r1.1,aDt (by omega) (by omega)]
 ·obtain⟨p,q,x,y,rfl,rfl⟩:=bYb hl hs
  obtain⟨s1,s2⟩:=VS2 hs
  have r1:=bX6 s1.1.2 s1.2;have r2:=bX6 s2.1.2 s2.2
  have hy:=aQ8 y
  rw[a1,aAe,a0,aAe,aAe]
  show _=k (if wd<=y then 0 else x*p2 y%p2 wd)
  by_cases c:wd<=y
  ·rw[aAd c,if_pos c]
  ·have hy2:=bDz (n:=y) (by omega)
   have e:=bYo r1.1 r1.2 (show 0<=p2 y by omega) hy2
   rw[aAc c,if_neg c,aYr N (by omega) (by omega),aAc (by omega),aDt (by omega) (by omega),bYL _ e.1]
 ·obtain⟨p,x,rfl,rfl⟩:=bZY hl hs
  have s1:=VS1 hs
  have r1:=bX6 s1.1.2 s1.2
  have hf:p<=wd:=of_decide_eq_true hf
  have g:=bZ4 s1.1.1 s1.2
  have g2:=bJV (show p-1<=wd by omega)
  rw[a0,aAe,a0,aAe,bYc N x s1.1.1 s1.1.2 (by omega),aAc (by omega),aDt (by omega) (by omega),bYL _ (by omega),Int.add_emod_right]
  rfl
 ·obtain⟨p,x,rfl,rfl⟩:=bZY hl hs
  rfl
 ·obtain⟨p,x,rfl,rfl⟩:=bZY hl hs
  have s1:=VS1 hs
  have r1:=bX6 s1.1.2 s1.2
  have hv:0<=v∧v<=15:=if0 (by decide) (show (if 0<=v∧v<=15 then (0:Int)else 2)=0 from hv)
  have hy:=aQ8 v
  have e1:=Int.ediv_nonneg r1.1 (show 0<=p2 v by omega)
  have e2:=Int.ediv_le_self (p2 v) r1.1
  rw[a0,aAe,aYr N (by omega) (by omega),aAc (by omega),aAc (by omega),cCQ _ r1.1,aDt (by omega) (by omega),bYL _ e1]
  rfl
 ·obtain⟨p,q,x,y,rfl,rfl⟩:=bYb hl hs
  obtain⟨s1,s2⟩:=VS2 hs
  have r1:=bX6 s1.1.2 s1.2;have r2:=bX6 s2.1.2 s2.2
  have hq:=aQ8 q;have hq2:=bDz s2.1.2
  have e:=bYo r1.1 r1.2 (show 0<=p2 q by omega) hq2
  rw[a0,aAe,a1,aAe,aYr N (by omega) (by omega),a1,aAe,aDt (x:=x*p2 q) (by omega) (by omega),aDt (by omega) (by omega)]
  rfl
 ·obtain⟨p,q,r,x,y,z,rfl,rfl⟩:=cC5 hl hs
  rw[a0,aAe,a1,aAe,a2,aAe]
  show _=k (if x=1 then y else z)
  by_cases c:x=1
  ·rw[aAd c,if_pos c]
  ·rw[aAc c,if_neg c]
 ·obtain⟨p,q,x,y,rfl,rfl⟩:=bYb hl hs
  obtain⟨s1,s2⟩:=VS2 hs
  have r1:=bX6 s1.1.2 s1.2;have r2:=bX6 s2.1.2 s2.2
  have hf:wd=1∧p=q:=of_decide_eq_true hf
  rw[a0,aAe,a0,aAe,bYc N x s1.1.1 s1.1.2 (by omega),a1,aAe,a1,aAe,bYc N y s2.1.1 s2.1.2 (by omega),cC7,<- hf.2]
  rfl
 ·obtain⟨p,q,x,y,rfl,rfl⟩:=bYb hl hs
  rw[a0,aAe,a1,aAe,cC7];rfl
 ·obtain⟨p,q,x,y,rfl,rfl⟩:=bYb hl hs
  rw[a0,aAe,a1,aAe,cC7];rfl
 ·obtain⟨p,q,x,y,rfl,rfl⟩:=bYb hl hs
  obtain⟨s1,s2⟩:=VS2 hs
  have r1:=bX6 s1.1.2 s1.2;have r2:=bX6 s2.1.2 s2.2
  have e:=bYo r1.1 r1.2 r2.1 r2.2
  rw[a0,aAe,a1,aAe,aAc (by omega),aDt (by omega) (by omega),bYL _ e.1];rfl
 ·obtain⟨p,q,x,y,rfl,rfl⟩:=bYb hl hs
  obtain⟨s1,s2⟩:=VS2 hs
  have r1:=bX6 s1.1.2 s1.2
  have e1:q=wd:=bX2 hf (i:=1) (by simp)
  rw[e1]at s2
  have r2:=bZW s2.2
  rw[a0,aAe,a1,aAe,aAc (by omega),aDt (x:=x-y) (by omega) (by omega),aDt (by omega) (by omega),bYL _ (by omega),Int.add_emod_right];rfl
 ·obtain⟨p,q,x,y,rfl,rfl⟩:=bYb hl hs
  obtain⟨s1,s2⟩:=VS2 hs
  have r1:=bX6 s1.1.2 s1.2;have r2:=bX6 s2.1.2 s2.2
  rw[a0,aAe,a1,aAe,aAc (by omega),aDt (by omega) (by omega),bYL _ (by omega)];rfl
 ·obtain⟨p,q,x,y,rfl,rfl⟩:=bYb hl hs
  rfl
 ·obtain⟨p,q,x,y,rfl,rfl⟩:=bYb hl hs
  rfl
 ·obtain⟨p,q,x,y,rfl,rfl⟩:=bYb hl hs
  rfl
 ·obtain⟨p,x,rfl,rfl⟩:=bZY hl hs
  have s1:=VS1 hs
  have e1:p=wd:=bX2 hf (i:=0) (by simp)
  rw[e1]at s1
  have r1:=bZW s1.2
  rw[a0,aAe,aDt (x:=p2 wd-1) (by omega) (by omega),aDt (by omega) (by omega)];rfl
 ·rfl
theorem cAt (N:Nat)(k0:List Nd->List Int->Int->List Int->List Int->List Int->Option R)(nodes:List Nd)(lv out:List Int){i:Nat}{x:Nd}(hx:at? nodes (i:Int)=some x)(hi:i<nodes.length)(ho:i<=out.length)(ha:x.2.2.1.length<=3):∀ (r:List Int) (n j:Nat) (a w:List Int),x.2.2.1.drop j=r->r.length<n->a.length<=j->w.length<=j->aNS i r=false ->
  bWZ N k0 n nodes lv i j out a w=k0 nodes lv i out (a++r.map fun y=>w0 out y.toNat) (w++r.map (aKu nodes))
 | [],n,j,a,w,h,hn,h1,h2,hod=>by
  obtain⟨n,rfl⟩:=sc hn
  rw[bWZ,hx,aAe,aAc (aAm h),List.map_nil,List.append_nil,List.map_nil,List.append_nil]
 | y :: r,n,j,a,w,h,hn,h1,h2,hod=>by
  obtain⟨n,rfl⟩:=sc hn
  obtain⟨q1,q2,q3⟩:=aAh h
  unfold aNS at hod
  rw[List.any_cons,Bool.or_eq_false_iff]at hod
  have hy:0<=y∧y<=(i:Int)-1:=by simpa using hod.1
  obtain⟨b,rfl⟩:∃ b:Nat,y=b:=⟨y.toNat,by omega⟩
  have hb1:b<nodes.length:=by omega
  have hb2:b<out.length:=by omega
  rw[bWZ]
  simp only[hx,aAe,q2]
  rw[aAd (by omega),aSL (by omega) (by omega),cond_true,Int.toNat_natCast,List.getElem?_eq_getElem hb2,aAe,aBs (by omega),cond_true,aHb hb1,aAe,aBs (by omega),cond_true,aAl (by omega)]
  refine (cAt N k0 nodes lv out hx hi ho ha r n (j+1) _ _ q3 (by simp at hn;omega) (by simp;omega) (by simp;omega) hod.2).trans ?_
  rw[List.map_cons,List.map_cons,List.append_assoc,List.append_assoc,Int.toNat_natCast,bZ6 hb2]
  unfold aKu
  rw[Int.toNat_natCast,List.getElem?_eq_getElem hb1]
  rfl
theorem cB8 {l m:List Int}{i:Nat}(h:i<l.length):w0 (l++m) i=w0 l i:=by unfold w0;rw[List.getElem?_append_left h]
theorem bYF (N:Nat)(hN:1000<=N)(k:List Int->Option R){lw lv:List Int}(hL:LV lw lv){nodes:List Nd}(hn:nodes.length<=1000000):∀ (r:List Nd) (n i:Nat) (acc:List Int),nodes.drop i=r->r.length<n->VI lw nodes i acc->aGZ lw nodes i r=0 ->
  bWW N k n nodes lv i (acc++List.replicate r.length 0)=k (nvG lv nodes r acc)
 | [],n,i,acc,h,hr,hv,hc=>by
  obtain⟨n,rfl⟩:=sc hr
  rw[bWW,aAc (aAm h)]
  show k (acc++[])=k acc
  rw[List.append_nil]
 | x :: r,n,i,acc,h,hr,hv,hc=>by
  obtain⟨n,rfl⟩:=sc hr
  obtain⟨h1,h2,h3⟩:=aAh h
  rw[aIL,f1_0]at hc
  obtain⟨g1,g2,g3,g4,g5,g6⟩:=aPs hc.1
  have hlen:=hv.len
  have ha:=aZS x.1
  rw[bWW,aAd (by omega)]
  refine (cAt N _ nodes lv _ h2 h1 (by simp;omega) (by omega) x.2.2.1 N 0 [] [] rfl (by omega) (by simp) (by simp) g4).trans ?_
  try dsimp only
  rw[List.nil_append,List.nil_append,h2,aAe]
  have em:(x.2.2.1.map fun y=>w0 (acc++List.replicate (x :: r).length 0) y.toNat)=x.2.2.1.map fun y=>w0 acc y.toNat:=by
   refine List.map_congr_left fun y hy=>?_
   have:=List.any_eq_false.1 g4 y hy
   have:0<=y∧y<=(i:Int)-1:=by simpa using this
   exact cB8 (by omega)
  have fin:∀ z,z=nv1 lv nodes acc x->(bif inR (i:Int) (acc++List.replicate (x :: r).length 0).length then (((acc++List.replicate (x :: r).length 0)[((i:Int)).toNat]?).bind fun x16=>(bWW N k n nodes lv (w64 ((i:Int)+1)) (List.set (acc++List.replicate (x :: r).length 0) ((i:Int)).toNat z)))else none)=k (nvG lv nodes (x :: r) acc):=by
   rintro z rfl
   have hl:i<(acc++List.replicate (x :: r).length 0).length:=by simp;omega
   rw[aSL (by omega) (by omega),cond_true,Int.toNat_natCast,List.getElem?_eq_getElem hl,aAe,aAl (by omega),bYI,<- bYF N hN k hL hn r n (i+1) _ h3 (by simp at hr;omega) (bZH hL hv h hc.1) hc.2]
   congr 1
   rw[List.set_append_right _ _ (by omega),hlen,Nat.sub_self,List.append_assoc]
   rfl
  by_cases c:x.1=1
  ·have hw:=of_decide_eq_true g2
   unfold bXw
   rw[aYr N (by omega) (by omega),c]
   simp only[Int.reduceEq,decide_true,decide_false,cond_true,cond_false]
   rw[c]at g5
   have h5:(if 0<=x.2.2.2∧x.2.2.2<=(lw.length:Int)-1 then (if lw[x.2.2.2.toNat]? = some x.2.1 then (0:Int)else 25)else 6)=0:=g5
   have hb:0<=x.2.2.2∧x.2.2.2<=(lw.length:Int)-1:=by
    split at h5
    ·assumption
    ·cases h5
   have hll:=hL.1
   obtain⟨b,hb2⟩:∃ b:Nat,x.2.2.2=b:=⟨x.2.2.2.toNat,by omega⟩
   rw[hb2,aLX (w:=lv) (by omega),aAe]
   refine fin _ ?_
   unfold nv1
   rw[if_pos c,hb2,Int.toNat_natCast]
  ·rw[em,cCB N _ lv g1 c g2 (by rw[List.length_map];exact g3) ((bYp c).trans g5) g6 (bZG hv g4)]
   refine fin _ ?_
   unfold nv1
   rw[if_neg c]
theorem bYy {N:Nat}(hN:1000<=N){lw lv:List Int}(hL:LV lw lv){nodes:List Nd}(hc:aQR lw nodes=0)(k:List Int->Option R):bW3 N nodes lv k=k (nvG lv nodes nodes []):=by
 obtain⟨h1,h2,h3,h4⟩:=aOj hc
 unfold bW3
 rw[aAd (by omega),aBs (by omega),cond_true]
 exact bYF N hN k hL (by omega) nodes N 0 [] rfl (by omega) (cDP lw nodes) h4
section
variable {N:Nat} {nm:ByteArray} {ins:List aAp} {els:List aAP} {nodes:List Nd} {rules:List aA1} {outs:List aAp} {attrs:List aCE}
theorem bYa (k:List Int->Option R)(hl:els.length<=1000000):∀ (r:List aAP) (n i:Nat) (acc:List Int),els.drop i=r->r.length<n->acc.length=i ->
  bW5 N k n i nm ins els nodes rules outs attrs (acc++List.replicate r.length 0)=k (acc++elI r)
 | [],n,i,acc,h,hr,ha=>by
  obtain⟨n,rfl⟩:=sc hr
  rw[bW5,aAc (aAm h)];rfl
 | x :: r,n,i,acc,h,hr,ha=>by
  obtain⟨n,rfl⟩:=sc hr
  obtain⟨h1,h2,h3⟩:=aAh h
  have hl':i<(acc++List.replicate (x :: r).length 0).length:=by simp;omega
  rw[bW5,aAd (by omega),h2,aAe,aSL (by omega) (by omega),cond_true,Int.toNat_natCast,List.getElem?_eq_getElem hl',aAe,aAl (by omega),List.set_append_right _ _ (by omega),ha,Nat.sub_self]
  have:=bYa k hl r n (i+1) (acc++[x.2.2.2.1]) h3 (by simp at hr;omega) (by simp[ha])
  rw[List.append_assoc,List.append_assoc]at this
  exact this
theorem cBZ (hN:els.length<N)(hl:els.length<=1000000)(k:List Int->Option R):bXE N nm ins els nodes rules outs attrs k=k (elI els):=by
 unfold bXE
 rw[aAd (by omega),aBs (by omega),cond_true]
 exact bYa k hl els N 0 [] rfl (by omega) rfl
theorem bZK {a b:List Int}(ha:a.length<=1000)(hb:b.length<=1000)(k:List Int->Option R):bW2 N a b k=k (a++b):=by
 unfold bW2
 rw[aK2 N a (by omega),aBs (by omega),cond_true]
theorem bYA (hv:DV ins els nodes rules outs){inp s:List Int}(hi:LV (inW ins) inp)(hs:LV (elW els) s):inp.length<=1000∧s.length<=1000:=by
 have h1:=hi.1;have h2:=hs.1;have h3:=(aOj hv.chk).1
 unfold aIV at h3
 unfold inW at h1
 unfold elW at h2
 rw[List.length_append,<- h1,<- h2]at h3
 omega
theorem bZ0 (hN:1000<=N)(hv:DV ins els nodes rules outs){inp s:List Int}(hi:LV (inW ins) inp)(hs:LV (elW els) s){a:Nat}(ha:a<rules.length)(k:Bool->Option R) :
  bXz N nm ins els nodes rules outs attrs a inp s k=k (decide (w0 (dV nodes inp s) rules[a].2.1.toNat=1)):=by
 obtain⟨l1,l2⟩:=bYA hv hi hs
 have hg:=(hv.rulesW _ (List.getElem_mem ha)).1
 unfold aFw at hg
 rw[Bool.and_eq_true]at hg
 unfold bXz
 rw[bZK l1 l2,bYy hN (bYE hi hs) hv.chk,aHb ha,aAe,show nvG (inp++s) nodes nodes []=dV nodes inp s from rfl,bZ1 hv hi hs hg.1,aAe]
theorem bYd (k:List Int->Option R)(V:List Int)(l:List WrT)(hl:l.length<=1000000)(m:Nat)(hV:∀ x,x∈l->(0<=x.1∧x.1<=(m:Int)-1)∧at? V x.2.1=some (w0 V x.2.1.toNat)∧at? V x.2.2=some (w0 V x.2.2.toNat)):∀ (r:List WrT) (n i:Nat) (s:List Int),l.drop i=r->r.length<n->s.length=m ->
  bWY N k n V l i s=k (hap V r s)
 | [],n,i,s,h,hn,ha=>by
  obtain⟨n,rfl⟩:=sc hn
  rw[bWY,aAc (aAm h)];rfl
 | x :: r,n,i,s,h,hn,ha=>by
  obtain⟨n,rfl⟩:=sc hn
  obtain⟨h1,h2,h3⟩:=aAh h
  have hx:=hV x (List.mem_of_mem_drop (h▸List.mem_cons_self:x∈l.drop i))
  rw[bWY,aAd (by omega)]
  simp only[h2,aAe,hx.2.1,hx.2.2]
  rw[aAl (by omega)]
  by_cases c:w0 V x.2.1.toNat=1
  ·rw[aAd c,aSL hx.1.1 (by omega),cond_true,List.getElem?_eq_getElem (by omega),aAe,bYd k V l hl m hV r n (i+1) _ h3 (by simp at hn;omega) (by simpa using ha)]
   show _=k (hap V r (if _ then _ else _))
   rw[if_pos c]
  ·rw[aAc c,bYd k V l hl m hV r n (i+1) _ h3 (by simp at hn;omega) ha]
   show _=k (hap V r (if _ then _ else _))
   rw[if_neg c]
theorem bZJ (hN:1000<=N)(hv:DV ins els nodes rules outs){inp s:List Int}(hi:LV (inW ins) inp)(hs:LV (elW els) s){a:Nat}(ha:a<rules.length)(k:List Int->Option R) :
  bXu N nm ins els nodes rules outs attrs a inp s k=k (hap (dV nodes inp s) rules[a].2.2 s):=by
 obtain⟨l1,l2⟩:=bYA hv hi hs
 have hx:=hv.rulesW _ (List.getElem_mem ha)
 have hsl:=hs.1
 unfold elW at hsl
 rw[List.length_map]at hsl
 unfold bXu
 rw[bZK l1 l2,bYy hN (bYE hi hs) hv.chk,aK2 N s (by omega),aHb ha,aAe,show nvG (inp++s) nodes nodes []=dV nodes inp s from rfl]
 refine bYd k _ _ (by omega) els.length (fun y hy=>?_) _ N 0 s rfl (by omega) hsl
 obtain⟨q1,q2,q3,q4⟩:=hx.2.2 y hy
 unfold aFw at q2
 rw[Bool.and_eq_true]at q2
 exact⟨q1,bZ1 hv hi hs q2.1,bZ1 hv hi hs q3⟩
end
section
variable {N:Nat} (nm:ByteArray) (ins:List aAp) {els:List aAP} {nodes:List Nd} (l:List aA1) (outs:List aAp) (attrs:List aCE)
end
section
variable {N:Nat} (nm:ByteArray) (ins:List aAp) {els:List aAP} {nodes:List Nd} (rules:List aA1) (outs:List aAp) (attrs:List aCE)
end
def aKw (els:List aAP)(i:Int):Int:=((els[i.toNat]?).map (·.2.2.2.2)).getD 0
def aNQ (els:List aAP)(wr:List WrT):Int:=match wr with
 | []=>-1
 | y :: _=>aKw els y.1
def aHz (els:List aAP)(wr:List WrT):Bool:=wr.any fun w=>decide (aKw els w.1≠aNQ els wr)
def aDI (els:List aAP)(rules:List aA1):Int:=if (rules.any fun x=>aHz els x.2.2)=true then 30 else 0
theorem aLM {els:List aAP}{i:Int}(h0:0<=i)(h1:i<=(els.length:Int)-1):∃ e,e∈els∧at? els i=some e∧e.2.2.2.2=aKw els i:=by
 obtain⟨a,rfl⟩:∃ a:Nat,i=a:=⟨i.toNat,by omega⟩
 have ha:a<els.length:=by omega
 refine⟨els[a],List.getElem_mem _,aHb ha,?_⟩
 unfold aKw
 rw[Int.toNat_natCast,List.getElem?_eq_getElem ha];rfl
def WIn (els:List aAP)(wr:List WrT):Prop:=∀ x,x∈wr->0<=x.1∧x.1<=(els.length:Int)-1
section
variable (N:Nat) {nm:ByteArray} {ins:List aAp} {els:List aAP} {nodes:List Nd} {rules:List aA1} {outs:List aAp} {attrs:List aCE} {lw:List Int}
theorem bQz {i:Int}(h0:0<=i)(h1:i<=(els.length:Int)-1)(k:Int->KD (List Int->Option R)):aCY N i nm ins els nodes rules outs attrs lw k=k (aKw els i) nm ins els nodes rules outs attrs lw:=by
 obtain⟨e,_,h2,h3⟩:=aLM h0 h1
 unfold aCY
 rw[h2,aAe,h3]
theorem bKO (k0:Int->KD (List Int->ByteArray->Int->List WrT->Option R))(k1:KD (List Int->ByteArray->Int->List WrT->Option R))(s:ByteArray)(g:Int)(wr:List WrT)(hl:wr.length<=1000000)(hW:WIn els wr)(y:WrT)(hy:at? wr 0=some y)(hd:aNQ els wr=aKw els y.1)(hyW:0<=y.1∧y.1<=(els.length:Int)-1):∀ (r:List WrT) (n i:Nat),wr.drop i=r->r.length<n->(∀ x,x∈r->x∈wr) ->
  ∃ j:Nat,aAk N k0 k1 n wr wr.length i nm ins els nodes rules outs attrs lw s g wr=if (r.any fun w=>decide (aKw els w.1≠aNQ els wr))=true then k0 j nm ins els nodes rules outs attrs lw s g wr else k1 nm ins els nodes rules outs attrs lw s g wr
 | [],n,i,h,hn,hm=>by
  obtain⟨n,rfl⟩:=sc hn
  exact⟨0,by rw[aAk,aAc (aAm h)];rfl⟩
 | x :: r,n,i,h,hn,hm=>by
  obtain⟨n,rfl⟩:=sc hn
  obtain⟨g1,g2,g3⟩:=aAh h
  have hx:=hW x (hm x List.mem_cons_self)
  rw[aAk,aAd (by omega),g2,aAe,aFl,bQz N hx.1 hx.2,hy,aAe,bQz N hyW.1 hyW.2,<- hd]
  by_cases c:aKw els x.1≠aNQ els wr
  ·exact⟨i,by rw[aAd c,List.any_cons,decide_eq_true c,Bool.true_or,if_pos rfl]⟩
  ·rw[aAc c,List.any_cons,decide_eq_false c,Bool.false_or,aAl (by omega)]
   exact bKO k0 k1 s g wr hl hW y hy hd hyW r n (i+1) g3 (by simp at hn;omega) fun z hz=>hm z (List.mem_cons_of_mem _ hz)
theorem bJB {wr:List WrT}(hl:wr.length<=1000000)(hN:wr.length<N)(hW:WIn els wr)(i:Int)(s:ByteArray)(g:Int)(k:Int->KD (List Int->Option R)):aFe N i s g wr nm ins els nodes rules outs attrs lw k=k (if aHz els wr=true then 30 else 0) nm ins els nodes rules outs attrs lw:=by
 have key:aAO N wr nm ins els nodes rules outs attrs lw s g wr (fun y1 y2 y3 y4 y5 y6 y7 y8 y9 y10 y11 y12=>(aA8 N (!y1) 30 (fun y13=>(k y13 y2 y3 y4 y5 y6 y7 y8 y9))))=aA8 N (!aHz els wr) 30 (fun y13=>k y13 nm ins els nodes rules outs attrs lw):=by
  unfold aAO aBn
  cases wr with
  | nil=>
   obtain⟨n,rfl⟩:∃ m,N=m+1:=⟨N-1,by simp at hN;omega⟩
   rw[aAk,aAc (by simp)]
   rfl
  | cons y t=>
   obtain⟨j,e⟩:=bKO (nm:=nm) (ins:=ins) (nodes:=nodes) (rules:=rules) (outs:=outs) (attrs:=attrs) (lw:=lw) N (fun y1 y2 y3 y4 y5 y6 y7 y8 y9 y10 y11 y12=>(aA8 N (!decide (0<=y1)) 30 (fun y13=>(k y13 y2 y3 y4 y5 y6 y7 y8 y9)))) (fun z26 z27 z28 z29 z30 z31 z32 z33 z34 z35 z36=>(aA8 N (!decide ((0:Int)<=-1)) 30 (fun y13=>(k y13 z26 z27 z28 z29 z30 z31 z32 z33)))) s g (y :: t) hl hW y rfl rfl (hW y List.mem_cons_self) (y :: t) N 0 rfl hN (fun x hx=>hx)
   refine e.trans ?_
   show _=aA8 N (!((y :: t).any fun w=>decide (aKw els w.1≠aNQ els (y :: t)))) 30 _
   cases c:((y :: t).any fun w=>decide (aKw els w.1≠aNQ els (y :: t)))
   ·rw[if_neg (by simp)];rfl
   ·rw[if_pos rfl,decide_eq_true (by omega)]
 unfold aFe
 rw[key]
 unfold aA8
 cases aHz els wr <;> rfl
theorem aZi (k0:Int->KD (List Int->Option R))(k1:KD (List Int->Option R))(l:List aA1)(hl:l.length<=1000000)(hW:∀ x,x∈l->x.2.2.length<=1000000∧x.2.2.length<N∧WIn els x.2.2):∀ (r:List aA1) (n i:Nat),l.drop i=r->r.length<n ->
  aA2 N k0 k1 n l l.length i nm ins els nodes rules outs attrs lw=if aDI els r=0 then k1 nm ins els nodes rules outs attrs lw else k0 (aDI els r) nm ins els nodes rules outs attrs lw
 | [],n,i,h,hn=>by
  obtain⟨n,rfl⟩:=sc hn
  rw[aA2,aAc (aAm h)];rfl
 | x :: r,n,i,h,hn=>by
  obtain⟨n,rfl⟩:=sc hn
  obtain⟨g1,g2,g3⟩:=aAh h
  have hx:l[i]? = some x:=by rw[<- g2];unfold at?;simp
  obtain⟨q1,q2,q3⟩:=hW x (List.mem_of_getElem? hx)
  rw[aA2,aAd (by omega),g2,aAe,bJB N q1 q2 q3]
  cases c:aHz els x.2.2
  ·rw[if_neg (by simp),aAc (by simp),aAl (by omega),aZi k0 k1 l hl hW r n (i+1) g3 (by simp at hn;omega)]
   unfold aDI
   rw[List.any_cons,c,Bool.false_or]
  ·rw[if_pos rfl,aAd (by decide)]
   unfold aDI
   rw[List.any_cons,c,Bool.true_or,if_pos rfl,if_neg (by decide)]
end
theorem aLw:∀ {l:List aAP} {S:List ByteArray},aFn S l=0->∀ x,x∈l->0<=x.2.2.2.2∧x.2.2.2.2<=3
 | [],S,_,x,hx=>absurd hx (by simp)
 | y :: r,S,h,x,hx=>by
  obtain⟨c1,c2⟩:=f1_0.1 (show f1 (aPr S y) (aFn (y.1 :: S) r)=0 from h)
  rcases List.mem_cons.1 hx with rfl | hx
  ·obtain⟨_,c4⟩:=f1_0.1 (show f1 _ _=0 from c1)
   exact (if0 (by decide) c4).2
  ·exact aLw c2 x hx
def aHS (nm:ByteArray)(ins:List aAp)(els:List aAP)(nodes:List Nd)(rules:List aA1)(outs:List aAp)(attrs:List aCE):Int:=
 if aHq nm ins els nodes rules outs attrs≠0 then aHq nm ins els nodes rules outs attrs else aDI els rules
theorem aI6 {ins:List aAp}{els:List aAP}{nodes:List Nd}{rules:List aA1}{outs:List aAp}(hv:DV ins els nodes rules outs){x:aA1}(hx:x∈rules):x.2.2.length<=16∧WIn els x.2.2:=
 ⟨(hv.rulesW x hx).2.1,fun y hy=>((hv.rulesW x hx).2.2 y hy).1⟩
section
variable {N:Nat} {nm:ByteArray} {ins:List aAp} {els:List aAP} {nodes:List Nd} {rules:List aA1} {outs:List aAp} {attrs:List aCE}
theorem opA (k0:KD (KD (List Int->Option R)))(nm2:ByteArray)(l ins2:List aAp)(els2:List aAP)(nodes2:List Nd)(rules2:List aA1)(outs2:List aAp)(attrs2:List aCE)(hl:l.length<=1000000):∀ (r:List aAp) (n i:Nat) (acc:List Int),l.drop i=r->r.length<n->acc.length<=i ->
  aCV N k0 n l l.length i nm ins els nodes rules outs attrs nm2 ins2 els2 nodes2 rules2 outs2 attrs2 acc=k0 nm ins els nodes rules outs attrs nm2 ins2 els2 nodes2 rules2 outs2 attrs2 (acc++r.map (·.2))
 | [],n,i,acc,h,hn,ha=>by
  obtain⟨n,rfl⟩:=sc hn
  rw[aCV,aAc (aAm h)];simp
 | x :: r,n,i,acc,h,hn,ha=>by
  obtain⟨n,rfl⟩:=sc hn
  obtain⟨g1,g2,g3⟩:=aAh h
  rw[aCV,aAd (by omega),g2,aAe,aBs (by omega),cond_true,aAl (by omega),opA k0 nm2 l ins2 els2 nodes2 rules2 outs2 attrs2 hl r n (i+1) _ g3 (by simp at hn;omega) (by simp;omega)]
  simp
theorem opB (k0:KD (KD (List Int->Option R)))(nm2:ByteArray)(ins2:List aAp)(l els2:List aAP)(nodes2:List Nd)(rules2:List aA1)(outs2:List aAp)(attrs2:List aCE)(hl:l.length<=1000000)(c:Nat)(hc:c<=1000000):∀ (r:List aAP) (n i:Nat) (acc:List Int),l.drop i=r->r.length<n->acc.length<=i+c ->
  aCW N k0 n l l.length i nm ins els nodes rules outs attrs nm2 ins2 els2 nodes2 rules2 outs2 attrs2 acc=k0 nm ins els nodes rules outs attrs nm2 ins2 els2 nodes2 rules2 outs2 attrs2 (acc++r.map (·.2.2.1))
 | [],n,i,acc,h,hn,ha=>by
  obtain⟨n,rfl⟩:=sc hn
  rw[aCW,aAc (aAm h)];simp
 | x :: r,n,i,acc,h,hn,ha=>by
  obtain⟨n,rfl⟩:=sc hn
  obtain⟨g1,g2,g3⟩:=aAh h
  rw[aCW,aAd (by omega),g2,aAe,aBs (by omega),cond_true,aAl (by omega),opB k0 nm2 ins2 l els2 nodes2 rules2 outs2 attrs2 hl c hc r n (i+1) _ g3 (by simp at hn;omega) (by simp;omega)]
  simp
theorem aY8 (hN:1000<=N)(h:DH N nm ins els nodes rules outs attrs)(k0:Int->Option R)(k1:KD (List Int->Int->Option R)) :
  aDo N nm ins els nodes rules outs attrs k0 k1=if aHq nm ins els nodes rules outs attrs≠0 then k0 (aHq nm ins els nodes rules outs attrs)else k1 nm ins els nodes rules outs attrs (aIV ins els) (aDI els rules):=by
 unfold aDo
 obtain⟨j,e⟩:=aPK hN h (fun y1 y2=>(bif decide (y2≠0)then (k0 y2)else (aCV N (fun z3 z4 z5 z6 z7 z8 z9 z10 z11 z12 z13 z14 z15 z16 z17=>(aCW N (fun z18 z19 z20 z21 z22 z23 z24 z25 z26 z27 z28 z29 z30 z31 z32=>(aCv N z22 z25 z26 z27 z28 z29 z30 z31 z32 (fun y33 y34 y35 y36 y37 y38 y39 y40 y41=>(k1 y34 y35 y36 y37 y38 y39 y40 y41 y33)))) N z5 ((z5.length:Nat):Int) 0 z3 z4 z5 z6 z7 z8 z9 z10 z11 z12 z13 z14 z15 z16 z17)) N ins ((ins.length:Nat):Int) 0 nm ins els nodes rules outs attrs nm ins els nodes rules outs attrs [])))
 refine e.trans ?_
 try dsimp only
 by_cases c:aHq nm ins els nodes rules outs attrs=0
 rotate_left
 ·rw[aAd c,if_pos c]
 rw[aAc (by simpa using c),if_neg (by simpa using c)]
 have hv:=bEG c
 have h1:=h.ins;have h2:=h.els;have h4:=h.rules
 refine (opA _ nm ins ins els nodes rules outs attrs h1.1 ins N 0 [] rfl h1.2.1 (by simp)).trans ?_
 try dsimp only
 refine (opB _ nm ins els els nodes rules outs attrs h2.1 ins.length h1.1 els N 0 _ rfl h2.2.1 (by simp)).trans ?_
 try dsimp only
 unfold aCv
 rw[List.nil_append,show ins.map (·.2)++els.map (·.2.2.1)=aIV ins els from rfl]
 refine (aZi N _ _ rules h4.1 (fun x hx=>⟨by have:=(aI6 hv hx).1;omega,by have:=(aI6 hv hx).1;omega,(aI6 hv hx).2⟩) rules N 0 rfl h4.2.1).trans ?_
 split
 ·rename_i q;rw[q]
 ·rfl
end
def bC5:Int->List Int->Option Int
 | d,[]=>some d
 | d,c :: r=>if d≠-1∧c≠d then none else bC5 c r
theorem aSx:∀ (r:List Int) (d:Int),0<=d->bC5 d r=if (r.any fun c=>decide (c≠d))=true then none else some d
 | [],d,h=>rfl
 | c :: r,d,h=>by
  unfold bC5
  rw[List.any_cons]
  by_cases q:c=d
  ·subst q
   rw[if_neg (by simp),aSx r c h]
   simp
  ·rw[if_pos ⟨by omega,q⟩,decide_eq_true q,Bool.true_or,if_pos rfl]
def CLK (els:List aAP):Prop:=∀ e,e∈els->0<=e.2.2.2.2∧e.2.2.2.2<=3
theorem aYq {els:List aAP}(hC:CLK els){i:Int}(h0:0<=i)(h1:i<=(els.length:Int)-1):0<=aKw els i∧aKw els i<=3:=by
 obtain⟨e,h2,_,h3⟩:=aLM h0 h1
 rw[<- h3];exact hC e h2
theorem bKP {els:List aAP}(hC:CLK els){wr:List WrT}(hW:WIn els wr):bC5 (-1) (wr.map fun w=>aKw els w.1)=if aHz els wr=true then none else some (aNQ els wr):=by
 cases wr with
 | nil=>rfl
 | cons y t=>
  have hy:=hW y List.mem_cons_self
  have:=aYq hC hy.1 hy.2
  rw[List.map_cons,bC5,if_neg (by simp),aSx _ _ this.1]
  unfold aHz aNQ
  rw[List.any_cons,List.any_map,decide_eq_false (show ¬(aKw els y.1≠aKw els y.1) by simp),Bool.false_or]
  rfl
section
variable {N:Nat} {nm:ByteArray} {ins:List aAp} {els:List aAP} {nodes:List Nd} {rules:List aA1} {outs:List aAp} {attrs:List aCE}
theorem aK6 (k0:Int->Bool->Option R)(k1:Int->Option R){i:Int}{x:aA1}(hx:at? rules i=some x)(hl:x.2.2.length<=1000000)(hW:WIn els x.2.2):∀ (r:List WrT) (n j:Nat) (d:Int),x.2.2.drop j=r->r.length<n ->
  aBm N k0 k1 n i d j nm ins els nodes rules outs attrs=match bC5 d (r.map fun w=>aKw els w.1)with | none=>k0 0 false | some e=>k1 e
 | [],n,j,d,h,hn=>by
  obtain⟨n,rfl⟩:=sc hn
  rw[aBm,hx,aAe,aAc (aAm h)];rfl
 | y :: r,n,j,d,h,hn=>by
  obtain⟨n,rfl⟩:=sc hn
  obtain⟨g1,g2,g3⟩:=aAh h
  have hy:x.2.2[j]? = some y:=by rw[<- g2];unfold at?;simp
  have hw:=hW y (List.mem_of_getElem? hy)
  obtain⟨e,_,q2,q3⟩:=aLM hw.1 hw.2
  rw[aBm,hx,aAe,aAd (by omega),aAe,g2,aAe,q2,aAe,q3,aAl (by omega),aK6 k0 k1 hx hl hW r n (j+1) _ g3 (by simp at hn;omega),List.map_cons,bC5]
  by_cases c1:d=-1
  ·rw[aAc (by simpa using c1),if_neg (by simp[c1])]
  ·rw[aAd c1]
   by_cases c2:aKw els y.1=d
   ·rw[aAc (by simpa using c2),if_neg (by simp[c2])]
   ·rw[aAd c2,if_pos ⟨c1,c2⟩]
theorem bAc (hC:CLK els){i:Int}{x:aA1}(hx:at? rules i=some x)(hl:x.2.2.length<=1000000)(hN:x.2.2.length<N)(hW:WIn els x.2.2)(k:Int->Bool->Option R):aDb N nm ins els nodes rules outs attrs i k=if aHz els x.2.2=true then k 0 false else k (aNQ els x.2.2) true:=by
 unfold aDb
 refine (aK6 k _ hx hl hW x.2.2 N 0 (-1) rfl hN).trans ?_
 rw[bKP hC hW]
 split <;> rename_i q <;> split at q <;> simp_all
theorem bJH {r:List aA1}(h:aDI els r=0):∀ x,x∈r->aHz els x.2.2=false:=by
 intro x hx
 cases c:aHz els x.2.2
 ·rfl
 ·unfold aDI at h
  rw[if_pos (List.any_eq_true.2 ⟨x,hx,c⟩)]at h
  exact absurd h (by decide)
end
section
variable {N:Nat} {nm:ByteArray} {ins:List aAp} {els:List aAP} {nodes:List Nd} {rules:List aA1} {outs:List aAp} {attrs:List aCE} {lw:List Int}
structure CV (N:Nat) (ins:List aAp) (els:List aAP) (nodes:List Nd) (rules:List aA1) (outs:List aAp):Prop where
 dv:DV ins els nodes rules outs
 clk:CLK els
 len:rules.length<=1000000∧rules.length<N
 wr:∀ x,x∈rules->x.2.2.length<=1000000∧x.2.2.length<N∧WIn els x.2.2
 cr:∀ x,x∈rules->aHz els x.2.2=false
theorem bDM (hN:1000<=N)(h:DH N nm ins els nodes rules outs attrs)(hc:aHS nm ins els nodes rules outs attrs=0):aHq nm ins els nodes rules outs attrs=0∧aDI els rules=0∧CV N ins els nodes rules outs:=by
 unfold aHS at hc
 by_cases c:aHq nm ins els nodes rules outs attrs=0
 ·rw[if_neg (by simpa using c)]at hc
  have hv:=bEG c
  refine⟨c,hc,hv,fun e he=>?_,⟨h.rules.1,h.rules.2.1⟩,fun x hx=>⟨by have:=(aI6 hv hx).1;omega,by have:=(aI6 hv hx).1;omega,(aI6 hv hx).2⟩,bJH hc⟩
  unfold aHq at c
  simp only[f1_0]at c
  exact aLw c.2.2.2.1 e he
 ·rw[if_pos c]at hc;exact absurd hc c
end
theorem aQj {lw:List Int}{all:List Nd}:∀ {r:List Nd} {i:Nat},aGZ lw all i r=0->∀ (j:Nat) (x:Nd),r[j]? = some x->aJQ lw all ((i+j:Nat):Int) x=0
 | [],i,_,j,x,hx=>by simp at hx
 | y :: r,i,h,j,x,hx=>by
  rw[aIL]at h
  obtain⟨h1,h2⟩:=f1_0.1 h
  cases j with
  | zero=>
    obtain rfl:y=x:=by simpa using hx
    exact h1
  | succ j=>
   have:=aQj h2 j x (by simpa using hx)
   rwa [show i+1+j=i+(j+1) by omega]at this
structure NB (nl:Nat) (nodes:List Nd):Prop where
 len:nodes.length<=400
 args:∀ x,x∈nodes->x.2.2.1.length<=3∧∀ a,a∈x.2.2.1->0<=a∧a<(nodes.length:Int)
 leaf:∀ x,x∈nodes->x.1=1->0<=x.2.2.2∧x.2.2.2<(nl:Int)
theorem bCC {op:Int}:aOs op<=3:=by unfold aOs;split <;> (try split) <;> (try split) <;> omega
theorem bKC {lw:List Int}{nodes:List Nd}(h:aQR lw nodes=0):NB lw.length nodes:=by
 obtain⟨_,_,h3,h4⟩:=aOj h
 refine⟨h3,fun x hx=>?_,fun x hx hop=>?_⟩
 all_goals
  obtain⟨j,hj,e⟩:=List.getElem_of_mem hx
  have q:=aQj h4 j x (by rw[List.getElem?_eq_getElem hj,e])
  obtain⟨q1,q2,q3,q4,q5,q6⟩:=aPs q
 ·refine⟨by have:=bCC (op:=x.1);omega,fun a ha=>?_⟩
  unfold aNS at q4
  have:=List.any_eq_false.1 q4 a ha
  simp only[Bool.not_eq_true',decide_eq_false_iff_not,Classical.not_not]at this
  omega
 ·unfold aJg at q5
  rw[hop,if_neg (by decide),if_pos rfl]at q5
  by_cases c:0<=x.2.2.2∧x.2.2.2<=(lw.length:Int)-1
  ·omega
  ·rw[if_neg c]at q5;exact absurd q5 (by decide)
theorem aKC (k:Nat):∀ (l:List Int) (o:List Bool),(∀ a,a∈l->0<=a∧a<(o.length:Int))->aFM k o l=if (o[k]?).getD false=true then aGR o l else o
 | [],o,h=>by unfold aFM aGR;simp
 | a :: r,o,h=>by
  have ha:=h a List.mem_cons_self
  unfold aFM
  by_cases c:(o[k]?).getD false=true
  ·rw[c,Bool.or_true,aKC k r _ fun b hb=>by rw[List.length_set];exact h b (List.mem_cons_of_mem _ hb),if_pos rfl,if_pos,aGR]
   rw[List.getElem?_set]
   split
   ·split
    ·rfl
    ·rename_i q1 q2;subst q1;rw[List.getElem?_eq_none (by omega)]at c;exact absurd c (by simp)
   ·exact c
  ·have e:o.set a.toNat ((o[a.toNat]?).getD false||(o[k]?).getD false)=o:=by
    have c':(o[k]?).getD false=false:=by simpa using c
    rw[c',Bool.or_false,List.getElem?_eq_getElem (show a.toNat<o.length by omega)]
    simp
   rw[e,aKC k r o fun b hb=>h b (List.mem_cons_of_mem _ hb),if_neg c,if_neg c]
theorem aLt {a:Int}{n:Nat}(h0:0<=a)(h:a<(n:Int)):inR a n=true:=by unfold inR;simp;omega
section
variable {N:Nat}
theorem bAo (nodes:List Nd)(k0:List Nd->List Bool->Option R)(l:List Int)(hl:l.length<=1000000)(m:Nat)(ha:∀ a,a∈l->0<=a∧a<(m:Int)):∀ (r:List Int) (n i:Nat) (o:List Bool),l.drop i=r->r.length<n->o.length=m ->
  aCn N k0 n nodes l i o=k0 nodes (aGR o r)
 | [],n,i,o,h,hn,ho=>by
  obtain⟨n,rfl⟩:=sc hn
  rw[aCn,aAc (aAm h)];rfl
 | x :: r,n,i,o,h,hn,ho=>by
  obtain⟨n,rfl⟩:=sc hn
  obtain⟨g1,g2,g3⟩:=aAh h
  have hx:l[i]? = some x:=by rw[<- g2];unfold at?;simp
  have hb:=ha x (List.mem_of_getElem? hx)
  rw[aCn,aAd (by omega),g2,aAe,aLt hb.1 (by omega),cond_true,List.getElem?_eq_getElem (show x.toNat<o.length by omega),aAe,aAl (by omega),bAo nodes k0 l hl m ha r n (i+1) _ g3 (by simp at hn;omega) (by simpa using ho)]
  rfl
theorem aZy (nodes:List Nd)(k0:List Nd->Int->List Bool->Option R){i:Nat}{x:Nd}(hx:at? nodes (i:Int)=some x)(hl:x.2.2.1.length<=3)(ha:∀ a,a∈x.2.2.1->0<=a∧a<(nodes.length:Int)):∀ (r:List Int) (n j:Nat) (o:List Bool),x.2.2.1.drop j=r->r.length<n->o.length=nodes.length->i<nodes.length ->
  aCo N k0 n nodes i j o=k0 nodes i (aFM i o r)
 | [],n,j,o,h,hn,ho,hi=>by
  obtain⟨n,rfl⟩:=sc hn
  rw[aCo,aLt (by omega) (by omega),cond_true,Int.toNat_natCast,List.getElem?_eq_getElem (show i<o.length by omega),aAe]
  cases o[i]
  ·rfl
  ·rw[cond_true,hx,aAe,aAc (aAm h)];rfl
 | a :: r,n,j,o,h,hn,ho,hi=>by
  obtain⟨n,rfl⟩:=sc hn
  obtain⟨g1,g2,g3⟩:=aAh h
  have hm:∀ b,b∈a :: r->0<=b∧b<(o.length:Int):=fun b hb=>by rw[ho];exact ha b (List.mem_of_mem_drop (h▸hb))
  have hb:=hm a List.mem_cons_self
  rw[aCo,aLt (by omega) (by omega),cond_true,Int.toNat_natCast,List.getElem?_eq_getElem (show i<o.length by omega),aAe,aKC i _ o hm,List.getElem?_eq_getElem (show i<o.length by omega),Option.getD_some]
  cases c:o[i]
  ·rw[cond_false,if_neg (by simp)]
  ·rw[cond_true,hx,aAe,aAd (by omega),aAe,g2,aAe,aLt hb.1 hb.2,cond_true,List.getElem?_eq_getElem (show a.toNat<o.length by omega),aAe,aAl (by omega),aZy nodes k0 hx hl ha r n (j+1) _ g3 (by simp at hn;omega) (by simpa using ho) hi,if_pos rfl,aKC i r _ fun b hb=>by rw[List.length_set];exact hm b (List.mem_cons_of_mem _ hb)]
   rw[if_pos]
   ·rfl
   ·rw[List.getElem?_set]
    split
    ·split
     ·rfl
     ·omega
    ·rw[List.getElem?_eq_getElem (show i<o.length by omega),c];rfl
theorem bAA {nl:Nat}(hN:1000<=N){nodes:List Nd}(hb:NB nl nodes)(k0:List Bool->Option R):∀ (m n:Nat) (o:List Bool),m<=nodes.length->m<n->o.length=nodes.length->aCq N k0 n nodes ((m:Int)-1) o=k0 (aXu (aEr nodes) m o)
 | 0,n,o,hm,hn,ho=>by
  obtain⟨n,rfl⟩:∃ m,n=m+1:=⟨n-1,by omega⟩
  rw[aCq,aAc (by omega)];rfl
 | m+1,n,o,hm,hn,ho=>by
  obtain⟨n,rfl⟩:∃ m,n=m+1:=⟨n-1,by omega⟩
  have hl:=hb.len
  obtain⟨h1,h2⟩:=hb.args nodes[m] (List.getElem_mem _)
  rw[aCq,aAd (by omega),show ((m+1:Nat):Int)-1=(m:Int) by omega]
  refine (aZy nodes _ (aHb (show m<nodes.length by omega)) h1 h2 nodes[m].2.2.1 N 0 o rfl (by omega) ho (by omega)).trans ?_
  rw[aDt (by omega) (by omega),bAA hN hb k0 m n _ (by omega) (by omega) (by rw[aH7];exact ho),aXu]
  have e:((aEr nodes)[m]?).getD []=nodes[m].2.2.1:=by unfold aEr;rw[List.getElem?_map,List.getElem?_eq_getElem (show m<nodes.length by omega)];rfl
  rw[e]
def BL (nodes:List Nd)(l:List Int):Prop:=l.length<=1000∧∀ a,a∈l->0<=a∧a<(nodes.length:Int)
theorem bPx {nl:Nat}(hN:2000<=N){nodes:List Nd}(hb:NB nl nodes){l:List Int}(hl:BL nodes l)(k:List Bool->Option R):aEM N nodes l k=k (aOd (aEr nodes) l):=by
 have h1:=hb.len;have h2:=hl.1
 unfold aEM aOd
 rw[aAd (by omega),aBs (by omega),cond_true]
 refine (bAo nodes _ l (by omega) nodes.length hl.2 l N 0 _ rfl (by omega) (by simp)).trans ?_
 try dsimp only
 rw[aDt (by omega) (by omega)]
 refine (bAA (by omega) hb k nodes.length N _ (Nat.le_refl _) (by omega) (by rw[aHC];simp)).trans ?_
 rw[show (aEr nodes).length=nodes.length by unfold aEr;simp]
end
section
variable {N:Nat}
end
section
variable {N:Nat} {nm:ByteArray} {ins:List aAp} {els:List aAP} {nodes:List Nd} {rules:List aA1} {outs:List aAp} {attrs:List aCE} {lw:List Int}
end
theorem aXC (m:Nat)(k:Bool->Option R):aFB (m+2000) k=k true:=by kernel_rfl
section
variable {N:Nat}
theorem aPa (k0:Bool->Option R)(k1:Option R)(l:List Int)(hl:l.length<=1000000):∀ (r:List Int) (n i:Nat),l.drop i=r->r.length<n->aCA N k0 k1 n l l i=k1
 | [],n,i,h,hn=>by
  obtain⟨n,rfl⟩:=sc hn
  rw[aCA,aAc (aAm h)]
 | x :: r,n,i,h,hn=>by
  obtain⟨n,rfl⟩:=sc hn
  obtain⟨g1,g2,g3⟩:=aAh h
  rw[aCA,aAd (by omega),g2,aAe,aAe,aAc (by simp),aAl (by omega)]
  exact aPa k0 k1 l hl r n (i+1) g3 (by simp at hn;omega)
theorem bDr (l:List Int)(hl:l.length<=1000000)(hN:l.length<N)(k:Bool->Option R):aCr N l l k=k true:=by
 unfold aCr
 rw[aAc (by simp)]
 exact aPa k (k true) l hl l N 0 rfl hN
end
def rsl (f:aAP->Bool):List aAP->List Int->List Int
 | e :: r,x :: s=>(bif f e then e.2.2.2.1 else x) :: rsl f r s
 | _,s=>s
theorem bZR (f:aAP->Bool):∀ (l:List aAP) (s:List Int),(rsl f l s).length=s.length
 | [],s=>by rw[rsl];intros;simp_all
 | e :: r,[]=>by rw[rsl];intros;simp_all
 | e :: r,x :: s=>by rw[rsl,List.length_cons,List.length_cons,bZR f r s]
theorem bZS (f:aAP->Bool)(s:List Int):rsl f [] s=s:=by unfold rsl;rfl
theorem bYJ (f:aAP->Bool)(e:aAP)(r:List aAP)(x:Int)(s:List Int):rsl f (e :: r) (x :: s)=(bif f e then e.2.2.2.1 else x) :: rsl f r s:=rfl
theorem LV_fit {ws l:List Int}:LV ws l↔l.length=ws.length∧bZV ws l=true:=by
 constructor
 ·intro h
  exact⟨h.1,(bYn ws l h.1).2 h.2⟩
 ·rintro ⟨h1,h2⟩
  exact⟨h1,(bYn ws l h1).1 h2⟩
theorem bZQ (f:aAP->Bool):∀ (l:List aAP) (s:List Int),(∀ x,x∈l->vok x.2.2.1 x.2.2.2.1=true)->s.length=l.length->bZV (elW l) s=true->bZV (elW l) (rsl f l s)=true
 | [],s,_,hl,h=>by rw[bZS];exact h
 | e :: r,[],_,hl,h=>by simp at hl
 | e :: r,x :: s,hv,hl,h=>by
  have h':(vok e.2.2.1 x&&bZV (elW r) s)=true:=h
  rw[Bool.and_eq_true]at h'
  have ih:=bZQ f r s (fun y hy=>hv y (List.mem_cons_of_mem _ hy)) (by simpa using hl) h'.2
  rw[bYJ]
  show (vok e.2.2.1 _&&bZV (elW r) _)=true
  rw[ih,Bool.and_true]
  cases f e
  ·exact h'.1
  ·exact hv e List.mem_cons_self
theorem bZP (f:aAP->Bool){ins:List aAp}{els:List aAP}{nodes:List Nd}{rules:List aA1}{outs:List aAp}(hv:DV ins els nodes rules outs){s:List Int}(hs:LV (elW els) s):LV (elW els) (rsl f els s):=by
 rw[LV_fit]at hs ⊢
 have hw:(elW els).length=els.length:=by unfold elW;simp
 exact⟨by rw[bZR];exact hs.1,bZQ f els s (fun x hx=>(hv.elsW x hx).2.2.1) (by omega) hs.2⟩
def cB4 (dom:Int)(e:aAP):Bool:=decide (e.2.1=1)&&decide (e.2.2.2.2=dom)
def tkL (nodes:List Nd)(els:List aAP)(dom:Int)(inp:List Int):Nat->List aA1->List Int->List Int->List Int×List Int
 | _,[],s,o=>(s,o)
 | i,x :: r,s,o=>if aNQ els x.2.2=dom∧w0 (dV nodes inp s) x.2.1.toNat=1 then tkL nodes els dom inp (i+1) r (hap (dV nodes inp s) x.2.2 s) (o++[(i:Int)])else tkL nodes els dom inp (i+1) r s o
theorem bYK {ins:List aAp}{els:List aAP}{nodes:List Nd}{rules:List aA1}{outs:List aAp}(hv:DV ins els nodes rules outs)(dom:Int){inp:List Int}(hi:LV (inW ins) inp):∀ (r:List aA1) (i:Nat) (s o:List Int),(∀ x,x∈r->x∈rules)->LV (elW els) s->LV (elW els) (tkL nodes els dom inp i r s o).1
 | [],i,s,o,hm,hs=>hs
 | x :: r,i,s,o,hm,hs=>by
  rw[tkL]
  split
  ·exact bYK hv dom hi r _ _ _ (fun y hy=>hm y (List.mem_cons_of_mem _ hy)) (bZM (cB1 hv hi hs).2 _ s (hv.rulesW _ (hm x List.mem_cons_self)).2.2 hs)
  ·exact bYK hv dom hi r _ _ _ (fun y hy=>hm y (List.mem_cons_of_mem _ hy)) hs
def tkS (nodes:List Nd)(els:List aAP)(rules:List aA1)(dom:Int)(inp s:List Int):List Int×List Int:=
 (rsl (cB4 dom) els (tkL nodes els dom inp 0 rules (rsl (cB4 dom) els s) []).1,(tkL nodes els dom inp 0 rules (rsl (cB4 dom) els s) []).2)
theorem cCR {ins:List aAp}{els:List aAP}{nodes:List Nd}{rules:List aA1}{outs:List aAp}(hv:DV ins els nodes rules outs)(dom:Int){inp s:List Int}(hi:LV (inW ins) inp)(hs:LV (elW els) s):LV (elW els) (tkS nodes els rules dom inp s).1:=
 bZP _ hv (bYK hv dom hi rules 0 _ [] (fun x hx=>hx) (bZP _ hv hs))
section
variable {N:Nat} {nm:ByteArray} {ins:List aAp} {els:List aAP} {nodes:List Nd} {rules:List aA1} {outs:List aAp} {attrs:List aCE} {lw:List Int}
theorem cB0 (N:Nat)(a lo hi:Int)(k:Bool->Option R):aCm N a lo hi k=k (decide (lo<=a∧a<=hi)):=by
 unfold aCm
 by_cases h:lo<=a <;> simp[h]
theorem bX4 (p s:List Int)(x:Int):p++x :: s=(p++[x])++s:=by rw[List.append_assoc];rfl
theorem cB7 (p s:List Int)(x v:Int){i:Nat}(h:p.length=i):(p++x :: s).set i v=(p++[v])++s:=by
 subst h
 rw[List.set_append_right _ _ (Nat.le_refl _),Nat.sub_self,<- bX4];rfl
theorem cB2 (p s:List Int)(x:Int){i:Nat}(h:p.length=i):(p++x :: s)[i]? = some x:=by
 subst h
 rw[List.getElem?_append_right (Nat.le_refl _),Nat.sub_self];rfl
theorem cB3 (p s:List Int)(x:Int){i:Nat}(h:p.length=i):inR (i:Int) (p++x :: s).length=true:=by
 unfold inR;simp;omega
theorem bZX {s:List Int}(hs:LV (elW els) s):s.length=els.length:=by have:=hs.1;unfold elW at this;simpa using this
end
section
variable {N:Nat} {nm:ByteArray} {ins:List aAp} {els:List aAP} {nodes:List Nd} {rules:List aA1} {outs:List aAp} {attrs:List aCE} {lw:List Int}
theorem bYf (k0:List Int->Option R)(hl:els.length<=1000000)(d:Int):∀ (r:List aAP) (n i:Nat) (p s:List Int),els.drop i=r->r.length<n->p.length=i->s.length=r.length ->
  bWX N k0 n d i nm ins els nodes rules outs attrs (p++s)=k0 (p++rsl (cB4 d) r s)
 | [],n,i,p,s,h,hn,hp,hs=>by
  obtain⟨n,rfl⟩:=sc hn
  rw[bWX,aAc (aAm h),bZS]
 | x :: r,n,i,p,[],h,hn,hp,hs=>by simp at hs
 | x :: r,n,i,p,y :: s,h,hn,hp,hs=>by
  obtain⟨n,rfl⟩:=sc hn
  obtain⟨g1,g2,g3⟩:=aAh h
  have ih:=fun v=>bYf k0 hl d r n (i+1) (p++[v]) s g3 (by simp at hn;omega) (by simp[hp]) (by simpa using hs)
  rw[bWX,aAd (by omega),g2,aAe,bYJ]
  unfold cB4
  by_cases c:x.2.1=1
  ·rw[aAd c,decide_eq_true c,Bool.true_and,aAe]
   by_cases c2:x.2.2.2.2=d
   ·rw[aAd c2,decide_eq_true c2,cond_true,aAe,cB3 p s y hp,cond_true,Int.toNat_natCast,cB2 p s y hp,aAe,cB7 p s y _ hp,aAl (by omega),ih,<- bX4];rfl
   ·rw[aAc c2,decide_eq_false c2,cond_false,aAl (by omega),bX4,ih,<- bX4];rfl
  ·rw[aAc c,decide_eq_false c,Bool.false_and,cond_false,aAl (by omega),bX4,ih,<- bX4];rfl
theorem cA0 (hl:els.length<=1000000)(hN:els.length<N){s:List Int}(hs:s.length=els.length)(d:Int)(k:List Int->Option R):bXn N nm ins els nodes rules outs attrs d s k=k (rsl (cB4 d) els s):=by
 unfold bXn
 rw[aK2 N s (by omega)]
 exact bYf k hl d els N 0 [] s rfl hN rfl hs
theorem bX5 (hN:1000<=N)(hv:CV N ins els nodes rules outs){d:Int}{inp:List Int}(hi:LV (inW ins) inp)(k0:List Int->KD (Int->List Int->List Int->Option R)):∀ (r:List aA1) (n i:Nat) (s o:List Int),rules.drop i=r->r.length<n->o.length<=i->LV (elW els) s ->
  bW0 N k0 n s i nm ins els nodes rules outs attrs d inp o=k0 (tkL nodes els d inp i r s o).1 nm ins els nodes rules outs attrs d inp (tkL nodes els d inp i r s o).2
 | [],n,i,s,o,hd,hn,ho,hs=>by
  obtain⟨n,rfl⟩:=sc hn
  rw[bW0,aAc (aAm hd)];rfl
 | x :: r,n,i,s,o,hd,hn,ho,hs=>by
  obtain⟨n,rfl⟩:=sc hn
  obtain⟨g1,g2,g3⟩:=aAh hd
  have hx:rules[i]? = some x:=by rw[<- g2];unfold at?;simp
  have hm:=List.mem_of_getElem? hx
  have e:rules[i]=x:=by rw[List.getElem?_eq_getElem g1]at hx;exact Option.some.inj hx
  have hr:=hv.len.1
  obtain⟨q1,q2,q3⟩:=hv.wr x hm
  rw[bW0,aAd (by omega),bAc hv.clk g2 q1 q2 q3,hv.cr x hm,if_neg (by simp),tkL]
  by_cases q:aNQ els x.2.2=d
  ·have hl:=bYz hv.dv hi hs g1
   rw[aAd q,bZ0 hN hv.dv hi hs g1,e]
   rw[e]at hl
   by_cases c:w0 (dV nodes inp s) x.2.1.toNat=1
   ·rw[decide_eq_true c,cond_true,if_pos ⟨q,c⟩,bZJ hN hv.dv hi hs g1,e,aBs (by omega),cond_true,aAl (by omega),bX5 hN hv hi k0 r n (i+1) _ _ g3 (by simp at hn;omega) (by simp;omega) hl]
   ·rw[decide_eq_false c,cond_false,if_neg (fun z=>c z.2),aAl (by omega),bX5 hN hv hi k0 r n (i+1) _ _ g3 (by simp at hn;omega) (by omega) hs]
  ·rw[aAc q,if_neg (fun z=>q z.1),aAl (by omega),bX5 hN hv hi k0 r n (i+1) _ _ g3 (by simp at hn;omega) (by omega) hs]
theorem cDg (hN:1000<=N)(he:els.length<N∧els.length<=1000000)(hv:CV N ins els nodes rules outs)(d:Int){inp s:List Int}(hi:LV (inW ins) inp)(hs:LV (elW els) s)(k:List Int->List Int->Option R) :
  bXN N nm ins els nodes rules outs attrs d inp s k=k (tkS nodes els rules d inp s).1 (tkS nodes els rules d inp s).2:=by
 have hl:=bZX hs
 have hs2:=bZP (cB4 d) hv.dv hs
 unfold bXN
 rw[cA0 he.2 he.1 hl]
 refine (bX5 hN hv hi _ rules N 0 _ [] rfl hv.len.2 (by simp) hs2).trans ?_
 try dsimp only
 rw[cA0 he.2 he.1 (bZX (bYK hv.dv d hi rules 0 _ [] (fun x hx=>hx) hs2))]
 rfl
end
theorem cCX {S:List ByteArray}{s:ByteArray}(h:aNU S s=0):s.size<=16:=by
 have:=(cCO h).1
 unfold nmB at this
 rw[Bool.and_eq_true]at this
 exact (of_decide_eq_true this.2).2
theorem bZO:∀ (l:List aAp) (S:List ByteArray),aFr S l=0->∀ x,x∈l->x.1.size<=16
 | [],_,_,x,hx=>by cases hx
 | y :: r,S,h,x,hx=>by
  obtain⟨h1,h2⟩:=f1_0.1 (show f1 (aRg S y) (aFr (y.1 :: S) r)=0 from h)
  rcases List.mem_cons.1 hx with rfl | hx
  ·exact cCX (f1_0.1 h1).1
  ·exact bZO r _ h2 x hx
theorem bZL:∀ (l:List aAP) (S:List ByteArray),aFn S l=0->∀ x,x∈l->x.1.size<=16
 | [],_,_,x,hx=>by cases hx
 | y :: r,S,h,x,hx=>by
  obtain⟨h1,h2⟩:=f1_0.1 (show f1 (aPr S y) (aFn (y.1 :: S) r)=0 from h)
  rcases List.mem_cons.1 hx with rfl | hx
  ·exact cCX (f1_0.1 (f1_0.1 h1).1).1
  ·exact bZL r _ h2 x hx
theorem cAY {nodes:List Nd}:∀ (l:List aAp) (S:List ByteArray),aHW nodes S l=0->∀ x,x∈l->x.1.size<=16
 | [],_,_,x,hx=>by cases hx
 | y :: r,S,h,x,hx=>by
  obtain⟨h1,h2⟩:=f1_0.1 (show f1 (bIJ nodes S y) (aHW nodes (y.1 :: S) r)=0 from h)
  rcases List.mem_cons.1 hx with rfl | hx
  ·exact cCX (f1_0.1 h1).1
  ·exact cAY r _ h2 x hx
theorem bZT {els:List aAP}{nodes:List Nd}:∀ (l:List aA1) (S:List ByteArray),aFP els nodes S l=0->∀ x,x∈l->x.1.size<=16
 | [],_,_,x,hx=>by cases hx
 | y :: r,S,h,x,hx=>by
  obtain⟨h1,h2⟩:=f1_0.1 (show f1 (aRj S els nodes y) (aFP els nodes (y.1 :: S) r)=0 from h)
  rcases List.mem_cons.1 hx with rfl | hx
  ·exact cCX (f1_0.1 (f1_0.1 h1).1).1
  ·exact bZT r _ h2 x hx
theorem bYx {nr:Int}:∀ (l:List aCE),aG7 nr l=0->∀ x,x∈l->x.2.length<=16
 | [],_,x,hx=>by cases hx
 | y :: r,h,x,hx=>by
  obtain⟨h1,h2⟩:=f1_0.1 (show f1 (aWx nr y) (aG7 nr r)=0 from h)
  rcases List.mem_cons.1 hx with rfl | hx
  ·exact (if0 (by decide) (f1_0.1 (f1_0.1 h1).2).1).2
  ·exact bYx r h2 x hx
section
variable {N:Nat} {nm:ByteArray} {ins:List aAp} {els:List aAP} {nodes:List Nd} {rules:List aA1} {outs:List aAp} {attrs:List aCE}
theorem bZ2 (hN:2000<=N)(h:aHq nm ins els nodes rules outs attrs=0):DH N nm ins els nodes rules outs attrs:=by
 have hv:=bEG h
 have hb:=bKC hv.chk
 unfold aHq at h
 simp only[f1_0]at h
 obtain⟨⟨a1,a2⟩,h1,b1,h2,h3,h4,h5,h6,h7,h8,h9⟩:=h
 have a1:=if0 (by decide) a1
 have a2:=aYI a2;have b1:=aYI b1;have h4:=aYI h4;have h6:=aYI h6;have h8:=aYI h8
 unfold nmB at a1
 rw[Bool.and_eq_true]at a1
 have a1:=of_decide_eq_true a1.2
 have sz:∀ s:ByteArray,s.size<=16->SZ N s:=fun s hs=>⟨by omega,by omega⟩
 have hl:=hb.len
 exact⟨sz _ a1.2,⟨by omega,by omega,fun x hx=>sz _ (bZO _ _ h1 x hx)⟩,⟨by omega,by omega,fun x hx=>sz _ (bZL _ _ h2 x hx)⟩,⟨by omega,fun x hx=>⟨by have:=(hb.args x hx).1;omega,by have:=(hb.args x hx).1;omega⟩⟩,⟨by omega,by omega,fun x hx=>⟨sz _ (bZT _ _ h5 x hx),by have:=(aI6 hv hx).1;omega,by have:=(aI6 hv hx).1;omega⟩⟩,⟨by omega,by omega,fun x hx=>sz _ (cAY _ _ h7 x hx)⟩,⟨by omega,by omega,fun x hx=>⟨by have:=bYx _ h9 x hx;omega,by have:=bYx _ h9 x hx;omega⟩⟩⟩
end
section
variable {N:Nat} {nm:ByteArray} {ins:List aAp} {els:List aAP} {nodes:List Nd} {rules:List aA1} {outs:List aAp} {attrs:List aCE}
end
section
variable {N:Nat} {nm:ByteArray} {ins:List aAp} {els:List aAP} {nodes:List Nd} {rules:List aA1} {outs:List aAp} {attrs:List aCE}
theorem bYk (k:List Int->Option R)(V:List Int)(hl:outs.length<=1000000)(hV:∀ x,x∈outs->at? V x.2=some (w0 V x.2.toNat)):∀ (r:List aAp) (n i:Nat) (o:List Int),outs.drop i=r->r.length<n->o.length<=i ->
  bW7 N k n V i nm ins els nodes rules outs attrs o=k (o++r.map fun x=>w0 V x.2.toNat)
 | [],n,i,o,h,hn,ho=>by
  obtain⟨n,rfl⟩:=sc hn
  rw[bW7,aAc (aAm h),List.map_nil,List.append_nil]
 | x :: r,n,i,o,h,hn,ho=>by
  obtain⟨n,rfl⟩:=sc hn
  obtain⟨g1,g2,g3⟩:=aAh h
  have hx:=hV x (List.mem_of_mem_drop (h▸List.mem_cons_self:x∈outs.drop i))
  rw[bW7,aAd (by omega),g2,aAe,hx,aAe,aBs (by omega),cond_true,aAl (by omega),bYk k V hl hV r n (i+1) _ g3 (by simp at hn;omega) (by simp;omega),List.map_cons,List.append_assoc]
  rfl
theorem cDi (hN:1000<=N)(hv:DV ins els nodes rules outs){inp s:List Int}(hi:LV (inW ins) inp)(hs:LV (elW els) s)(k:List Int->Option R):bXF N nm ins els nodes rules outs attrs inp s k=k (outs.map fun x=>w0 (dV nodes inp s) x.2.toNat):=by
 obtain⟨l1,l2⟩:=bYA hv hi hs
 have ho:=hv.no
 unfold bXF
 rw[bZK l1 l2,bYy hN (bYE hi hs) hv.chk]
 exact (bYk k (dV nodes inp s) (by omega) (fun x hx=>bZ1 hv hi hs (hv.outsW x hx)) outs N 0 [] rfl (by omega) (by simp)).trans (by rw[List.nil_append])
end
theorem cD1 {x:Int}(h:x=0∨x=1):vok 1 x=true:=by rcases h with rfl | rfl <;> decide
theorem cDQ {p:aAp}(hp:p.2=1){x:Int}(h:x=0∨x=1):LV (inW [p]) [x]:=by
 refine LV_fit.2 ⟨rfl,?_⟩
 show (vok p.2 x&&true)=true
 rw[hp,cD1 h];rfl
def fnm:ByteArray:=ByteArray.mk #[102,108,111,112,115]
def bYG:List aAp:=[(ByteArray.mk #[100],1)]
def bX7 (c:Nat):List aAP:=(ByteArray.mk #[115,114,99],0,1,0,0) :: (List.range c).map fun (i:Nat)=>(ByteArray.mk #[115,UInt8.ofNat (49+i)],0,1,0,1)
def bYh (c:Nat):List Nd:=((List.range (c+2)).map fun (i:Nat)=>((1:Int),(1:Int),([]:List Int),(i:Int)))++[(0,1,[],1)]
def bYi (c:Nat):List aA1:=[(ByteArray.mk #[108,111,97,100],(c:Int)+2,[(0,(c:Int)+2,0)]),(ByteArray.mk #[115,104,105,102,116],(c:Int)+2,(List.range c).map fun (i:Nat)=>((c:Int)-(i:Int),(c:Int)+2,(c:Int)-(i:Int)))]
def bYH (c:Nat):List aAp:=[(ByteArray.mk #[113],(c:Int)+1)]
theorem cCL (m:Nat)(k:ByteArray->List aAp->List aAP->List Nd->List aA1->List aAp->Int->Option R):aIy (m+2000) 2 k=k fnm bYG (bX7 2) (bYh 2) (bYi 2) (bYH 2) 0:=by kernel_rfl
theorem cCM (m:Nat)(k:ByteArray->List aAp->List aAP->List Nd->List aA1->List aAp->Int->Option R):aIy (m+2000) 3 k=k fnm bYG (bX7 3) (bYh 3) (bYi 3) (bYH 3) 0:=by kernel_rfl
theorem cCN (m:Nat)(k:ByteArray->List aAp->List aAP->List Nd->List aA1->List aAp->Int->Option R):aIy (m+2000) 4 k=k fnm bYG (bX7 4) (bYh 4) (bYi 4) (bYH 4) 0:=by kernel_rfl
structure FlD (R:Type) (m c:Nat):Prop where
 cc:aHS fnm bYG (bX7 c) (bYh c) (bYi c) (bYH c) []=0
 el:(bX7 c).length=c+1
 eI:elI (bX7 c)=List.replicate (c+1) 0
 ele:∀ k:List aAP->Option R,bXt (m+2000) (c:Int) k=k (bX7 c)
 lk:∀ k:Bool->Option R,bXS (m+2000) fnm bYG (bX7 c) (bYh c) (bYi c) (bYH c) [] (ByteArray.mk #[102,108,111,112,115]) [(ByteArray.mk #[100],1)] (bX7 c) [ByteArray.mk #[108,111,97,100],ByteArray.mk #[115,104,105,102,116]] [ByteArray.mk #[113]] k=k true
 ug:∀ k:Int->Bool->Option R,bXD (m+2000) fnm bYG (bX7 c) (bYh c) (bYi c) (bYH c) [] [] k=k 0 false
 t0:∀ (x:Int) (w:List Int),w.length=c+1->(tkS (bYh c) (bX7 c) (bYi c) 0 [x] w).1=w.set 0 x
 t1:∀ (x:Int) (w:List Int),w.length=c+1->(tkS (bYh c) (bX7 c) (bYi c) 1 [x] w).1=w0 w 0 :: w.take c
 ot:∀ (x:Int) (w:List Int),w.length=c+1->((bYH c).map fun o=>w0 (dV (bYh c) [x] w) o.2.toNat)=[w0 w c]
theorem l3 {w:List Int}(h:w.length=3):∃ a b c,w=[a,b,c]:=by
 match w,h with
 | [a,b,c],_=>exact⟨a,b,c,rfl⟩
theorem l4 {w:List Int}(h:w.length=4):∃ a b c d,w=[a,b,c,d]:=by
 match w,h with
 | [a,b,c,d],_=>exact⟨a,b,c,d,rfl⟩
theorem l5 {w:List Int}(h:w.length=5):∃ a b c d e,w=[a,b,c,d,e]:=by
 match w,h with
 | [a,b,c,d,e],_=>exact⟨a,b,c,d,e,rfl⟩
theorem cDR (m:Nat):FlD R m 2:=by
 refine⟨by kernel_rfl,by kernel_rfl,by kernel_rfl,fun k=>by kernel_rfl,fun k=>by kernel_rfl,fun k=>by kernel_rfl,fun x w h=>?_,fun x w h=>?_,fun x w h=>?_⟩
 all_goals
  obtain⟨a,b,c,rfl⟩:=l3 h
  kernel_rfl
theorem cDS (m:Nat):FlD R m 3:=by
 refine⟨by kernel_rfl,by kernel_rfl,by kernel_rfl,fun k=>by kernel_rfl,fun k=>by kernel_rfl,fun k=>by kernel_rfl,fun x w h=>?_,fun x w h=>?_,fun x w h=>?_⟩
 all_goals
  obtain⟨a,b,c,d,rfl⟩:=l4 h
  kernel_rfl
theorem cDT (m:Nat):FlD R m 4:=by
 refine⟨by kernel_rfl,by kernel_rfl,by kernel_rfl,fun k=>by kernel_rfl,fun k=>by kernel_rfl,fun k=>by kernel_rfl,fun x w h=>?_,fun x w h=>?_,fun x w h=>?_⟩
 all_goals
  obtain⟨a,b,c,d,e,rfl⟩:=l5 h
  kernel_rfl
section
variable {N:Nat}
theorem cAW (m c:Nat)(hm:N=m+2000)(hc:c<=4)(hD:FlD R m c)(hd:DH N fnm bYG (bX7 c) (bYh c) (bYi c) (bYH c) [])(hv:CV N bYG (bX7 c) (bYh c) (bYi c) (bYH c))(k0:Bool->Option R)(k1:Option R)(l:List Int)(hl:l.length<=1000):∀ (r:List Int) (n i:Nat) (w:List Int),l.drop i=r->r.length<n->LV (elW (bX7 c)) w ->
  bWV N k0 k1 n (c:Int) l w i fnm bYG (bX7 c) (bYh c) (bYi c) (bYH c) w=k1
 | [],n,i,w,h,hn,hw=>by
  obtain⟨n,rfl⟩:=sc hn
  rw[bWV,aAc (aAm h)]
 | x :: r,n,i,w,h,hn,hw=>by
  obtain⟨n,rfl⟩:=sc hn
  obtain⟨g1,g2,g3⟩:=aAh h
  have hwl:w.length=c+1:=by have:=bZX hw;rw[hD.el]at this;exact this
  have hx1:x%2=0∨x%2=1:=by omega
  have hx2:x%4/2=0∨x%4/2=1:=by omega
  have hi:LV (inW bYG) [x%4/2]:=cDQ rfl hx2
  have ht:=cCR hv.dv (x%2) hi hw
  have htl:(tkS (bYh c) (bX7 c) (bYi c) (x%2) [x%4/2] w).1.length=c+1:=by have:=bZX ht;rw[hD.el]at this;exact this
  have key:∀ v,v=(tkS (bYh c) (bX7 c) (bYi c) (x%2) [x%4/2] w).1->bW1 N k0 (fun z43 z44 z45 z46 z47 z48 z49 z50 z51 z52 z53=>(bWV N k0 k1 n z43 z44 z45 (w64 (z46+1)) z47 z48 z49 z50 z51 z52 z53)) (c:Int) l (tkS (bYh c) (bX7 c) (bYi c) (x%2) [x%4/2] w).1 i (x%4/2) fnm bYG (bX7 c) (bYh c) (bYi c) (bYH c) v=k1:=by
   rintro v rfl
   have e1:inR (c:Int) (tkS (bYh c) (bX7 c) (bYi c) (x%2) [x%4/2] w).1.length=true:=aSL (by omega) (by omega)
   unfold bW1
   rw[bDr _ (by omega) (by omega)]
   try dsimp only
   rw[Bool.not_true,cond_false,cDi (by omega) hv.dv hi ht,hD.ot _ _ htl,e1,cond_true,Int.toNat_natCast,List.getElem?_eq_getElem (show c<(tkS (bYh c) (bX7 c) (bYi c) (x%2) [x%4/2] w).1.length by omega),aAe,<- bZ6 (show c<(tkS (bYh c) (bX7 c) (bYi c) (x%2) [x%4/2] w).1.length by omega),bDr _ (by simp) (by simp;omega)]
   try dsimp only
   rw[Bool.not_true,cond_false,aAl (by omega)]
   exact cAW m c hm hc hD hd hv k0 k1 l hl r n (i+1) _ g3 (by simp at hn;omega) ht
  rw[bWV,aAd (by omega),g2,aAe,cAs N x 2 (by decide) (by decide),aAe,cAs N x 4 (by decide) (by decide),Int.tdiv_eq_ediv_of_nonneg (by omega),aDt (by omega) (by omega)]
  unfold bXk
  rw[cDg (by omega) ⟨hd.els.2.1,hd.els.1⟩ hv (x%2) hi hw]
  unfold bXl
  have e0:inR 0 w.length=true:=aSL (by decide) (by omega)
  have e1:w[0]? = some (w0 w 0):=by rw[List.getElem?_eq_getElem (by omega),bZ6 (by omega)]
  rcases hx1 with q | q
  ·rw[aAd q,e0,cond_true,e1,aAe]
   exact key _ (by rw[q];exact (hD.t0 _ w hwl).symm)
  ·have e2:slB 0 (c:Int) (c:Int) w.length 0 w.length=true:=by unfold slB;simp;omega
   rw[aAc (by omega),e0,cond_true,e1,aAe,e2,cond_true,Int.toNat_natCast,aAd (by omega),List.drop_zero,aBs (by rw[List.length_take];omega),cond_true]
   exact key _ (by rw[q];exact (hD.t1 _ w hwl).symm)
theorem cDe (m c:Nat)(hm:N=m+2000)(hc:c<=4)(hD:FlD R m c)(l:List Int)(k:Bool->Option R):bXa N k (c:Int) l 0 fnm bYG (bX7 c) (bYh c) (bYi c) (bYH c)=k true:=by
 have c0:aHq fnm bYG (bX7 c) (bYh c) (bYi c) (bYH c) []=0:=by
  have hc:=hD.cc
  unfold aHS at hc
  by_cases z:aHq fnm bYG (bX7 c) (bYh c) (bYi c) (bYH c) []=0
  ·exact z
  ·rw[if_pos z]at hc;exact hc
 have hd:=bZ2 (N:=N) (by omega) c0
 obtain⟨c1,c2,hv⟩:=bDM (by omega) hd hD.cc
 unfold bXa
 have he:=hD.ele;have hk:=hD.lk;have hu:=hD.ug
 rw[<- hm]at he hk hu
 rw[aAc (by simp),he,hk]
 try dsimp only
 rw[Bool.not_true,cond_false]
 unfold bXg
 rw[hu]
 try dsimp only
 rw[cond_false]
 by_cases hl:40<((l.length:Nat):Int)
 ·rw[aAd hl];rfl
 rw[aAc hl]
 unfold bXh
 have hel:(elI (bX7 c)).length=c+1:=by rw[hD.eI];simp
 rw[cBZ hd.els.2.1 hd.els.1]
 unfold bXi
 rw[aK2 N _ (by omega)]
 unfold bXj
 exact cAW m c hm hc hD hd hv k (k true) l (by omega) l N 0 _ rfl (by omega) (bZ3 hv.dv)
theorem cDh (m:Nat)(k:Bool->Option R):bXC (m+2000) (ByteArray.mk #[]) [] [] [] [] [] [] (ByteArray.mk #[]) [] [] [] [] [] [] k=k true:=by kernel_rfl
theorem cDf (m:Nat)(hm:N=m+2000)(a:Int)(l:List Int)(k:Bool->Option R):bW6 N a l k=k true:=by
 unfold bW6
 rw[hm,aXC]
 try dsimp only
 rw[Bool.not_true,cond_false]
 by_cases h2:a=2
 ·subst h2
  have hw:decide ((2:Int)<=2∧(2:Int)<=4)=true:=by decide
  rw[cCL,aD5,hw]
  try dsimp only
  rw[Bool.not_true,cond_false]
  exact cDe m 2 rfl (by decide) (cDR m) l k
 by_cases h3:a=3
 ·subst h3
  have hw:decide ((2:Int)<=3∧(3:Int)<=4)=true:=by decide
  rw[cCM,aD5,hw]
  try dsimp only
  rw[Bool.not_true,cond_false]
  exact cDe m 3 rfl (by decide) (cDS m) l k
 by_cases h4:a=4
 ·subst h4
  have hw:decide ((2:Int)<=4∧(4:Int)<=4)=true:=by decide
  rw[cCN,aD5,hw]
  try dsimp only
  rw[Bool.not_true,cond_false]
  exact cDe m 4 rfl (by decide) (cDT m) l k
 have h:¬(2<=a∧a<=4):=by omega
 unfold aIy
 rw[cB0,decide_eq_false h]
 try dsimp only
 rw[Bool.not_false,cond_true,aD5,decide_eq_false h]
 try dsimp only
 rw[Bool.not_false,cond_true,aAd rfl]
 exact cDh m k
end
theorem bYe:bXX:=by
 intro x0 x1 _ _
 exact⟨0+2000,fun {R} k=>cDf 0 rfl x0 x1 k⟩
end
end Am
end Go.Proofs.YtkmbhgggpfbffaaGreatDoor
