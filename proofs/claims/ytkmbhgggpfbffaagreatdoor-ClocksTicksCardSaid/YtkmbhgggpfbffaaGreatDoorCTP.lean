/- The statement ClocksTicks over plain data: the state after a tick with the rules that happened, runs, and how many bits of an element change in a tick, are as the reference says, or the errors; it holds for all designs and ticks, without a condition of its own. -/
import Derived.Test.YtkmbhgggpfbffaaGreatDoorCTF
import Derived.Test.YtkmbhgggpfbffaaGreatDoorPu
set_option linter.unusedVariables false
set_option linter.unusedSimpArgs false
set_option linter.constructorNameAsVariable false
set_option maxRecDepth 100000
namespace Go.Proofs.YtkmbhgggpfbffaaGreatDoor
namespace Am
section
variable {R:Type}
theorem sc {k n:Nat}(h:k<n):∃ m,n=m+1:=⟨n-1,by omega⟩
def p2 (n:Int):Int:=2^n.toNat
theorem aQ8 (n:Int):0<p2 n:=by unfold p2;exact Int.pow_pos (by omega)
theorem cCL (n:Nat):p2 (n:Int)=((2^n:Nat):Int):=by unfold p2;simp
theorem bJV {a b:Int}(h:a<=b):p2 a<=p2 b:=by
 unfold p2
 have:(2:Nat)^a.toNat<=2^b.toNat:=Nat.pow_le_pow_right (by omega) (by omega)
 exact_mod_cast this
theorem bDz {n:Int}(h:n<=16):p2 n<=65536:=bJV h
theorem cAj {a b:Int}(ha:0<=a)(hb:0<=b):p2 (a+b)=p2 a*p2 b:=by
 unfold p2
 rw[show (a+b).toNat=a.toNat+b.toNat by omega,Int.pow_add]
theorem bYV {w:Int}(h:1<=w):p2 w=2*p2 (w-1):=by
 have:=cAj (a:=w-1) (b:=1) (by omega) (by omega)
 rw[show w-1+1=w by omega]at this
 rw[this,Int.mul_comm];rfl
theorem aVr {n:Int}(h0:0<=n)(h:n<=40):aPi .i64 1 n=p2 n:=by
 have h1:p2 n<=p2 40:=bJV h
 have h2:p2 40=1099511627776:=by decide
 have h3:=aQ8 n
 unfold aPi
 have e:min n.toNat (IntKind.bits .i64)=n.toNat:=by
  have:IntKind.bits .i64=64:=rfl
  omega
 rw[e,Int.one_mul]
 exact aDt (x:=p2 n) (by omega) (by omega)
def vok (w n:Int):Bool:=decide (0<=n∧n<=p2 w-1)
theorem bXT (n:Int):(BitVec.ofInt 64 n).toNat=(n%18446744073709551616).toNat:=by
 rw[BitVec.toNat_ofInt];rfl
theorem cAs (n w:Int)(h0:0<=w)(h:w<=16):bLe .i64 n (p2 w-1)=n%p2 w:=by
 have h1:=aQ8 w
 have h2:=bDz h
 have hp:p2 w=((2^w.toNat:Nat):Int):=by
  have:=cCL w.toNat
  rwa [show ((w.toNat:Nat):Int)=w by omega]at this
 unfold bLe
 have hbits:IntKind.bits .i64=64:=rfl
 have e:(BitVec.ofInt 64 n &&& BitVec.ofInt 64 (p2 w-1)).toNat=(n%p2 w).toNat:=by
  rw[BitVec.toNat_and,bXT,bXT]
  have e1:((p2 w-1)%18446744073709551616).toNat=2^w.toNat-1:=by
   rw[Int.emod_eq_of_lt (by omega) (by omega)];omega
  rw[e1,Nat.and_two_pow_sub_one_eq_mod]
  have hq:(n%18446744073709551616)%p2 w=n%p2 w:=by
   refine Int.emod_emod_of_dvd n ?_
   rw[hp]
   have:(2:Nat)^w.toNat ∣ 2^64:=Nat.pow_dvd_pow 2 (by omega)
   have e64:(18446744073709551616:Int)=((2^64:Nat):Int):=by decide +kernel
   rw[e64]
   exact Int.natCast_dvd_natCast.2 this
  rw[<- hq]
  have h5:0<=n%18446744073709551616:=Int.emod_nonneg n (by omega)
  rw[hp]
  generalize n%18446744073709551616=x at h5
  obtain⟨y,rfl⟩:∃ y:Nat,x=y:=⟨x.toNat,by omega⟩
  rfl
 show IntKind.wrap .i64 (((BitVec.ofInt (IntKind.bits .i64) n &&& BitVec.ofInt (IntKind.bits .i64) (p2 w-1)).toNat:Nat):Int)=_
 rw[show (BitVec.ofInt (IntKind.bits .i64) n &&& BitVec.ofInt (IntKind.bits .i64) (p2 w-1)).toNat=_ from e]
 have h6:=Int.emod_nonneg n (show p2 w≠0 by omega)
 have h7:=Int.emod_lt_of_pos n h1
 rw[Int.toNat_of_nonneg h6]
 exact aDt (x:=n%p2 w) (by omega) (by omega)
theorem bZN {n:Int}(v:Int)(h0:0<=n)(h:n<=40):aLT .i64 v n=v/p2 n:=by
 unfold aLT p2
 have e:min n.toNat (IntKind.bits .i64)=n.toNat:=by
  have:IntKind.bits .i64=64:=rfl
  omega
 rw[e,Int.fdiv_eq_ediv_of_nonneg _ (Int.le_of_lt (Int.pow_pos (by omega)))]
theorem bX2 {w:Int}(n:Int):vok w (n%p2 w)=true:=by
 have h:=aQ8 w
 have h1:=Int.emod_nonneg n (show p2 w≠0 by omega)
 have h2:=Int.emod_lt_of_pos n h
 exact decide_eq_true ⟨h1,by omega⟩
def sg (w n:Int):Int:=if p2 (w-1)<=n then n-p2 w else n
def f1 (a b:Int):Int:=if a=0 then b else a
theorem aGq (b:Int):f1 0 b=b:=rfl
theorem aKn {a:Int}(h:a≠0)(b:Int):f1 a b=a:=if_neg h
theorem f1_0 {a b:Int}:f1 a b=0↔a=0∧b=0:=by
 unfold f1;split <;> simp_all
theorem aAh {α:Type}{l:List α}{x:α}{r:List α}{i:Nat}(h:l.drop i=x :: r):i<l.length∧at? l (i:Int)=some x∧l.drop (i+1)=r:=by
 have hl:i<l.length:=by
  rcases Nat.lt_or_ge i l.length with q | q
  ·exact q
  ·rw[List.drop_eq_nil_of_le q]at h;cases h
 rw[aI8 hl]at h
 injection h with h1 h2
 exact⟨hl,by rw[aHb hl,h1],h2⟩
theorem aAm {α:Type}{l:List α}{i:Nat}(h:l.drop i=[]):¬((i:Int)<(l.length:Int)):=by
 have:=List.drop_eq_nil_iff.1 h
 omega
theorem aAl {i:Nat}(h:i<=9223372036854775806):w64 ((i:Int)+1)=((i+1:Nat):Int):=by
 rw[aDt (by omega) (by omega)];omega
theorem aG2 (N:Nat)(a lo hi:Int)(k:Bool->Option R):aAF N a lo hi k=k (decide (lo<=a∧a<=hi)):=by
 unfold aAF
 by_cases h:lo<=a <;> simp[h]
theorem aIK (N:Nat)(a lo hi:Int)(k:Bool->Option R):aC6 N a lo hi k=k (decide (lo<=a∧a<=hi)):=by
 unfold aC6
 by_cases h:lo<=a <;> simp[h]
theorem aCK (N:Nat)(b:Bool)(e:Int)(k:Int->Option R):aAj N b e k=k (if b=true then 0 else e):=by cases b <;> rfl
theorem aCt (N:Nat)(b:Bool)(e:Int)(k:Int->Option R):aAy N b e k=k (if b=true then 0 else e):=by cases b <;> rfl
theorem aIE (N:Nat)(k0:Int->Option R)(k1:Option R)(l:List Int)(hl:l.length<=1000000):∀ (r:List Int) (n i:Nat),l.drop i=r->r.length<n->aDQ N k0 k1 n l l.length i=match r.find? (fun x=>decide (x≠0))with | some x=>k0 x | none=>k1
 | [],n,i,h,hn=>by
  obtain⟨n,rfl⟩:=sc hn
  rw[aDQ,aAc (aAm h)];rfl
 | x :: r,n,i,h,hn=>by
  obtain⟨n,rfl⟩:=sc hn
  obtain⟨h1,h2,h3⟩:=aAh h
  rw[aDQ,aAd (by omega),h2,aAe,List.find?_cons]
  by_cases hx:x=0
  ·rw[aAc (by simp[hx]),aAl (by omega)]
   simp only[hx,ne_eq,not_true,decide_false]
   exact aIE N k0 k1 l hl r n (i+1) h3 (by simp at hn;omega)
  ·rw[aAd hx];simp[hx]
theorem aIN (N:Nat)(k0:Int->Option R)(k1:Option R)(l:List Int)(hl:l.length<=1000000):∀ (r:List Int) (n i:Nat),l.drop i=r->r.length<n->aEh N k0 k1 n l l.length i=match r.find? (fun x=>decide (x≠0))with | some x=>k0 x | none=>k1
 | [],n,i,h,hn=>by
  obtain⟨n,rfl⟩:=sc hn
  rw[aEh,aAc (aAm h)];rfl
 | x :: r,n,i,h,hn=>by
  obtain⟨n,rfl⟩:=sc hn
  obtain⟨h1,h2,h3⟩:=aAh h
  rw[aEh,aAd (by omega),h2,aAe,List.find?_cons]
  by_cases hx:x=0
  ·rw[aAc (by simp[hx]),aAl (by omega)]
   simp only[hx,ne_eq,not_true,decide_false]
   exact aIN N k0 k1 l hl r n (i+1) h3 (by simp at hn;omega)
  ·rw[aAd hx];simp[hx]
theorem aGL (N:Nat)(hN:10<=N)(a b:Int)(k:Int->Option R):aAY N [a,b] k=k (f1 a b):=by
 unfold aAY f1
 have:=aIE N k (k 0) [a,b] (by simp) [a,b] N 0 rfl (by simp;omega)
 rw[Int.natCast_zero]at this
 rw[this]
 by_cases ha:a=0 <;> by_cases hb:b=0 <;> simp[ha,hb]
theorem aM0 (N:Nat)(hN:10<=N)(a b c:Int)(k:Int->Option R):aAY N [a,b,c] k=k (f1 a (f1 b c)):=by
 unfold aAY f1
 have:=aIE N k (k 0) [a,b,c] (by simp) [a,b,c] N 0 rfl (by simp;omega)
 rw[Int.natCast_zero]at this
 rw[this]
 by_cases ha:a=0 <;> by_cases hb:b=0 <;> by_cases hc:c=0 <;> simp[ha,hb,hc]
theorem aUx (N:Nat)(hN:10<=N)(a b:Int)(k:Int->Option R):aC8 N [a,b] k=k (f1 a b):=by
 unfold aC8 f1
 have:=aIN N k (k 0) [a,b] (by simp) [a,b] N 0 rfl (by simp;omega)
 rw[Int.natCast_zero]at this
 rw[this]
 by_cases ha:a=0 <;> by_cases hb:b=0 <;> simp[ha,hb]
theorem bC4 (N:Nat)(hN:10<=N)(a b c:Int)(k:Int->Option R):aC8 N [a,b,c] k=k (f1 a (f1 b c)):=by
 unfold aC8 f1
 have:=aIN N k (k 0) [a,b,c] (by simp) [a,b,c] N 0 rfl (by simp;omega)
 rw[Int.natCast_zero]at this
 rw[this]
 by_cases ha:a=0 <;> by_cases hb:b=0 <;> by_cases hc:c=0 <;> simp[ha,hb,hc]
def Tx (l:List UInt8):ByteArray:=⟨l.toArray⟩
theorem bGb (s:ByteArray):s=Tx s.data.toList:=by unfold Tx;rw[Array.toArray_toList]
theorem aLG (l:List UInt8):(Tx l).size=l.length:=by simp[Tx,ByteArray.size]
theorem aSG {l:List UInt8}{i:Nat}(h:i<l.length):aJd (Tx l) (i:Int)=some (l[i].toNat:Int):=by
 unfold aJd
 rw[dif_pos ⟨by omega,by rw[aLG];simpa using h⟩]
 rfl
def bGz (c:Nat):Bool:=decide ((97<=c∧c<=122)∨(65<=c∧c<=90))
def nmL:Bool->List UInt8->Bool
 | _,[]=>true
 | f,c :: r=>(bGz c.toNat||(!f&&decide (c.toNat=95∨(48<=c.toNat∧c.toNat<=57))))&&nmL false r
theorem aQD (f:Bool)(c:UInt8)(r:List UInt8):nmL f (c :: r)=((bGz c.toNat||(!f&&decide (c.toNat=95∨(48<=c.toNat∧c.toNat<=57))))&&nmL false r):=rfl
def nmB (s:ByteArray):Bool:=nmL true s.data.toList&&decide (1<=s.size∧s.size<=16)
theorem aMA (N:Nat)(k0:Bool->Option R)(k1:ByteArray->Option R)(l:List UInt8)(hl:l.length<=9223372036854775807):∀ (r:List UInt8) (n i:Nat),l.drop i=r->r.length<n->aB3 N k0 k1 n (Tx l) l.length i=if nmL (decide (i=0)) r=true then k1 (Tx l)else k0 false
 | [],n,i,h,hn=>by
  obtain⟨n,rfl⟩:=sc hn
  rw[aB3,aAc (aAm h)];rfl
 | c :: r,n,i,h,hn=>by
  obtain⟨n,rfl⟩:=sc hn
  obtain⟨h1,h2,h3⟩:=aAh h
  have hc:l[i]=c:=by
   rw[aI8 h1]at h
   injection h
  have ih:=aMA N k0 k1 l hl r n (i+1) h3 (by simp at hn;omega)
  rw[show (decide (i+1=0))=false from rfl]at ih
  have hb:=c.toNat_lt
  rw[aB3,aAd (by omega),aSG h1,aAe,hc,aDt (x:=(c.toNat:Int)) (by omega) (by omega),aAl (by omega)]
  simp only[aG2,ih]
  rw[aQD]
  unfold bGz
  generalize nmL false r=z
  generalize c.toNat=m at hb
  by_cases q1:97<=m∧m<=122
  ·have e1:(97:Int)<=(m:Int)∧(m:Int)<=122:=by omega
   simp[q1,e1]
  ·have e1:¬((97:Int)<=(m:Int)∧(m:Int)<=122):=by omega
   by_cases q2:65<=m∧m<=90
   ·have e2:(65:Int)<=(m:Int)∧(m:Int)<=90:=by omega
    rw[decide_eq_false e1,decide_eq_true e2]
    simp[q1,q2]
   ·have e2:¬((65:Int)<=(m:Int)∧(m:Int)<=90):=by omega
    rw[decide_eq_false e1,decide_eq_false e2]
    by_cases q3:i=0
    ·subst q3;simp[q1,q2]
    ·have e3:¬((i:Int)=0):=by omega
     by_cases q4:m=95
     ·subst q4;simp[e3,q3]
     ·have e4:(m:Int)≠95:=by omega
      by_cases q5:48<=m∧m<=57
      ·have e5:(48:Int)<=(m:Int)∧(m:Int)<=57:=by omega
       simp[q1,q2,q3,q4,q5,e3,e4,e5]
      ·have e5:¬((48:Int)<=(m:Int)∧(m:Int)<=57):=by omega
       rw[decide_eq_false e5]
       simp[q1,q2,q3,q4,q5,e3,e4]
theorem bKs (N:Nat)(s:ByteArray)(hN:s.size<N)(hs:s.size<=9223372036854775807)(k:Bool->Option R):aFt N s k=k (nmB s):=by
 have hz:s.size=s.data.toList.length:=by
  have:=aLG s.data.toList
  rw[<- bGb s]at this;exact this
 have:=aMA N k (fun z6=>aAF N ((z6.size:Nat):Int) 1 16 k) s.data.toList (by omega) s.data.toList N 0 rfl (by omega)
 rw[<- bGb s,<- hz,Int.natCast_zero]at this
 unfold aFt nmB
 rw[this,decide_eq_true rfl]
 cases nmL true s.data.toList
 ·rfl
 ·rw[if_pos rfl,aG2,Bool.true_and]
  congr 1
  exact decide_eq_decide.2 (by omega)
def inS (a:ByteArray):List ByteArray->Bool
 | []=>false
 | x :: r=>decide (a=x)||inS a r
abbrev NM:=List (ByteArray×Nat×Bool)
def mxS (a:ByteArray):NM->Option Nat
 | []=>none
 | e :: r=>bif decide (a=e.1)then some 0 else (mxS a r).map (·+1)
theorem aNq (a:ByteArray)(e:ByteArray×Nat×Bool)(r:NM):mxS a (e :: r)=bif decide (a=e.1)then some 0 else (mxS a r).map (·+1):=rfl
theorem aM1 (a x:ByteArray)(r:List ByteArray):inS a (x :: r)=(decide (a=x)||inS a r):=rfl
theorem aTg (a:ByteArray):∀ xs:NM,aLY .s a xs=mxS a xs
 | []=>rfl
 | e :: r=>by
  have ih:=aTg a r
  rw[aNq,<- ih];rfl
def mgS (a:ByteArray)(xs:NM):Bool:=match mxS a xs with
 | none=>false
 | some i=>((xs[i]?).map (·.2.2)).getD false
def mpS (a:ByteArray)(c:Nat)(xs:NM):NM:=match mxS a xs with
 | none=>xs++[(a,c,true)]
 | some i=>xs.modify i fun e=>(a,e.2.1,true)
theorem bH9 (a:ByteArray)(xs:NM):aFh .s a xs false=mgS a xs:=by
 unfold aFh mgS
 rw[aTg];rfl
theorem bKf (a:ByteArray)(c:Nat)(xs:NM):aOS .s a true c xs=mpS a c xs:=by
 unfold aOS mpS
 rw[aTg];rfl
theorem aKU (t:ByteArray)(e:ByteArray×Nat×Bool)(r:NM):mgS t (e :: r)=if t=e.1 then e.2.2 else mgS t r:=by
 unfold mgS
 rw[aNq]
 by_cases h:t=e.1
 ·rw[aAd h,if_pos h];rfl
 ·rw[aAc h,if_neg h]
  cases mxS t r <;> rfl
theorem aY1 (a b:ByteArray)(c:Nat):∀ xs:NM,mgS b (mpS a c xs)=if b=a then true else mgS b xs
 | []=>by
  show mgS b [(a,c,true)]=_
  rw[aKU]
 | e :: r=>by
  have ih:=aY1 a b c r
  unfold mpS
  rw[aNq]
  by_cases h:a=e.1
  ·rw[aAd h]
   show mgS b ((a,e.2.1,true) :: r)=_
   rw[aKU,aKU]
   by_cases q:b=a
   ·simp[q]
   ·simp[q,<- h]
  ·rw[aAc h]
   unfold mpS at ih
   cases hm:mxS a r with
   | none=>
    rw[hm]at ih
    show mgS b (e :: (r++[(a,c,true)]))=_
    rw[aKU,aKU,ih]
    by_cases q:b=e.1
    ·simp[q,Ne.symm h]
    ·simp[q]
   | some i=>
    rw[hm]at ih
    show mgS b (e :: r.modify i _)=_
    rw[aKU,aKU,ih]
    by_cases q:b=e.1
    ·simp[q,Ne.symm h]
    ·simp[q]
def KN (m:NM)(S:List ByteArray):Prop:=∀ a,mgS a m=inS a S
theorem aQN:KN [] []:=fun a=>rfl
theorem aOa {m:NM}{S:List ByteArray}(h:KN m S)(a:ByteArray)(c:Nat):KN (mpS a c m) (a :: S):=fun b=>by
 rw[aY1,h b]
 rw[aM1]
 by_cases q:b=a <;> simp[q]
def aNU (S:List ByteArray)(s:ByteArray):Int:=if nmB s=true then (if inS s S=true then 5 else 0)else 4
theorem aOm (N:Nat)(hN:10<=N)(s:ByteArray)(c:Nat){m:NM}{S:List ByteArray}(hs:s.size<N)(hs2:s.size<=9223372036854775807)(hm:KN m S)(k:Int->Nat->NM->Option R) :
  aCs N s c m k=k (aNU S s) (aGp .s s c m) (mpS s c m):=by
 unfold aCs aNU
 rw[bKs N s hs hs2,aCK,aCK,aGL N hN,bH9,bKf,hm s]
 congr 1
 cases nmB s <;> cases inS s S <;> rfl
abbrev Nd:=Int×Int×List Int×Int
def aKu (nodes:List Nd)(a:Int):Int:=((nodes[a.toNat]?).map (·.2.1)).getD 0
def wOK (n:Int):Bool:=decide (1<=n∧n<=16)
def aOs (op:Int):Int:=if op<=1 then 0 else if op=2∨op=14∨op=15∨op=16 then 1 else if op=12 then 3 else 2
def aJg (leaves:List Int)(op wd v:Int):Int:=if op=0 then (if vok wd v=true then 0 else 2)else if op=1 then (if 0<=v∧v<=(leaves.length:Int)-1 then (if leaves[v.toNat]? = some wd then 0 else 25)else 6)else if op=14 then (if 0<=v∧v<=15 then 0 else 2)else if v=0 then 0 else 3
def w0 (w:List Int)(i:Nat):Int:=(w[i]?).getD 0
def aJ5 (op wd v:Int)(w:List Int):Bool:=if op<=1 then true else if op<=8 then w.all (fun x=>decide (x=wd))else if op<=11 then decide (wd=1∧w0 w 0=w0 w 1)else if op=12 then decide (w0 w 0=1∧w0 w 1=wd∧w0 w 2=wd)else if op=13 then decide (w0 w 0+w0 w 1=wd)else if op=14 then decide (v+wd<=w0 w 0)else if op<=16 then decide (w0 w 0<=wd)else decide (w0 w 0=wd)
def aNS (i:Int)(args:List Int):Bool:=args.any fun a=>!decide (0<=a∧a<=i-1)
def aJQ (leaves:List Int)(nodes:List Nd)(i:Int)(x:Nd):Int:=
 f1 (if 0<=x.1∧x.1<=18 then 0 else 15) (f1 (if wOK x.2.1=true then 0 else 2) (f1 (if (x.2.2.1.length:Int)=aOs x.1 then 0 else 10) (f1 (if aNS i x.2.2.1=true then 9 else 0) (f1 (aJg leaves x.1 x.2.1 x.2.2.2)
  (if aJ5 x.1 x.2.1 x.2.2.2 (x.2.2.1.map (aKu nodes))=true then 0 else 25)))))
theorem aZm (N:Nat)(n:Int)(k:Bool->Option R):aFy N n k=k (wOK n):=by unfold aFy wOK;rw[aIK]
theorem aKT (N:Nat)(k0:Int->Int->Option R)(k1:Option R)(l:List Int)(hl:l.length<=1000000):∀ (r:List Int) (n i:Nat),l.drop i=r->r.length<n ->
  ∃ j:Int,aAT N k0 k1 n l l.length i=if r.all wOK=true then k1 else k0 j 2
 | [],n,i,h,hn=>by
  obtain⟨n,rfl⟩:=sc hn
  exact⟨0,by rw[aAT,aAc (aAm h)];rfl⟩
 | x :: r,n,i,h,hn=>by
  obtain⟨n,rfl⟩:=sc hn
  obtain⟨h1,h2,h3⟩:=aAh h
  obtain⟨j,ih⟩:=aKT N k0 k1 l hl r n (i+1) h3 (by simp at hn;omega)
  rw[aAT,aAd (by omega),h2,aAe]
  unfold aFj
  rw[aZm,aCt,List.all_cons]
  cases hx:wOK x
  ·exact⟨i,rfl⟩
  ·refine⟨j,?_⟩
   rw[if_pos rfl,aAc (by simp),aAl (by omega),ih,Bool.true_and]
theorem aPH (N:Nat)(l:List Int)(hl:l.length<=1000000)(hN:l.length<N)(k:Int->Int->Option R):∃ j:Int,aC4 N l k=if l.all wOK=true then k 0 0 else k j 2:=by
 have:=aKT N k (k 0 0) l hl l N 0 rfl hN
 rwa [Int.natCast_zero]at this
theorem aQU (N:Nat)(k0:Int->Int->Option R)(k1:Int->Option R)(l:List Int)(hl:l.length<=1000000)(m:Int)(hm:0<=m∧m<=1000000):∀ (r:List Int) (n i:Nat),l.drop i=r->r.length<n ->
  ∃ j:Nat,aAn N k0 k1 n l l.length i m=if aNS m r=true then k0 j m else k1 m
 | [],n,i,h,hn=>by
  obtain⟨n,rfl⟩:=sc hn
  exact⟨0,by rw[aAn,aAc (aAm h)];rfl⟩
 | x :: r,n,i,h,hn=>by
  obtain⟨n,rfl⟩:=sc hn
  obtain⟨h1,h2,h3⟩:=aAh h
  obtain⟨j,ih⟩:=aQU N k0 k1 l hl m hm r n (i+1) h3 (by simp at hn;omega)
  rw[aAn,aAd (by omega),h2,aAe]
  unfold aEl
  rw[aIK,aDt (x:=m-1) (by omega) (by omega)]
  unfold aNS at ih ⊢
  rw[List.any_cons]
  cases decide (0<=x∧x<=m-1)
  ·exact⟨i,rfl⟩
  ·refine⟨j,?_⟩
   dsimp only
   rw[Bool.not_true,cond_false,aAl (by omega),ih,Bool.false_or]
theorem bGZ (N:Nat)(l:List Int)(hl:l.length<=1000000)(hN:l.length<N)(m:Int)(hm:0<=m∧m<=1000000)(k:Bool->Int->Option R):aAb N l m k=k (aNS m l) m:=by
 unfold aAb aBf
 obtain⟨j,this⟩:=aQU N (fun y1 y2=>k (decide (0<=y1)) y2) (fun z=>k (decide ((0:Int)<=-1)) z) l hl m hm l N 0 rfl hN
 rw[Int.natCast_zero]at this
 rw[this]
 cases aNS m l
 ·rfl
 ·rw[if_pos rfl,decide_eq_true (by omega)]
theorem aN1 (N:Nat)(k0:Int->Int->Option R)(k1:Int->Option R)(l:List Int)(hl:l.length<=1000000)(m:Int):∀ (r:List Int) (n i:Nat),l.drop i=r->r.length<n ->
  ∃ j:Nat,aAD N k0 k1 n l l.length i m=if r.all (fun x=>decide (x=m))=true then k1 m else k0 j m
 | [],n,i,h,hn=>by
  obtain⟨n,rfl⟩:=sc hn
  exact⟨0,by rw[aAD,aAc (aAm h)];rfl⟩
 | x :: r,n,i,h,hn=>by
  obtain⟨n,rfl⟩:=sc hn
  obtain⟨h1,h2,h3⟩:=aAh h
  obtain⟨j,ih⟩:=aN1 N k0 k1 l hl m r n (i+1) h3 (by simp at hn;omega)
  rw[aAD,aAd (by omega),h2,aAe]
  unfold aHN
  dsimp only
  rw[List.all_cons]
  by_cases hx:x=m
  ·refine⟨j,?_⟩
   rw[aAc (by simp[hx]),aAl (by omega),ih,decide_eq_true hx,Bool.true_and]
  ·exact⟨i,by rw[aAd hx,decide_eq_false hx];rfl⟩
theorem same_eq (N:Nat)(l:List Int)(hl:l.length<=1000000)(hN:l.length<N)(m v:Int)(k:Bool->Option R):aIh N m l v k=k (l.all fun x=>decide (x=m)):=by
 unfold aIh aB0 aCh
 obtain⟨j,this⟩:=aN1 N (fun y1 y2=>k (!decide (0<=y1))) (fun z=>k (!decide ((0:Int)<=-1))) l hl m l N 0 rfl hN
 rw[Int.natCast_zero]at this
 rw[this]
 cases l.all fun x=>decide (x=m)
 ·rw[if_neg (by simp),decide_eq_true (by omega)];rfl
 ·rfl
theorem bN7 (N:Nat)(v w:Int)(h0:1<=w)(h:w<=16)(k:Bool->Option R):aHu N v w k=k (vok w v):=by
 have:=aQ8 w;have:=bDz h
 unfold aHu
 rw[aAd (by omega),aAc (by omega),aVr (by omega) (by omega),aDt (by omega) (by omega),aIK];rfl
theorem aOQ (N:Nat)(leaves:List Int)(hl:leaves.length<=1000000)(op wd:Int)(args:List Int)(v:Int)(nm:ByteArray)(na:Int)(b:Bool)(f g:Nat)(cs:List S)(hw:wOK wd=true)(hb:b=decide (op=0∨op=1∨op=14))(k:Int->Option R) :
  aE8 N leaves op wd args v nm na b f g cs k=k (aJg leaves op wd v):=by
 have hw:=of_decide_eq_true hw
 unfold aE8 aJg
 by_cases c0:op=0
 ·rw[aAd c0,if_pos c0,bN7 N v wd hw.1 hw.2,aCt]
 ·rw[aAc c0,if_neg c0]
  by_cases c1:op=1
  ·rw[aAd c1,if_pos c1,aIK,aDt (by omega) (by omega)]
   by_cases c:0<=v∧v<=(leaves.length:Int)-1
   ·rw[decide_eq_true c,if_pos c,Bool.not_true,cond_false]
    obtain⟨n,rfl⟩:∃ n:Nat,v=n:=⟨v.toNat,by omega⟩
    rw[aHb (show n<leaves.length by omega),aAe,aCt,Int.toNat_natCast,List.getElem?_eq_getElem (show n<leaves.length by omega)]
    by_cases e:leaves[n]'(by omega)=wd <;> simp[e]
   ·rw[decide_eq_false c,if_neg c];rfl
  ·rw[aAc c1,if_neg c1]
   by_cases c2:op=14
   ·rw[aAd c2,if_pos c2,aIK,aCt]
    congr 1;by_cases c:0<=v∧v<=15 <;> simp[c]
   ·rw[aAc c2,if_neg c2,hb,decide_eq_false (by omega),cond_false,aCt]
    congr 1;by_cases c:v=0 <;> simp[c]
theorem aKK (N:Nat)(k0:Int->Int->List Int->Int->ByteArray->Int->Bool->Nat->Nat->List S->List Int->List Int->List Nd->Option R)(l:List Int)(hl:l.length<=3)(nodes:List Nd)(m:Int)(hm:m<=nodes.length)
  (op wd:Int) (args:List Int) (v:Int) (nm:ByteArray) (na:Int) (b:Bool) (f g:Nat) (cs:List S) (lv:List Int):∀ (r:List Int) (n i:Nat) (acc:List Int),l.drop i=r->r.length<n->acc.length<=i->aNS m r=false ->
  aBp N k0 n l l.length i nodes op wd args v nm na b f g cs acc lv=k0 op wd args v nm na b f g cs (acc++r.map (aKu nodes)) lv nodes
 | [],n,i,acc,h,hn,ha,ho=>by
  obtain⟨n,rfl⟩:=sc hn
  rw[aBp,aAc (aAm h),List.map_nil,List.append_nil]
 | x :: r,n,i,acc,h,hn,ha,ho=>by
  obtain⟨n,rfl⟩:=sc hn
  obtain⟨h1,h2,h3⟩:=aAh h
  unfold aNS at ho
  rw[List.any_cons,Bool.or_eq_false_iff]at ho
  have hx:0<=x∧x<=m-1:=by simpa using ho.1
  obtain⟨a,rfl⟩:∃ a:Nat,x=a:=⟨x.toNat,by omega⟩
  have ih:=aKK N k0 l hl nodes m hm op wd args v nm na b f g cs lv r n (i+1) (acc++[nodes[a]'(by omega) |>.2.1]) h3 (by simp at hn;omega) (by simp;omega) ho.2
  rw[aBp,aAd (by omega),h2,aAe,aHb (show a<nodes.length by omega),aAe,aBs (by omega),cond_true,aAl (by omega),ih,List.map_cons,List.append_assoc]
  unfold aKu
  rw[Int.toNat_natCast,List.getElem?_eq_getElem (show a<nodes.length by omega)]
  rfl
def WOK (nodes:List Nd)(i:Int):Prop:=∀ a:Int,0<=a->a<=i-1->wOK (aKu nodes a)=true
theorem bIx (N:Nat)(hN:10<=N)(leaves:List Int)(hl:leaves.length<=1000000)(nodes:List Nd)(m:Int)(hm:m<=nodes.length)(hW:WOK nodes m)(op wd:Int)(args:List Int)(v:Int)(nm:ByteArray)(na:Int)(b:Bool)(f g:Nat)(cs:List S)
  (hw:wOK wd=true) (hb:b=decide (op=0∨op=1∨op=14)) (hna:na=aOs op) (k:Int->List Int->List Nd->Option R) (K:Int->Int->List Int->Int->ByteArray->Int->Bool->Nat->Nat->List S->List Int->List Int->List Nd->Option R)
  (hj:∀ w:List Int,(w.length:Int)=aOs op->(∀ x,x∈w->wOK x=true)->aJg leaves op wd v=0->K op wd args v nm na b f g cs w leaves nodes=k (if aJ5 op wd v w=true then 0 else 25) leaves nodes) :
  (aAy N (decide (((args.length:Nat):Int)=na)) 10 (fun y1=>(aAy N (!(aNS m args)) 9 (fun y2=>(aE8 N leaves op wd args v nm na b f g cs (fun y3=>(aC8 N [y1,y2,y3] (fun y4=>(bif decide (y4≠0)then (k y4 leaves nodes)else (aBp N K N args ((args.length:Nat):Int) 0 nodes op wd args v nm na b f g cs [] leaves)))))))))) =
  k (f1 (if (args.length:Int)=aOs op then 0 else 10) (f1 (if aNS m args=true then 9 else 0) (f1 (aJg leaves op wd v) (if aJ5 op wd v (args.map (aKu nodes))=true then 0 else 25)))) leaves nodes:=by
 rw[aCt,aCt,aOQ N leaves hl op wd args v nm na b f g cs hw hb,bC4 N hN,hna]
 by_cases c1:(args.length:Int)=aOs op
 ·rw[decide_eq_true c1,if_pos rfl,aGq,if_pos c1,aGq]
  have h3:args.length<=3:=by
    unfold aOs at c1
    split at c1
    ·omega
    ·split at c1
     ·omega
     ·split at c1 <;> omega
  cases c2:aNS m args
  · rw[Bool.not_false,if_pos rfl,aGq,if_neg (by simp),aGq]
    by_cases c3:aJg leaves op wd v=0
    ·rw[c3,aAc (by simp),aGq]
     have:=aKK N K args h3 nodes m hm op wd args v nm (aOs op) b f g cs leaves args N 0 [] rfl (by omega) (by simp) c2
     rw[Int.natCast_zero,List.nil_append]at this
     rw[this,<- hna]
     refine hj _ (by rw[List.length_map];exact c1) (fun x hx=>?_) c3
     obtain⟨a,ha,rfl⟩:=List.mem_map.1 hx
     have:=List.any_eq_false.1 c2 a ha
     have:0<=a∧a<=m-1:=by simpa using this
     exact hW a this.1 this.2
    ·rw[aAd c3,aKn c3]
  · rw[if_pos rfl];rfl
 ·rw[decide_eq_false c1,if_neg c1];rfl
theorem aLX {w:List Int}{i:Nat}(h:i<w.length):at? w (i:Int)=some (w0 w i):=by rw[aHb h];unfold w0;rw[List.getElem?_eq_getElem h];rfl
theorem aMJ (N:Nat)(wd v:Int){w:List Int}(h:0<w.length)(k:Bool->Option R):aGI N wd w v k=k (decide (w0 w 0=wd)):=by unfold aGI;rw[show (0:Int)=((0:Nat):Int)from rfl,aLX h];rfl
theorem aK9 (N:Nat)(wd v:Int){w:List Int}(h:0<w.length)(k:Bool->Option R):aF9 N wd w v k=k (decide (w0 w 0<=wd)):=by unfold aF9;rw[show (0:Int)=((0:Nat):Int)from rfl,aLX h];rfl
theorem aIQ (N:Nat)(wd v:Int){w:List Int}(h:1<w.length)(k:Bool->Option R):aF5 N wd w v k=k (decide (wd=1∧w0 w 0=w0 w 1)):=by
 unfold aF5
 by_cases c:wd=1
 ·rw[aAd c,show (0:Int)=((0:Nat):Int)from rfl,aLX (by omega),aAe,show (1:Int)=((1:Nat):Int)from rfl,aLX h,aAe]
  congr 1;exact decide_eq_decide.2 ⟨fun h=>⟨c,h⟩,fun h=>h.2⟩
 ·rw[aAc c,decide_eq_false (fun h=>c h.1)]
theorem bHz (N:Nat)(wd v:Int){w:List Int}(h:2<w.length)(k:Bool->Option R):aDE N wd w v k=k (decide (w0 w 0=1∧w0 w 1=wd∧w0 w 2=wd)):=by
 unfold aDE
 rw[show at? w 0=_ from aLX (i:=0) (by omega),show at? w 1=_ from aLX (i:=1) (by omega),show at? w 2=_ from aLX (i:=2) h]
 simp only[aAe]
 by_cases c:w0 w 0=1
 ·rw[aAd c]
  by_cases c2:w0 w 1=wd
  ·rw[aAd c2];congr 1;exact decide_eq_decide.2 ⟨fun h=>⟨c,c2,h⟩,fun h=>h.2.2⟩
  ·rw[aAc c2,decide_eq_false (fun h=>c2 h.2.1)]
 ·rw[aAc c,decide_eq_false (fun h=>c h.1)]
theorem aU6 {w:List Int}(hw:∀ x,x∈w->wOK x=true){i:Nat}(h:i<w.length):1<=w0 w i∧w0 w i<=16:=by
 unfold w0;rw[List.getElem?_eq_getElem h]
 exact of_decide_eq_true (hw _ (List.getElem_mem h))
theorem bDg (N:Nat)(wd v:Int){w:List Int}(h:1<w.length)(hw:∀ x,x∈w->wOK x=true)(k:Bool->Option R):aDF N wd w v k=k (decide (w0 w 0+w0 w 1=wd)):=by
 have:=aU6 hw h;have:=aU6 hw (show 0<w.length by omega)
 unfold aDF
 rw[show at? w 0=_ from aLX (i:=0) (by omega),aAe,show at? w 1=_ from aLX (i:=1) (by omega),aAe,aDt (by omega) (by omega)]
theorem aYv (N:Nat)(wd v:Int){w:List Int}(h:0<w.length)(h1:0<=wd∧wd<=16)(h2:0<=v∧v<=15)(k:Bool->Option R):aDC N wd w v k=k (decide (v+wd<=w0 w 0)):=by
 unfold aDC
 rw[show at? w 0=_ from aLX (i:=0) (by omega),aAe,aDt (by omega) (by omega)]
theorem bBO (N:Nat)(hN:10<=N)(leaves:List Int)(hl:leaves.length<=1000000)(nodes:List Nd)(hn:nodes.length<=1000000)(m:Nat)(hm:m<=nodes.length)(hW:WOK nodes m)(op wd:Int)(args:List Int)(ha:args.length<=1000000)(haN:args.length<N)(v:Int)(k:Int->List Int->List Nd->Option R) :
  aDZ N m op wd args v leaves nodes k=k (aJQ leaves nodes m (op,wd,args,v)) leaves nodes:=by
 unfold aDZ aJQ
 simp only[aIK,aCt,aZm,aUx N hN,bGZ N args ha haN (m:Int) ⟨by omega,by omega⟩]
 by_cases c0:0<=op∧op<=18
 ·rw[decide_eq_true c0,if_pos rfl,if_pos c0,aGq,aGq]
  by_cases c1:wOK wd=true
  ·have hwd:=of_decide_eq_true c1
   rw[if_pos c1,aAc (by simp),aGq]
   have hop:op=18∨op=17∨op=16∨op=15∨op=14∨op=13∨op=12∨op=11∨op=10∨op=9∨op=8∨op=7∨op=6∨op=5∨op=4∨op=3∨op=2∨op=1∨op=0:=by omega
   rcases hop with rfl | rfl | rfl | rfl | rfl | rfl | rfl | rfl | rfl | rfl | rfl | rfl | rfl | rfl | rfl | rfl | rfl | rfl | rfl
   all_goals
    simp only[Int.reduceEq,decide_true,decide_false,cond_true,cond_false]
    unfold aAg
    refine bIx N hN leaves hl nodes m (by omega) hW _ wd args v _ _ _ _ _ _ c1 (by rfl) (by rfl) k _ fun w hw1 hw2 hw3=>?_
    try dsimp only
    simp only[Nat.reduceEqDiff,decide_true,decide_false,cond_true,cond_false]
   ·rw[aMJ N wd v (by have:(w.length:Int)=2:=hw1;omega),aCt];rfl
   ·rw[aMJ N wd v (by have:(w.length:Int)=2:=hw1;omega),aCt];rfl
   ·rw[aK9 N wd v (by have:(w.length:Int)=1:=hw1;omega),aCt];rfl
   ·rw[aK9 N wd v (by have:(w.length:Int)=1:=hw1;omega),aCt];rfl
   ·have hv:(if 0<=v∧v<=15 then (0:Int)else 2)=0:=hw3
    rw[aYv N wd v (by have:(w.length:Int)=1:=hw1;omega) ⟨by omega,by omega⟩ (by split at hv <;> omega),aCt];rfl
   ·rw[bDg N wd v (by have:(w.length:Int)=2:=hw1;omega) hw2,aCt];rfl
   ·rw[bHz N wd v (by have:(w.length:Int)=3:=hw1;omega),aCt];rfl
   ·rw[aIQ N wd v (by have:(w.length:Int)=2:=hw1;omega),aCt];rfl
   ·rw[aIQ N wd v (by have:(w.length:Int)=2:=hw1;omega),aCt];rfl
   ·rw[aIQ N wd v (by have:(w.length:Int)=2:=hw1;omega),aCt];rfl
   ·have:(w.length:Int)=2:=hw1
    rw[same_eq N w (by omega) (by omega),aCt];rfl
   ·have:(w.length:Int)=2:=hw1
    rw[same_eq N w (by omega) (by omega),aCt];rfl
   ·have:(w.length:Int)=2:=hw1
    rw[same_eq N w (by omega) (by omega),aCt];rfl
   ·have:(w.length:Int)=2:=hw1
    rw[same_eq N w (by omega) (by omega),aCt];rfl
   ·have:(w.length:Int)=2:=hw1
    rw[same_eq N w (by omega) (by omega),aCt];rfl
   ·have:(w.length:Int)=2:=hw1
    rw[same_eq N w (by omega) (by omega),aCt];rfl
   ·have:(w.length:Int)=1:=hw1
    rw[same_eq N w (by omega) (by omega),aCt];rfl
   ·unfold aF6;dsimp only;rw[aCt];rfl
   ·unfold aF6;dsimp only;rw[aCt];rfl
  ·rw[if_neg c1,aAd (by omega)];rfl
 ·rw[decide_eq_false c0,if_neg c0];rfl
def aGZ (leaves:List Int)(nodes:List Nd):Nat->List Nd->Int
 | _,[]=>0
 | i,x :: r=>f1 (aJQ leaves nodes i x) (aGZ leaves nodes (i+1) r)
theorem aIL (leaves:List Int)(nodes:List Nd)(i:Nat)(x:Nd)(r:List Nd):aGZ leaves nodes i (x :: r)=f1 (aJQ leaves nodes i x) (aGZ leaves nodes (i+1) r):=rfl
theorem aPs {leaves:List Int}{nodes:List Nd}{i:Int}{x:Nd}(h:aJQ leaves nodes i x=0):(0<=x.1∧x.1<=18)∧wOK x.2.1=true∧(x.2.2.1.length:Int)=aOs x.1∧aNS i x.2.2.1=false∧aJg leaves x.1 x.2.1 x.2.2.2=0∧aJ5 x.1 x.2.1 x.2.2.2 (x.2.2.1.map (aKu nodes))=true:=by
 unfold aJQ at h
 simp only[f1_0]at h
 obtain⟨h1,h2,h3,h4,h5,h6⟩:=h
 refine⟨?_,?_,?_,?_,h5,?_⟩
 ·split at h1
  ·assumption
  ·cases h1
 ·split at h2
  ·assumption
  ·cases h2
 ·split at h3
  ·assumption
  ·cases h3
 ·split at h4
  ·cases h4
  ·rename_i q;exact Bool.eq_false_iff.2 q
 ·split at h6
  ·assumption
  ·cases h6
theorem aQn {nodes:List Nd}{i:Nat}{x:Nd}{r:List Nd}(h:nodes.drop i=x :: r)(hw:wOK x.2.1=true)(hW:WOK nodes i):WOK nodes ((i+1:Nat):Int):=by
 intro a h0 h1
 by_cases e:a=(i:Int)
 ·subst e
  have hl:=(aAh h).1
  rw[aI8 hl]at h
  injection h with h2 h3
  unfold aKu
  rw[Int.toNat_natCast,List.getElem?_eq_getElem hl,h2]
  exact hw
 ·exact hW a h0 (by omega)
theorem aME (N:Nat)(hN:10<=N)(k0:Int->Int->List Int->List Nd->Option R)(k1:List Int->List Nd->Option R)(leaves:List Int)(hl:leaves.length<=1000000)(nodes:List Nd)(hn:nodes.length<=1000000)(hA:∀ x,x∈nodes->x.2.2.1.length<=1000000∧x.2.2.1.length<N):∀ (r:List Nd) (n i:Nat),nodes.drop i=r->r.length<n->WOK nodes i ->
  ∃ j:Int,aCk N k0 k1 n nodes nodes.length i leaves nodes=if aGZ leaves nodes i r=0 then k1 leaves nodes else k0 j (aGZ leaves nodes i r) leaves nodes
 | [],n,i,h,hn,hW=>by
  obtain⟨n,rfl⟩:=sc hn
  exact⟨0,by rw[aCk,aAc (aAm h)];rfl⟩
 | x :: r,n,i,h,hn,hW=>by
  obtain⟨n,rfl⟩:=sc hn
  obtain⟨h1,h2,h3⟩:=aAh h
  have hx:x∈nodes:=List.mem_of_mem_drop (h▸List.mem_cons_self:x∈nodes.drop i)
  rw[aCk,aAd (by omega),h2,aAe,bBO N hN leaves hl nodes ‹_› i (by omega) hW x.1 x.2.1 x.2.2.1 (hA x hx).1 (hA x hx).2,aIL]
  by_cases c:aJQ leaves nodes i x=0
  ·obtain⟨j,ih⟩:=aME N hN k0 k1 leaves hl nodes ‹_› hA r n (i+1) h3 (by simp at hn;omega) (aQn h (aPs c).2.1 hW)
   refine⟨j,?_⟩
   have c':aJQ leaves nodes i (x.1,x.2.1,x.2.2.1,x.2.2.2)=0:=c
   rw[aAc (by simp[c']),aAl (by omega),ih,c,aGq]
  ·refine⟨i,?_⟩
   have c':aJQ leaves nodes i (x.1,x.2.1,x.2.2.1,x.2.2.2)≠0:=c
   rw[aAd c',aKn c,if_neg c]
def aQR (leaves:List Int)(nodes:List Nd):Int:=if 40<(leaves.length:Int)then 8 else if leaves.all wOK=true then (if 400<(nodes.length:Int)then 8 else aGZ leaves nodes 0 nodes)else 2
theorem aMH (N:Nat)(hN:1000<=N)(leaves:List Int)(nodes:List Nd)(hA:∀ x,x∈nodes->x.2.2.1.length<=1000000∧x.2.2.1.length<N)(k:Int->Int->Option R):∃ j:Int,aD8 N leaves nodes k=k j (aQR leaves nodes):=by
 unfold aD8 aQR
 by_cases c0:40<(leaves.length:Int)
 ·exact⟨0,by rw[aAd c0,if_pos c0]⟩
 ·rw[aAc c0,if_neg c0]
  obtain⟨j,e⟩:=aPH N leaves (by omega) (by omega) (fun y1 y2=>bif decide (y2≠0)then k y1 y2 else bif decide (400<((nodes.length:Nat):Int))then k 0 8 else aFg N (aG4 N nodes leaves nodes fun y3 y4 y5 y6=>k y3 y4))
  rw[e]
  by_cases c1:leaves.all wOK=true
  ·rw[if_pos c1,if_pos c1]
   try dsimp only
   rw[aAc (by simp)]
   by_cases c2:400<(nodes.length:Int)
   ·exact⟨0,by rw[aAd c2,if_pos c2]⟩
   ·rw[aAc c2,if_neg c2]
    obtain⟨j,e⟩:=aME N (by omega) (fun y3 y4 y5 y6=>k y3 y4) (fun z9 z10=>k 0 0) leaves (by omega) nodes (by omega) hA nodes N 0 rfl (by omega) (fun a h0 h1=>by omega)
    rw[Int.natCast_zero]at e
    refine⟨if aGZ leaves nodes 0 nodes=0 then 0 else j,?_⟩
    show aCk N (fun y3 y4 y5 y6=>k y3 y4) (fun z9 z10=>k 0 0) N nodes nodes.length 0 leaves nodes=_
    rw[e]
    by_cases c:aGZ leaves nodes 0 nodes=0
    ·rw[if_pos c,if_pos c,c]
    ·rw[if_neg c,if_neg c]
  ·refine⟨j,?_⟩
   rw[if_neg c1,if_neg c1];rfl
def b2i (b:Bool):Int:=if b=true then 1 else 0
def apS (op wd v:Int)(w a:List Int):Int:=
 if op=0 then v else if op=2 then p2 wd-1-w0 a 0 else if op=3 then bLe .i64 (w0 a 0) (w0 a 1)else if op=4 then orI .i64 (w0 a 0) (w0 a 1)else if op=5 then bQA .i64 (w0 a 0) (w0 a 1)
 else if op=6 then (w0 a 0+w0 a 1)%p2 wd else if op=7 then (w0 a 0-w0 a 1)%p2 wd else if op=8 then (w0 a 0*w0 a 1)%p2 wd else if op=9 then b2i (decide (w0 a 0=w0 a 1))else if op=10 then b2i (decide (w0 a 0<w0 a 1))
 else if op=11 then b2i (decide (sg (w0 w 0) (w0 a 0)<sg (w0 w 0) (w0 a 1)))else if op=12 then (if w0 a 0=1 then w0 a 1 else w0 a 2)else if op=13 then w0 a 0*p2 (w0 w 1)+w0 a 1 else if op=14 then w0 a 0/p2 v%p2 wd
 else if op=15 then w0 a 0 else if op=16 then sg (w0 w 0) (w0 a 0)%p2 wd else if op=17 then (if wd<=w0 a 1 then 0 else w0 a 0*p2 (w0 a 1)%p2 wd)else (if wd<=w0 a 1 then 0 else w0 a 0/p2 (w0 a 1))
theorem bYp {n:Nat}(h:n<18446744073709551616):(BitVec.ofInt 64 (n:Int)).toNat=n:=by
 rw[bXT,Int.emod_eq_of_lt (by omega) (by omega)];omega
theorem bZa {a b:Nat}(ha:a<65536)(hb:b<65536):bLe .i64 a b=((a &&& b:Nat):Int):=by
 have h:a &&& b<2^16:=Nat.and_lt_two_pow a hb
 have e:(BitVec.ofInt 64 (a:Int) &&& BitVec.ofInt 64 (b:Int)).toNat=a &&& b:=by rw[BitVec.toNat_and,bYp (by omega),bYp (by omega)]
 show IntKind.wrap .i64 (((BitVec.ofInt 64 (a:Int) &&& BitVec.ofInt 64 (b:Int)).toNat:Nat):Int)=_
 rw[e];exact aDt (by omega) (by omega)
theorem bY0 {a b:Nat}(ha:a<65536)(hb:b<65536):orI .i64 a b=((a ||| b:Nat):Int):=by
 have h:a ||| b<2^16:=Nat.or_lt_two_pow (n:=16) ha hb
 have e:(BitVec.ofInt 64 (a:Int) ||| BitVec.ofInt 64 (b:Int)).toNat=a ||| b:=by rw[BitVec.toNat_or,bYp (by omega),bYp (by omega)]
 show IntKind.wrap .i64 (((BitVec.ofInt 64 (a:Int) ||| BitVec.ofInt 64 (b:Int)).toNat:Nat):Int)=_
 rw[e];exact aDt (by omega) (by omega)
theorem bY9 {a b:Nat}(ha:a<65536)(hb:b<65536):bQA .i64 a b=((a ^^^ b:Nat):Int):=by
 have h:a ^^^ b<2^16:=Nat.xor_lt_two_pow (n:=16) ha hb
 have e:(BitVec.ofInt 64 (a:Int) ^^^ BitVec.ofInt 64 (b:Int)).toNat=a ^^^ b:=by rw[BitVec.toNat_xor,bYp (by omega),bYp (by omega)]
 show IntKind.wrap .i64 (((BitVec.ofInt 64 (a:Int) ^^^ BitVec.ofInt 64 (b:Int)).toNat:Nat):Int)=_
 rw[e];exact aDt (by omega) (by omega)
theorem cBE {a:Int}(h0:0<=a)(h:a<=65536):bQN .i64 a=-1-a:=by
 have e:(BitVec.ofInt 64 (-1) ^^^ BitVec.ofInt 64 a).toNat=18446744073709551615-a.toNat:=by
  have:BitVec.ofInt 64 (-1) ^^^ BitVec.ofInt 64 a= ~~~ (BitVec.ofInt 64 a):=by
   rw[show BitVec.ofInt 64 (-1)=BitVec.allOnes 64 from rfl,BitVec.allOnes_xor]
  rw[this,BitVec.toNat_not,bXT,Int.emod_eq_of_lt (by omega) (by omega)]
 show IntKind.wrap .i64 (((BitVec.ofInt 64 (-1) ^^^ BitVec.ofInt 64 a).toNat:Nat):Int)=_
 rw[e]
 show w64 _=_
 have e2:((18446744073709551615-a.toNat:Nat):Int)=18446744073709551616+(-1-a):=by omega
 rw[e2]
 have:=aDt (x:=-1-a) (by omega) (by omega)
 unfold w64 IntKind.wrap at this ⊢
 rw[show ((18446744073709551616:Int)+(-1-a))%2^IntKind.bits .i64=(-1-a)%2^IntKind.bits .i64 from Int.add_emod_left _ _]
 exact this
theorem bYm (N:Nat)(n w:Int)(h0:0<=w)(h:w<=16)(k:Int->Option R):aDP N n w k=k (n%p2 w):=by
 have:=aQ8 w;have:=bDz h
 unfold aDP
 rw[aAc (by omega),aVr h0 (by omega),aDt (by omega) (by omega),cAs n w h0 h]
theorem bYG {w n:Int}(h:vok w n=true):0<=n∧n<=p2 w-1:=of_decide_eq_true h
theorem bYU {w n:Int}(h:0<=n∧n<=p2 w-1):vok w n=true:=decide_eq_true h
theorem bXL {w n:Int}(hw:w<=16)(h:vok w n=true):0<=n∧n<=65535:=by
 have:=bYG h;have:=bDz hw;omega
theorem cCt {w w' n:Int}(h:vok w n=true)(hw:w<=w'):vok w' n=true:=by
 have:=bYG h;have:=bJV hw;exact bYU (by omega)
theorem cBw {w v:Int}(h1:1<=w)(hv:vok w v=true):v/p2 (w-1)=if p2 (w-1)<=v then 1 else 0:=by
 have:=bYV h1;have:=aQ8 (w-1)
 have hv:=bYG hv
 split
 ·exact ((Int.ediv_emod_unique (r:=v-p2 (w-1)) (by omega)).2 ⟨by omega,by omega,by omega⟩).1
 ·exact Int.ediv_eq_zero_of_lt (by omega) (by omega)
theorem bYZ (N:Nat){w v:Int}(h1:1<=w)(h2:w<=16)(hv:vok w v=true)(k:Int->Option R):aHj N v w k=k (sg w v):=by
 have:=aQ8 w;have:=bDz h2;have hr:=bXL h2 hv
 unfold aHj sg
 rw[aDt (x:=w-1) (by omega) (by omega),aAc (by omega),bZN v (by omega) (by omega),cBw h1 hv]
 by_cases c:p2 (w-1)<=v
 ·rw[if_pos c,if_pos c,aAd (show bLe .i64 1 1=1 by decide +kernel),aAc (by omega),aVr (by omega) (by omega),aDt (by omega) (by omega)]
 ·rw[if_neg c,if_neg c,aAc (show ¬bLe .i64 0 1=1 by decide +kernel)]
theorem ats {a:List Int}{i:Nat}(h:i<a.length):at? a (i:Int)=some (w0 a i):=aLX h
theorem bZL (b:Bool):vok 1 (b2i b)=true:=by cases b <;> rfl
theorem bZ6 (N:Nat)(b:Bool)(k:Int->Option R):aHK N b k=k (b2i b):=by cases b <;> rfl
def VS (w a:List Int):Prop:=w.length=a.length∧∀ i,i<w.length->(1<=w0 w i∧w0 w i<=16)∧vok (w0 w i) (w0 a i)=true
theorem bXM {w n:Int}(h:w<=16)(hv:vok w n=true):∃ m:Nat,n=m∧m<65536∧m<2^w.toNat:=by
 have h1:=bXL h hv
 have h2:=bYG hv
 refine⟨n.toNat,by omega,by omega,?_⟩
 have:p2 w=((2^w.toNat:Nat):Int):=by unfold p2;simp
 omega
theorem bX3 {w:Int}{m:Nat}(h:m<2^w.toNat):vok w (m:Int)=true:=by
 have:p2 w=((2^w.toNat:Nat):Int):=by unfold p2;simp
 exact bYU (by omega)
theorem bXs {wd:Int}{w:List Int}(h:(w.all fun x=>decide (x=wd))=true){i:Nat}(hi:i<w.length):w0 w i=wd:=by
 have:=List.all_eq_true.1 h _ (List.getElem_mem hi)
 unfold w0;rw[List.getElem?_eq_getElem hi];simpa using this
theorem bX0 {x y X Y:Int}(h1:0<=x)(h2:x<=X)(h3:0<=y)(h4:y<=Y):0<=x*y∧x*y<=X*Y:=⟨Int.mul_nonneg h1 h3,Int.mul_le_mul h2 h4 h3 (by omega)⟩
theorem bZo {n:Int}(x:Int)(h0:0<=n)(h:n<=16)(hx:0<=x∧x<=65536):aPi .i64 x n=x*p2 n:=by
 have:=bDz h;have:=aQ8 n
 have q:=bX0 hx.1 hx.2 (show 0<=p2 n by omega) (show p2 n<=65536 by omega)
 unfold aPi
 have e:min n.toNat (IntKind.bits .i64)=n.toNat:=by
  have:IntKind.bits .i64=64:=rfl
  omega
 rw[e]
 exact aDt (x:=x*p2 n) (by omega) (by omega)
theorem cBJ {x y w:Int}(h0:0<=w)(hw:w<=16)(hx:0<=x)(hxy:x*p2 w<=65535)(hy:vok w y=true):orI .i64 (x*p2 w) y=x*p2 w+y:=by
 obtain⟨m,rfl,hm,hm2⟩:=bXM hw hy
 obtain⟨z,rfl⟩:∃ z:Nat,x=z:=⟨x.toNat,by omega⟩
 have e:p2 w=((2^w.toNat:Nat):Int):=by unfold p2;simp
 rw[e,<- Int.natCast_mul]at hxy ⊢
 rw[bY0 (by omega) hm,Nat.mul_comm,<- Nat.two_pow_add_eq_or_of_lt hm2,Int.natCast_add]
theorem cCZ (N:Nat){op wd v:Int}{w a:List Int}(h0:0<=op∧op<=18)(h1:op≠1)(hw:wOK wd=true)(hl:(w.length:Int)=aOs op)(hv:aJg [] op wd v=0)(hf:aJ5 op wd v w=true)(hs:VS w a):vok wd (apS op wd v w a)=true:=by
 have hwd:=of_decide_eq_true hw
 have hP:=aQ8 wd
 have hop:op=18∨op=17∨op=16∨op=15∨op=14∨op=13∨op=12∨op=11∨op=10∨op=9∨op=8∨op=7∨op=6∨op=5∨op=4∨op=3∨op=2∨op=0:=by omega
 rcases hop with rfl | rfl | rfl | rfl | rfl | rfl | rfl | rfl | rfl | rfl | rfl | rfl | rfl | rfl | rfl | rfl | rfl | rfl
 ·have hl:(w.length:Int)=2:=hl
  have hf:w0 w 0=wd:=of_decide_eq_true hf
  have h:=(hs.2 0 (by omega)).2
  have h':=bYG (hs.2 1 (by omega)).2
  rw[hf]at h
  have hr:=bYG h
  show vok wd (if wd<=w0 a 1 then 0 else w0 a 0/p2 (w0 a 1))=true
  split
  ·exact bYU (by omega)
  ·have:=aQ8 (w0 a 1)
   have e1:=Int.ediv_nonneg hr.1 (show 0<=p2 (w0 a 1) by omega)
   have e2:=Int.ediv_le_self (p2 (w0 a 1)) hr.1
   exact bYU (by omega)
 ·show vok wd (if wd<=w0 a 1 then 0 else w0 a 0*p2 (w0 a 1)%p2 wd)=true
  split
  ·exact bYU (by omega)
  ·exact bX2 _
 ·exact bX2 _
 ·have hl:(w.length:Int)=1:=hl
  have hf:w0 w 0<=wd:=of_decide_eq_true hf
  exact cCt (hs.2 0 (by omega)).2 hf
 ·exact bX2 _
 ·have hl:(w.length:Int)=2:=hl
  have hf:w0 w 0+w0 w 1=wd:=of_decide_eq_true hf
  have a0:=bYG (hs.2 0 (by omega)).2;have a1:=bYG (hs.2 1 (by omega)).2
  have b0:=(hs.2 0 (by omega)).1;have b1:=(hs.2 1 (by omega)).1
  have hp:=cAj (a:=w0 w 0) (b:=w0 w 1) (by omega) (by omega)
  have q1:=aQ8 (w0 w 1)
  show vok wd (w0 a 0*p2 (w0 w 1)+w0 a 1)=true
  have e:=Int.mul_le_mul_of_nonneg_right a0.2 (show 0<=p2 (w0 w 1) by omega)
  rw[Int.sub_mul,Int.one_mul]at e
  have e2:=Int.mul_nonneg a0.1 (show 0<=p2 (w0 w 1) by omega)
  rw[hf]at hp
  exact bYU (by omega)
 ·have hl:(w.length:Int)=3:=hl
  have hf:w0 w 0=1∧w0 w 1=wd∧w0 w 2=wd:=of_decide_eq_true hf
  have h1:=(hs.2 1 (by omega)).2;have h2:=(hs.2 2 (by omega)).2
  rw[hf.2.1]at h1
  rw[hf.2.2]at h2
  show vok wd (if w0 a 0=1 then w0 a 1 else w0 a 2)=true
  split <;> assumption
 ·have hf:wd=1∧_:=of_decide_eq_true hf
  rw[hf.1];exact bZL _
 ·have hf:wd=1∧_:=of_decide_eq_true hf
  rw[hf.1];exact bZL _
 ·have hf:wd=1∧_:=of_decide_eq_true hf
  rw[hf.1];exact bZL _
 ·exact bX2 _
 ·exact bX2 _
 ·exact bX2 _
 ·have hl:(w.length:Int)=2:=hl
  have e0:=bXs hf (i:=0) (by omega);have e1:=bXs hf (i:=1) (by omega)
  obtain⟨x,hx,x1,x2⟩:=bXM (by omega) (e0▸(hs.2 0 (by omega)).2)
  obtain⟨y,hy,y1,y2⟩:=bXM (by omega) (e1▸(hs.2 1 (by omega)).2)
  show vok wd (bQA .i64 (w0 a 0) (w0 a 1))=true
  rw[hx,hy,bY9 x1 y1];exact bX3 (Nat.xor_lt_two_pow x2 y2)
 ·have hl:(w.length:Int)=2:=hl
  have e0:=bXs hf (i:=0) (by omega);have e1:=bXs hf (i:=1) (by omega)
  obtain⟨x,hx,x1,x2⟩:=bXM (by omega) (e0▸(hs.2 0 (by omega)).2)
  obtain⟨y,hy,y1,y2⟩:=bXM (by omega) (e1▸(hs.2 1 (by omega)).2)
  show vok wd (orI .i64 (w0 a 0) (w0 a 1))=true
  rw[hx,hy,bY0 x1 y1];exact bX3 (Nat.or_lt_two_pow x2 y2)
 ·have hl:(w.length:Int)=2:=hl
  have e0:=bXs hf (i:=0) (by omega);have e1:=bXs hf (i:=1) (by omega)
  obtain⟨x,hx,x1,x2⟩:=bXM (by omega) (e0▸(hs.2 0 (by omega)).2)
  obtain⟨y,hy,y1,y2⟩:=bXM (by omega) (e1▸(hs.2 1 (by omega)).2)
  show vok wd (bLe .i64 (w0 a 0) (w0 a 1))=true
  rw[hx,hy,bZa x1 y1];exact bX3 (Nat.and_lt_two_pow _ y2)
 ·have hl:(w.length:Int)=1:=hl
  have e0:=bXs hf (i:=0) (by omega)
  have h:=bYG (e0▸(hs.2 0 (by omega)).2)
  show vok wd (p2 wd-1-w0 a 0)=true
  exact bYU (by omega)
 ·have hv:(if vok wd v=true then (0:Int)else 2)=0:=hv
  show vok wd v=true
  split at hv
  ·assumption
  ·cases hv
theorem bX6 (N:Nat)(k0:Int->Int->List Int->Int->List Int->List Int->Option R)(nodes:List Nd)(vals args:List Int)(ha:args.length<=3)(m:Int)(hm:m<=nodes.length)(hv:m<=vals.length)(op wd:Int)(ys:List Int)(v:Int):∀ (r:List Int) (n i:Nat) (w a:List Int),args.drop i=r->r.length<n->w.length<=i->a.length<=i->aNS m r=false ->
  aGs N k0 n nodes vals args args.length i op wd ys v w a=k0 op wd ys v (w++r.map (aKu nodes)) (a++r.map fun x=>w0 vals x.toNat)
 | [],n,i,w,a,h,hn,hw,ha',ho=>by
  obtain⟨n,rfl⟩:=sc hn
  rw[aGs,aAc (aAm h),List.map_nil,List.append_nil,List.map_nil,List.append_nil]
 | x :: r,n,i,w,a,h,hn,hw,ha',ho=>by
  obtain⟨n,rfl⟩:=sc hn
  obtain⟨h1,h2,h3⟩:=aAh h
  unfold aNS at ho
  rw[List.any_cons,Bool.or_eq_false_iff]at ho
  have hx:0<=x∧x<=m-1:=by simpa using ho.1
  obtain⟨b,rfl⟩:∃ b:Nat,x=b:=⟨x.toNat,by omega⟩
  have hb1:b<nodes.length:=by omega
  have hb2:b<vals.length:=by omega
  have ih:=bX6 N k0 nodes vals args ha m hm hv op wd ys v r n (i+1) (w++[nodes[b].2.1]) (a++[w0 vals b]) h3 (by simp at hn;omega) (by simp;omega) (by simp;omega) ho.2
  rw[aGs,aAd (by omega),h2,aAe,aHb hb1,aAe,aBs (by omega),cond_true,aLX hb2,aAe,aBs (by omega),cond_true,aAl (by omega),ih,List.map_cons,List.map_cons,List.append_assoc,List.append_assoc]
  unfold aKu
  rw[Int.toNat_natCast,List.getElem?_eq_getElem hb1]
  rfl
theorem aZS (op:Int):aOs op<=3:=by
 unfold aOs
 split
 ·omega
 ·split
  ·omega
  ·split <;> omega
theorem bZj (N:Nat)(hN:10<=N)(nodes:List Nd)(vals:List Int)(m:Int)(hm:m<=nodes.length)(hvl:m<=vals.length){op wd v:Int}{args:List Int}(h0:0<=op∧op<=18)(h1:op≠1)(hw:wOK wd=true)(hl:(args.length:Int)=aOs op)(ho:aNS m args=false)(hv:aJg [] op wd v=0)
  (hf:aJ5 op wd v (args.map (aKu nodes))=true) (hs:VS (args.map (aKu nodes)) (args.map fun x=>w0 vals x.toNat)) (k:Int->Option R) :
  aJA N nodes op wd args v vals k=k (apS op wd v (args.map (aKu nodes)) (args.map fun x=>w0 vals x.toNat)):=by
 have hwd:=of_decide_eq_true hw
 have hP:=aQ8 wd;have hP2:=bDz hwd.2
 have h3:=aZS op
 unfold aJA
 refine (bX6 N _ nodes vals args (by omega) m hm hvl op wd args v args N 0 [] [] rfl (by omega) (by simp) (by simp) ho).trans ?_
 rw[List.nil_append,List.nil_append]
 have hlw:((args.map (aKu nodes)).length:Int)=aOs op:=by rw[List.length_map];exact hl
 generalize args.map (aKu nodes)=w at *
 generalize (args.map fun x=>w0 vals x.toNat)=a at *
 have hla:a.length=w.length:=hs.1.symm
 have hop:op=18∨op=17∨op=16∨op=15∨op=14∨op=13∨op=12∨op=11∨op=10∨op=9∨op=8∨op=7∨op=6∨op=5∨op=4∨op=3∨op=2∨op=0:=by omega
 rcases hop with rfl | rfl | rfl | rfl | rfl | rfl | rfl | rfl | rfl | rfl | rfl | rfl | rfl | rfl | rfl | rfl | rfl | rfl
 all_goals simp only[Int.reduceEq,decide_true,decide_false,cond_true,cond_false]
 ·have hlw:(w.length:Int)=2:=hlw
  have hf:w0 w 0=wd:=of_decide_eq_true hf
  have r0:=bYG (hf▸(hs.2 0 (by omega)).2);have r1:=bXL ((hs.2 1 (by omega)).1).2 (hs.2 1 (by omega)).2
  unfold aGB
  rw[show at? a 0=_ from ats (i:=0) (by omega),show at? a 1=_ from ats (i:=1) (by omega),aAe,aAe,aAc (by omega),bZN _ (by omega) (by omega)]
  show _=k (if wd<=w0 a 1 then 0 else w0 a 0/p2 (w0 a 1))
  by_cases c:wd<=w0 a 1
  · rw[if_pos c,Int.min_eq_right c,Int.ediv_eq_zero_of_lt (by omega) (by omega)]
  · rw[if_neg c,Int.min_eq_left (by omega)]
 ·have hlw:(w.length:Int)=2:=hlw
  have hf:w0 w 0=wd:=of_decide_eq_true hf
  have r0:=bXL hwd.2 (hf▸(hs.2 0 (by omega)).2);have r1:=bXL ((hs.2 1 (by omega)).1).2 (hs.2 1 (by omega)).2
  unfold aGC
  rw[show at? a 0=_ from ats (i:=0) (by omega),show at? a 1=_ from ats (i:=1) (by omega),aAe,aAe,aAc (by omega),bZo _ (by omega) (by omega) (by omega),bYm N _ wd (by omega) (by omega)]
  show _=k (if wd<=w0 a 1 then 0 else w0 a 0*p2 (w0 a 1)%p2 wd)
  by_cases c:wd<=w0 a 1
  · rw[if_pos c,Int.min_eq_right c,Int.mul_emod_left]
  · rw[if_neg c,Int.min_eq_left (by omega)]
 ·have hlw:(w.length:Int)=1:=hlw
  have r0:=hs.2 0 (by omega)
  unfold aGE
  rw[show at? a 0=_ from ats (i:=0) (by omega),aAe,show at? w 0=_ from ats (i:=0) (by omega),aAe,bYZ N r0.1.1 r0.1.2 r0.2,bYm N _ wd (by omega) (by omega)]
  rfl
 ·have hlw:(w.length:Int)=1:=hlw
  unfold aGv
  rw[show at? a 0=_ from ats (i:=0) (by omega),aAe]
  rfl
 ·have hlw:(w.length:Int)=1:=hlw
  have hv:(if 0<=v∧v<=15 then (0:Int)else 2)=0:=hv
  have hv:0<=v∧v<=15:=by
    split at hv
    ·assumption
    ·cases hv
  unfold aGw
  rw[show at? a 0=_ from ats (i:=0) (by omega),aAe,aAc (by omega),bZN _ (by omega) (by omega),bYm N _ wd (by omega) (by omega)]
  rfl
 ·have hlw:(w.length:Int)=2:=hlw
  have hf:w0 w 0+w0 w 1=wd:=of_decide_eq_true hf
  have r0:=hs.2 0 (by omega);have r1:=hs.2 1 (by omega)
  have s0:=bXL r0.1.2 r0.2
  have hp:=cAj (a:=w0 w 0) (b:=w0 w 1) (by omega) (by omega)
  rw[hf]at hp
  have q1:=aQ8 (w0 w 1)
  have e:=Int.mul_le_mul_of_nonneg_right (bYG r0.2).2 (show 0<=p2 (w0 w 1) by omega)
  rw[Int.sub_mul,Int.one_mul]at e
  unfold aGu
  rw[show at? a 0=_ from ats (i:=0) (by omega),show at? a 1=_ from ats (i:=1) (by omega),aAe,show at? w 1=_ from ats (i:=1) (by omega),aAe,aAc (by omega),aAe,bZo _ (by omega) (by omega) (by omega),cBJ (by omega) (by omega) s0.1 (by omega) r1.2]
  rfl
 ·have hlw:(w.length:Int)=3:=hlw
  unfold aGx
  rw[show at? a 0=_ from ats (i:=0) (by omega),show at? a 1=_ from ats (i:=1) (by omega),show at? a 2=_ from ats (i:=2) (by omega),aAe,aAe,aAe]
  show _=k (if w0 a 0=1 then w0 a 1 else w0 a 2)
  by_cases c:w0 a 0=1
  · rw[aAd c,if_pos c]
  · rw[aAc c,if_neg c]
 ·have hlw:(w.length:Int)=2:=hlw
  have hf:wd=1∧w0 w 0=w0 w 1:=of_decide_eq_true hf
  have r0:=hs.2 0 (by omega);have r1:=hs.2 1 (by omega)
  unfold aDB aGy
  rw[show at? a 0=_ from ats (i:=0) (by omega),show at? a 1=_ from ats (i:=1) (by omega),aAe,aAe,show at? w 0=_ from ats (i:=0) (by omega),aAe,bYZ N r0.1.1 r0.1.2 r0.2,bYZ N r0.1.1 r0.1.2 (hf.2▸r1.2)]
  exact bZ6 N _ k
 ·have hlw:(w.length:Int)=2:=hlw
  unfold aDA aGz
  rw[show at? a 0=_ from ats (i:=0) (by omega),show at? a 1=_ from ats (i:=1) (by omega),aAe,aAe,show at? w 0=_ from ats (i:=0) (by omega),aAe]
  exact bZ6 N _ k
 ·have hlw:(w.length:Int)=2:=hlw
  unfold aDM aGW
  rw[show at? a 0=_ from ats (i:=0) (by omega),show at? a 1=_ from ats (i:=1) (by omega),aAe,aAe,show at? w 0=_ from ats (i:=0) (by omega),aAe]
  exact bZ6 N _ k
 all_goals
  first
    | have hlw:(w.length:Int)=2:=hlw
    | have hlw:(w.length:Int)=1:=hlw
    | have hlw:(w.length:Int)=0:=hlw
 ·have e0:=bXs hf (i:=0) (by omega);have e1:=bXs hf (i:=1) (by omega)
  have r0:=bXL hwd.2 (e0▸(hs.2 0 (by omega)).2);have r1:=bXL hwd.2 (e1▸(hs.2 1 (by omega)).2)
  have q:=bX0 r0.1 r0.2 r1.1 r1.2
  unfold aD6 aGS
  rw[show at? a 0=_ from ats (i:=0) (by omega),show at? a 1=_ from ats (i:=1) (by omega),aAe,aAe,aDt (by omega) (by omega)]
  exact bYm N _ wd (by omega) (by omega) k
 ·have e0:=bXs hf (i:=0) (by omega);have e1:=bXs hf (i:=1) (by omega)
  have r0:=bXL hwd.2 (e0▸(hs.2 0 (by omega)).2);have r1:=bXL hwd.2 (e1▸(hs.2 1 (by omega)).2)
  unfold aD7 aGU
  rw[show at? a 0=_ from ats (i:=0) (by omega),show at? a 1=_ from ats (i:=1) (by omega),aAe,aAe,aDt (by omega) (by omega)]
  exact bYm N _ wd (by omega) (by omega) k
 ·have e0:=bXs hf (i:=0) (by omega);have e1:=bXs hf (i:=1) (by omega)
  have r0:=bXL hwd.2 (e0▸(hs.2 0 (by omega)).2);have r1:=bXL hwd.2 (e1▸(hs.2 1 (by omega)).2)
  unfold aEb aGN
  rw[show at? a 0=_ from ats (i:=0) (by omega),show at? a 1=_ from ats (i:=1) (by omega),aAe,aAe,aDt (by omega) (by omega)]
  exact bYm N _ wd (by omega) (by omega) k
 ·have e0:=bXs hf (i:=0) (by omega);have e1:=bXs hf (i:=1) (by omega)
  obtain⟨x,hx,x1,x2⟩:=bXM (by omega) (e0▸(hs.2 0 (by omega)).2)
  obtain⟨y,hy,y1,y2⟩:=bXM (by omega) (e1▸(hs.2 1 (by omega)).2)
  unfold aD9 aG8
  rw[show at? a 0=_ from ats (i:=0) (by omega),show at? a 1=_ from ats (i:=1) (by omega),aAe,aAe]
  show aDP N _ wd k=k (bQA .i64 (w0 a 0) (w0 a 1))
  have q:=bYG (w:=wd) (bX3 (Nat.xor_lt_two_pow x2 y2))
  rw[bYm N _ wd (by omega) (by omega),hx,hy,bY9 x1 y1,Int.emod_eq_of_lt q.1 (by omega)]
 ·have e0:=bXs hf (i:=0) (by omega);have e1:=bXs hf (i:=1) (by omega)
  obtain⟨x,hx,x1,x2⟩:=bXM (by omega) (e0▸(hs.2 0 (by omega)).2)
  obtain⟨y,hy,y1,y2⟩:=bXM (by omega) (e1▸(hs.2 1 (by omega)).2)
  unfold aEd aGV
  rw[show at? a 0=_ from ats (i:=0) (by omega),show at? a 1=_ from ats (i:=1) (by omega),aAe,aAe]
  show aDP N _ wd k=k (orI .i64 (w0 a 0) (w0 a 1))
  have q:=bYG (w:=wd) (bX3 (Nat.or_lt_two_pow x2 y2))
  rw[bYm N _ wd (by omega) (by omega),hx,hy,bY0 x1 y1,Int.emod_eq_of_lt q.1 (by omega)]
 ·have e0:=bXs hf (i:=0) (by omega);have e1:=bXs hf (i:=1) (by omega)
  obtain⟨x,hx,x1,x2⟩:=bXM (by omega) (e0▸(hs.2 0 (by omega)).2)
  obtain⟨y,hy,y1,y2⟩:=bXM (by omega) (e1▸(hs.2 1 (by omega)).2)
  unfold aEa aHd
  rw[show at? a 0=_ from ats (i:=0) (by omega),show at? a 1=_ from ats (i:=1) (by omega),aAe,aAe]
  show aDP N _ wd k=k (bLe .i64 (w0 a 0) (w0 a 1))
  have q:=bYG (w:=wd) (bX3 (Nat.and_lt_two_pow x y2))
  rw[bYm N _ wd (by omega) (by omega),hx,hy,bZa x1 y1,Int.emod_eq_of_lt q.1 (by omega)]
 ·have e0:=bXs hf (i:=0) (by omega)
  have r0:=bYG (e0▸(hs.2 0 (by omega)).2)
  unfold aGM
  rw[show at? a 0=_ from ats (i:=0) (by omega),aAe,bYm N _ wd (by omega) (by omega),cBE r0.1 (by omega)]
  show k _=k (p2 wd-1-w0 a 0)
  congr 1
  exact ((Int.ediv_emod_unique (q:=-1) (r:=p2 wd-1-w0 a 0) (by omega)).2 ⟨by omega,by omega,by omega⟩).2
 ·rfl
def nv1 (lv:List Int)(nodes:List Nd)(acc:List Int)(x:Nd):Int:=if x.1=1 then w0 lv x.2.2.2.toNat else apS x.1 x.2.1 x.2.2.2 (x.2.2.1.map (aKu nodes)) (x.2.2.1.map fun a=>w0 acc a.toNat)
def nvG (lv:List Int)(nodes:List Nd):List Nd->List Int->List Int
 | [],acc=>acc
 | x :: r,acc=>nvG lv nodes r (acc++[nv1 lv nodes acc x])
theorem bYz (lv:List Int)(nodes:List Nd)(x:Nd)(r:List Nd)(acc:List Int):nvG lv nodes (x :: r) acc=nvG lv nodes r (acc++[nv1 lv nodes acc x]):=rfl
def LV (lw lv:List Int):Prop:=lv.length=lw.length∧∀ i,i<lw.length->vok (w0 lw i) (w0 lv i)=true
theorem cAt {l:List Int}{i:Nat}(h:i<l.length):w0 l i=l[i]:=by unfold w0;rw[List.getElem?_eq_getElem h];rfl
theorem bYo {α:Type}{l:List α}{f:α->Int}{i:Nat}(h:i<l.length):w0 (l.map f) i=f l[i]:=by rw[cAt (by simpa using h),List.getElem_map]
theorem cCC {l:List Int}{x:Int}{i:Nat}(h:i<l.length):w0 (l++[x]) i=w0 l i:=by unfold w0;rw[List.getElem?_append_left h]
theorem cB6 (l:List Int)(x:Int):w0 (l++[x]) l.length=x:=by unfold w0;rw[List.getElem?_append_right (by omega)];simp
theorem bYf {lw:List Int}{op wd v:Int}(h:op≠1):aJg [] op wd v=aJg lw op wd v:=by
 unfold aJg;rw[if_neg h,if_neg h]
structure VI (lw:List Int) (nodes:List Nd) (i:Nat) (acc:List Int):Prop where
 len:acc.length=i
 wok:WOK nodes i
 fit:∀ j,j<i->vok (aKu nodes j) (w0 acc j)=true
theorem bYW {lw:List Int}{nodes:List Nd}{i:Nat}{acc args:List Int}(h:VI lw nodes i acc)(ho:aNS i args=false):VS (args.map (aKu nodes)) (args.map fun x=>w0 acc x.toNat):=by
 refine⟨by simp,fun j hj=>?_⟩
 have hj:j<args.length:=by simpa using hj
 rw[bYo hj,bYo hj]
 have:=List.any_eq_false.1 ho _ (List.getElem_mem hj)
 have hx:0<=args[j]∧args[j]<=(i:Int)-1:=by simpa using this
 refine⟨of_decide_eq_true (h.wok _ hx.1 hx.2),?_⟩
 have:=h.fit args[j].toNat (by omega)
 rwa [show ((args[j].toNat:Nat):Int)=args[j] by omega]at this
theorem cBI {nodes:List Nd}{x:Nd}{r:List Nd}{i:Nat}(h:nodes.drop i=x :: r):aKu nodes i=x.2.1:=by
 have hl:=(aAh h).1
 rw[aI8 hl]at h
 injection h with h2 _
 unfold aKu
 rw[Int.toNat_natCast,List.getElem?_eq_getElem hl,h2]
 rfl
theorem cBr {lw lv:List Int}{nodes:List Nd}{i:Nat}{acc:List Int}(hL:LV lw lv)(h:VI lw nodes i acc){x:Nd}(hc:aJQ lw nodes i x=0):vok x.2.1 (nv1 lv nodes acc x)=true:=by
 obtain⟨h1,h2,h3,h4,h5,h6⟩:=aPs hc
 unfold nv1
 by_cases c:x.1=1
 ·rw[if_pos c]
  rw[c]at h5
  have h5:(if 0<=x.2.2.2∧x.2.2.2<=(lw.length:Int)-1 then (if lw[x.2.2.2.toNat]? = some x.2.1 then (0:Int)else 25)else 6)=0:=h5
  split at h5
  ·rename_i hb
   split at h5
   ·rename_i he
    have:=hL.2 x.2.2.2.toNat (by omega)
    unfold w0 at this ⊢
    rw[he]at this
    exact this
   ·cases h5
  ·cases h5
 ·rw[if_neg c]
  exact cCZ 10 h1 c h2 (by rw[List.length_map];exact h3) ((bYf c).trans h5) h6 (bYW h h4)
theorem bYY {lw lv:List Int}{nodes:List Nd}{i:Nat}{acc:List Int}(hL:LV lw lv)(h:VI lw nodes i acc){x:Nd}{r:List Nd}(hd:nodes.drop i=x :: r)(hc:aJQ lw nodes i x=0):VI lw nodes (i+1) (acc++[nv1 lv nodes acc x]):=by
 refine⟨by simp[h.len],aQn hd (aPs hc).2.1 h.wok,fun j hj=>?_⟩
 by_cases e:j=i
 ·subst e
  rw[cBI hd,<- h.len,cB6]
  exact cBr hL h hc
 ·rw[cCC (by rw[h.len];omega)]
  exact h.fit j (by omega)
theorem cBk {lw lv:List Int}{nodes:List Nd}(hL:LV lw lv):∀ (r:List Nd) (i:Nat) (acc:List Int),i<=nodes.length->nodes.drop i=r->VI lw nodes i acc->aGZ lw nodes i r=0->VI lw nodes nodes.length (nvG lv nodes r acc)
 | [],i,acc,hi,hd,h,hc=>by
  have h1:=List.drop_eq_nil_iff.1 hd
  have e:i=nodes.length:=by omega
  unfold nvG
  rw[<- e];exact h
 | x :: r,i,acc,hi,hd,h,hc=>by
  rw[aIL,f1_0]at hc
  rw[bYz]
  exact cBk hL r (i+1) _ (aAh hd).1 (aAh hd).2.2 (bYY hL h hd hc.1) hc.2
theorem cC9 (lw:List Int)(nodes:List Nd):VI lw nodes 0 []:=⟨rfl,fun a h0 h1=>by omega,fun j hj=>by omega⟩
theorem bYk (N:Nat)(hN:10<=N)(k:List Int->Option R)(lw lv:List Int)(hL:LV lw lv)(nodes:List Nd)(hn:nodes.length<=1000000):∀ (r:List Nd) (n i:Nat) (acc:List Int),nodes.drop i=r->r.length<n->VI lw nodes i acc->aGZ lw nodes i r=0 ->
  aFC N k n nodes lv nodes nodes.length i acc=k (nvG lv nodes r acc)
 | [],n,i,acc,h,hn,hv,hc=>by
  obtain⟨n,rfl⟩:=sc hn
  rw[aFC,aAc (aAm h)];rfl
 | x :: r,n,i,acc,h,hn,hv,hc=>by
  obtain⟨n,rfl⟩:=sc hn
  obtain⟨h1,h2,h3⟩:=aAh h
  rw[aIL,f1_0]at hc
  obtain⟨q1,q2,q3,q4,q5,q6⟩:=aPs hc.1
  have hl:=hv.len
  have ih:=bYk N hN k lw lv hL nodes ‹_› r n (i+1) (acc++[nv1 lv nodes acc x]) h3 (by simp at hn;omega) (bYY hL hv h hc.1) hc.2
  rw[aFC,aAd (by omega),h2,aAe,bYz,aAl (by omega)]
  by_cases c:x.1=1
  ·rw[c]at q5
   have q5:(if 0<=x.2.2.2∧x.2.2.2<=(lw.length:Int)-1 then (if lw[x.2.2.2.toNat]? = some x.2.1 then (0:Int)else 25)else 6)=0:=q5
   have hb:0<=x.2.2.2∧x.2.2.2<=(lw.length:Int)-1:=by
    split at q5
    ·assumption
    ·cases q5
   have hlv:=hL.1
   rw[aAd c,show x.2.2.2=((x.2.2.2.toNat:Nat):Int) by omega,aLX (by omega),aAe,aBs (by omega),cond_true,<- ih]
   unfold nv1
   rw[if_pos c]
  ·rw[aAc c,bZj N hN nodes acc i (by omega) (by omega) q1 c q2 q3 q4 ((bYf c).trans q5) q6 (bYW hv q4),aBs (by omega),cond_true,<- ih]
   unfold nv1
   rw[if_neg c]
theorem bZQ (N:Nat)(hN:10<=N)(k:List Int->Option R){lw lv:List Int}(hL:LV lw lv){nodes:List Nd}(hn:nodes.length<=1000000)(hnN:nodes.length<N)(hc:aGZ lw nodes 0 nodes=0):aKm N nodes lv k=k (nvG lv nodes nodes []):=
 bYk N hN k lw lv hL nodes hn nodes N 0 [] rfl hnN (cC9 lw nodes) hc
theorem cCT {lw lv:List Int}(hL:LV lw lv){nodes:List Nd}(hc:aGZ lw nodes 0 nodes=0):(nvG lv nodes nodes []).length=nodes.length∧∀ j,j<nodes.length->vok (aKu nodes j) (w0 (nvG lv nodes nodes []) j)=true:=
 have h:=cBk hL nodes 0 [] (Nat.zero_le _) rfl (cC9 lw nodes) hc
 ⟨h.len,h.fit⟩
theorem bYL (N:Nat)(k0:Int->Int->List Int->Option R)(k1:List Int->Option R)(lw lv:List Int)(hw:lw.all wOK=true)(hL:LV lw lv)(hl:lw.length<=1000000):∀ (r:List Int) (n i:Nat),lv.drop i=r->r.length<n->aCT N k0 k1 n lv lv.length i lw=k1 lw
 | [],n,i,h,hn=>by
  obtain⟨n,rfl⟩:=sc hn
  rw[aCT,aAc (aAm h)]
 | x :: r,n,i,h,hn=>by
  obtain⟨n,rfl⟩:=sc hn
  obtain⟨h1,h2,h3⟩:=aAh h
  have hlv:=hL.1
  have hi:i<lw.length:=by omega
  have hwi:=of_decide_eq_true (List.all_eq_true.1 hw _ (List.getElem_mem hi))
  have hx:w0 lv i=x:=by
   rw[aI8 h1]at h
   injection h with h _
   rw[cAt h1,h]
  have hv:=hL.2 i hi
  rw[hx,cAt hi]at hv
  rw[aCT,aAd (by omega),h2,aAe]
  unfold aHx
  rw[aHb hi,aAe,bN7 N x _ hwi.1 hwi.2,hv,aCt,if_pos rfl]
  try dsimp only
  rw[aAc (by simp),aAl (by omega)]
  exact bYL N k0 k1 lw lv hw hL hl r n (i+1) h3 (by simp at hn;omega)
theorem aOj {lw:List Int}{nodes:List Nd}(h:aQR lw nodes=0):lw.length<=40∧lw.all wOK=true∧nodes.length<=400∧aGZ lw nodes 0 nodes=0:=by
 unfold aQR at h
 split at h
 ·cases h
 ·split at h
  ·split at h
   ·cases h
   ·exact⟨by omega,by assumption,by omega,h⟩
  ·cases h
theorem bYR (N:Nat)(hN:1000<=N){lw lv:List Int}{nodes:List Nd}(hA:∀ x,x∈nodes->x.2.2.1.length<=1000000∧x.2.2.1.length<N)(hc:aQR lw nodes=0)(hL:LV lw lv)(k:List Int->Int->Option R) :
  aIv N lw nodes lv k=k (nvG lv nodes nodes []) 0:=by
 obtain⟨c1,c2,c3,c4⟩:=aOj hc
 have hlv:=hL.1
 unfold aIv aGa
 obtain⟨j,e⟩:=aMH N hN lw nodes hA (fun y1 y2=>(fun y1=>(aAy N (decide (((lv.length:Nat):Int)=((lw.length:Nat):Int))) 10 (fun y2=>(aC8 N [y1,y2] (fun y3=>(bif decide (y3≠0)then (k [] y3)else (aEW N lv lw (fun y4 y5 y6=>(bif decide (y5≠0)then (k [] y5)else (aKm N nodes lv (fun y7=>(k y7 0)))))))))))) y2)
 rw[e,hc]
 try dsimp only
 rw[aCt,decide_eq_true (by omega),if_pos rfl,aUx N (by omega),aGq,aAc (by simp)]
 unfold aEW
 have:=bYL N (fun y4 y5 y6=>(bif decide (y5≠0)then (k [] y5)else (aKm N nodes lv (fun y7=>(k y7 0))))) (fun z7=>aKm N nodes lv (fun y7=>k y7 0)) lw lv c2 hL (by omega) lv N 0 rfl (by omega)
 rw[Int.natCast_zero]at this
 refine Eq.trans ?_ (this.trans (bZQ N (by omega) _ hL (by omega) (by omega) c4))
 rfl
abbrev aAp:=ByteArray×Int
abbrev aAP:=ByteArray×Int×Int×Int×Int
abbrev WrT:=Int×Int×Int
abbrev aA1:=ByteArray×Int×List (Int×Int×Int)
abbrev aCE:=Int×List Int
abbrev KD (X:Type):=ByteArray->List aAp->List aAP->List Nd->List aA1->List aAp->List aCE->X
def SZ (N:Nat)(s:ByteArray):Prop:=s.size<N∧s.size<=9223372036854775807
def aNm (nodes:List Nd)(n:Int):Bool:=decide (0<=n∧n<=(nodes.length:Int)-1)
def aFw (nodes:List Nd)(n:Int):Bool:=aNm nodes n&&decide (aKu nodes n=1)
def ewd (els:List aAP)(e:Int):Int:=((els[e.toNat]?).map (·.2.2.1)).getD 0
def aKd (els:List aAP)(nodes:List Nd)(x:WrT):Int:=f1 (if 0<=x.1∧x.1<=(els.length:Int)-1 then 0 else 6) (f1 (if (aFw nodes x.2.1&&aNm nodes x.2.2)=true then 0 else 9) (if aKu nodes x.2.2=ewd els x.1 then 0 else 25))
def aD3 (els:List aAP)(nodes:List Nd):List WrT->Int
 | []=>0
 | x :: r=>f1 (aKd els nodes x) (aD3 els nodes r)
def aRj (S:List ByteArray)(els:List aAP)(nodes:List Nd)(x:aA1):Int:=f1 (f1 (aNU S x.1) (f1 (if aFw nodes x.2.1=true then 0 else 9) (if x.2.2.length<=16 then 0 else 8))) (aD3 els nodes x.2.2)
def aFP (els:List aAP)(nodes:List Nd):List ByteArray->List aA1->Int
 | _,[]=>0
 | S,x :: r=>f1 (aRj S els nodes x) (aFP els nodes (x.1 :: S) r)
def bIJ (nodes:List Nd)(S:List ByteArray)(x:aAp):Int:=f1 (aNU S x.1) (if aNm nodes x.2=true then 0 else 9)
def aHW (nodes:List Nd):List ByteArray->List aAp->Int
 | _,[]=>0
 | S,x :: r=>f1 (bIJ nodes S x) (aHW nodes (x.1 :: S) r)
def aRg (S:List ByteArray)(x:aAp):Int:=f1 (aNU S x.1) (if wOK x.2=true then 0 else 2)
def aFr:List ByteArray->List aAp->Int
 | _,[]=>0
 | S,x :: r=>f1 (aRg S x) (aFr (x.1 :: S) r)
def aLo:List ByteArray->List aAp->List ByteArray
 | S,[]=>S
 | S,x :: r=>aLo (x.1 :: S) r
def aPr (S:List ByteArray)(x:aAP):Int:=f1 (f1 (aNU S x.1) (f1 (if 0<=x.2.1∧x.2.1<=1 then 0 else 15) (if wOK x.2.2.1=true then 0 else 2))) (if vok x.2.2.1 x.2.2.2.1=true∧(0<=x.2.2.2.2∧x.2.2.2.2<=3)then 0 else 2)
def aFn:List ByteArray->List aAP->Int
 | _,[]=>0
 | S,x :: r=>f1 (aPr S x) (aFn (x.1 :: S) r)
def aHs (nr:Int)(l:List Int):Nat->List Int->Int
 | _,[]=>0
 | i,x :: r=>f1 (f1 (if 0<=x∧x<=nr-1 then 0 else 6) (if (l.take i).contains x=true then 23 else 0)) (aHs nr l (i+1) r)
def aWx (nr:Int)(x:aCE):Int:=f1 (if 0<=x.1∧x.1<=3 then 0 else 15) (f1 (if 1<=x.2.length∧x.2.length<=16 then 0 else 10) (aHs nr x.2 0 x.2))
def aG7 (nr:Int):List aCE->Int
 | []=>0
 | x :: r=>f1 (aWx nr x) (aG7 nr r)
def aIV (ins:List aAp)(els:List aAP):List Int:=ins.map (·.2)++els.map (·.2.2.1)
def le8 (n m:Nat):Int:=if n<=m then 0 else 8
def aHq (nm:ByteArray)(ins:List aAp)(els:List aAP)(nodes:List Nd)(rules:List aA1)(outs:List aAp)(attrs:List aCE):Int:=
 f1 (f1 (if nmB nm=true then 0 else 4) (le8 ins.length 12)) (f1 (aFr [] ins) (f1 (le8 (ins.length+els.length) 40) (f1 (aFn (aLo [] ins) els) (f1 (aQR (aIV ins els) nodes) (f1 (le8 rules.length 16) (f1 (aFP els nodes [] rules) (f1 (le8 outs.length 12) (f1 (aHW nodes [] outs) (f1 (le8 attrs.length 16) (aG7 rules.length attrs))))))))))
theorem bAl (N:Nat)(n:Int)(k:Bool->Option R):aFc N n k=k (wOK n):=by unfold aFc wOK;rw[aG2]
theorem aNL (N:Nat)(nm:ByteArray)(ins:List aAp)(els:List aAP)(nodes:List Nd)(rules:List aA1)(outs:List aAp)(attrs:List aCE)(hn:nodes.length<=1000000)(n:Int)(k:Bool->Option R):aEQ N nm ins els nodes rules outs attrs n k=k (aNm nodes n):=by
 unfold aEQ aNm;rw[aDt (by omega) (by omega),aG2]
theorem aM8 {nodes:List Nd}{n:Int}(h:aNm nodes n=true):∃ x,at? nodes n=some x∧x.2.1=aKu nodes n:=by
 have h:=of_decide_eq_true h
 obtain⟨a,rfl⟩:∃ a:Nat,n=a:=⟨n.toNat,by omega⟩
 have ha:a<nodes.length:=by omega
 refine⟨_,aHb ha,?_⟩
 unfold aKu
 rw[Int.toNat_natCast,List.getElem?_eq_getElem ha];rfl
theorem aSV (N:Nat)(nm:ByteArray)(ins:List aAp)(els:List aAP)(nodes:List Nd)(rules:List aA1)(outs:List aAp)(attrs:List aCE)(hn:nodes.length<=1000000)(n:Int)(k:Bool->Option R):aDv N nm ins els nodes rules outs attrs n k=k (aFw nodes n):=by
 unfold aDv aFw
 rw[aNL N nm ins els nodes rules outs attrs hn]
 cases h:aNm nodes n
 ·rfl
 ·obtain⟨x,h1,h2⟩:=aM8 h
  rw[cond_true,h1,aAe,h2];rfl
theorem bIN (N:Nat)(hN:10<=N)(nm:ByteArray)(ins:List aAp)(els:List aAP)(nodes:List Nd)(rules:List aA1)(outs:List aAp)(attrs:List aCE)(hn:nodes.length<=1000000)(he:els.length<=1000000)(e w v:Int)(k:Int->Option R) :
  aFJ N nm ins els nodes rules outs attrs e w v k=k (aKd els nodes (e,w,v)):=by
 unfold aFJ aKd
 rw[aDt (by omega) (by omega),aG2,aCK,aSV N nm ins els nodes rules outs attrs hn]
 by_cases c0:0<=e∧e<=(els.length:Int)-1
 ·rw[decide_eq_true c0,if_pos rfl,if_pos c0]
  cases c1:aFw nodes w
  ·rw[cond_false,aCK,aGL N hN];rfl
  ·rw[cond_true,aNL N nm ins els nodes rules outs attrs hn,aCK]
   cases c2:aNm nodes v
   ·rw[aGL N hN];rfl
   ·rw[aGL N hN]
    obtain⟨x,h1,h2⟩:=aM8 c2
    obtain⟨a,rfl⟩:∃ a:Nat,e=a:=⟨e.toNat,by omega⟩
    have ha:a<els.length:=by omega
    have:ewd els (a:Int)=els[a].2.2.1:=by
     unfold ewd
     rw[Int.toNat_natCast,List.getElem?_eq_getElem ha];rfl
    rw[if_pos rfl,aGq,aAc (by simp),h1,aAe,aHb ha,aAe,aCK,h2,this]
    show _=k (if aKu nodes v=els[a].2.2.1 then 0 else 25)
    by_cases c3:aKu nodes v=els[a].2.2.1 <;> simp[c3]
 ·rw[decide_eq_false c0,if_neg c0]
  cases c1:aFw nodes w
  ·rw[cond_false,aCK,aGL N hN];rfl
  ·rw[cond_true,aNL N nm ins els nodes rules outs attrs hn,aCK,aGL N hN];rfl
theorem aLB (N:Nat)(hN:10<=N)(k0:Int->Int->KD (Option R))(k1:KD (Option R))(nm:ByteArray)(ins:List aAp)(els:List aAP)(nodes:List Nd)(rules:List aA1)(outs:List aAp)(attrs:List aCE)(hn:nodes.length<=1000000)(he:els.length<=1000000)(l:List WrT)(hl:l.length<=1000000):∀ (r:List WrT) (n i:Nat),l.drop i=r->r.length<n ->
  ∃ j:Int,aAs N k0 k1 n l l.length i nm ins els nodes rules outs attrs=if aD3 els nodes r=0 then k1 nm ins els nodes rules outs attrs else k0 j (aD3 els nodes r) nm ins els nodes rules outs attrs
 | [],n,i,h,hn=>by
  obtain⟨n,rfl⟩:=sc hn
  exact⟨0,by rw[aAs,aAc (aAm h)];rfl⟩
 | x :: r,n,i,h,hr=>by
  obtain⟨n,rfl⟩:=sc hr
  obtain⟨h1,h2,h3⟩:=aAh h
  obtain⟨j,ih⟩:=aLB N hN k0 k1 nm ins els nodes rules outs attrs hn he l hl r n (i+1) h3 (by simp at hr;omega)
  rw[aAs,aAd (by omega),h2,aAe]
  unfold aC7
  rw[bIN N hN nm ins els nodes rules outs attrs hn he,show aD3 els nodes (x :: r)=f1 (aKd els nodes x) (aD3 els nodes r)from rfl]
  dsimp only
  by_cases c:aKd els nodes x=0
  ·refine⟨j,?_⟩
   have c':aKd els nodes (x.1,x.2.1,x.2.2)=0:=c
   rw[aAc (by simp[c']),aAl (by omega),ih,c,aGq]
  ·refine⟨i,?_⟩
   have c':aKd els nodes (x.1,x.2.1,x.2.2)≠0:=c
   rw[aAd c',aKn c,if_neg c]
theorem bPs (N:Nat)(hN:1000<=N)(nm:ByteArray)(ins:List aAp)(els:List aAP)(nodes:List Nd)(rules:List aA1)(outs:List aAp)(attrs:List aCE)(hn:nodes.length<=1000000)(he:els.length<=1000000)(i:Int)(x:aA1)(hx:SZ N x.1)(hw:x.2.2.length<=1000000)(hwN:x.2.2.length<N)(c:Nat){m:NM}{S:List ByteArray}(hm:KN m S)(k:Int->Nat->NM->KD (Option R)) :
  aCN N i x.1 x.2.1 x.2.2 c m nm ins els nodes rules outs attrs k=k (aRj S els nodes x) (aGp .s x.1 c m) (mpS x.1 c m) nm ins els nodes rules outs attrs:=by
 unfold aCN aRj
 rw[aOm N (by omega) x.1 c hx.1 hx.2 hm,aSV N nm ins els nodes rules outs attrs hn,aCK,aCK,aM0 N (by omega)]
 unfold aBI
 obtain⟨j,e⟩:=aLB N (by omega) (fun y8 y9 y10 y11 y12 y13 y14 y15 y16=>aAY N [f1 (aNU S x.1) (f1 (if aFw nodes x.2.1=true then 0 else 9) (if decide (((x.2.2.length:Nat):Int)<=16)=true then 0 else 8)),y9] fun y17=>k y17 (aGp .s x.1 c m) (mpS x.1 c m) y10 y11 y12 y13 y14 y15 y16)
  (fun z19 z20 z21 z22 z23 z24 z25=>aAY N [f1 (aNU S x.1) (f1 (if aFw nodes x.2.1=true then 0 else 9) (if decide (((x.2.2.length:Nat):Int)<=16)=true then 0 else 8)),0] fun y17=>k y17 (aGp .s x.1 c m) (mpS x.1 c m) z19 z20 z21 z22 z23 z24 z25)
  nm ins els nodes rules outs attrs hn he x.2.2 hw x.2.2 N 0 rfl hwN
 rw[Int.natCast_zero]at e
 refine e.trans ?_
 have q:(if decide (((x.2.2.length:Nat):Int)<=16)=true then (0:Int)else 8)=if x.2.2.length<=16 then 0 else 8:=by
  by_cases c:x.2.2.length<=16
  · rw[if_pos c,decide_eq_true (by omega)];rfl
  · rw[if_neg c,decide_eq_false (by omega)];rfl
 rw[q]
 by_cases c:aD3 els nodes x.2.2=0
 ·rw[if_pos c,aGL N (by omega),c]
 ·rw[if_neg c,aGL N (by omega)]
theorem aMb (N:Nat)(hN:1000<=N)(k0:Int->Int->Nat->NM->KD (Option R))(k1:Nat->NM->KD (Option R))(nm:ByteArray)(ins:List aAp)(els:List aAP)(nodes:List Nd)(rules:List aA1)(outs:List aAp)(attrs:List aCE)(hn:nodes.length<=1000000)(he:els.length<=1000000)(l:List aA1)(hl:l.length<=1000000)
  (hs:∀ x,x∈l->SZ N x.1∧x.2.2.length<=1000000∧x.2.2.length<N):∀ (r:List aA1) (n i c:Nat) (m:NM) (S:List ByteArray),l.drop i=r->r.length<n->KN m S ->
  ∃ (j:Int) (c':Nat) (m':NM),aAA N k0 k1 n l l.length i c m nm ins els nodes rules outs attrs=if aFP els nodes S r=0 then k1 c' m' nm ins els nodes rules outs attrs else k0 j (aFP els nodes S r) c' m' nm ins els nodes rules outs attrs
 | [],n,i,c,m,S,h,hn,hm=>by
  obtain⟨n,rfl⟩:=sc hn
  exact⟨0,c,m,by rw[aAA,aAc (aAm h)];rfl⟩
 | x :: r,n,i,c,m,S,h,hr,hm=>by
  obtain⟨n,rfl⟩:=sc hr
  obtain⟨h1,h2,h3⟩:=aAh h
  have hx:=hs x (List.mem_of_mem_drop (h▸List.mem_cons_self:x∈l.drop i))
  obtain⟨j,c',m',ih⟩:=aMb N hN k0 k1 nm ins els nodes rules outs attrs hn he l hl hs r n (i+1) (aGp .s x.1 c m) (mpS x.1 c m) (x.1 :: S) h3 (by simp at hr;omega) (aOa hm x.1 c)
  rw[aAA,aAd (by omega),h2,aAe,bPs N hN nm ins els nodes rules outs attrs hn he i x hx.1 hx.2.1 hx.2.2 c hm,show aFP els nodes S (x :: r)=f1 (aRj S els nodes x) (aFP els nodes (x.1 :: S) r)from rfl]
  by_cases q:aRj S els nodes x=0
  · refine⟨j,c',m',?_⟩
    rw[aAc (by simp[q]),aAl (by omega),ih,q,aGq]
  · refine⟨i,aGp .s x.1 c m,mpS x.1 c m,?_⟩
    rw[aAd q,aKn q,if_neg q]
theorem aO3 (N:Nat)(hN:1000<=N)(k0:Int->Int->Nat->NM->KD (Option R))(k1:Nat->NM->KD (Option R))(nm:ByteArray)(ins:List aAp)(els:List aAP)(nodes:List Nd)(rules:List aA1)(outs:List aAp)(attrs:List aCE)(hn:nodes.length<=1000000)(l:List aAp)(hl:l.length<=1000000)
  (hs:∀ x,x∈l->SZ N x.1):∀ (r:List aAp) (n i c:Nat) (m:NM) (S:List ByteArray),l.drop i=r->r.length<n->KN m S ->
  ∃ (j:Int) (c':Nat) (m':NM),aAw N k0 k1 n l l.length i c m nm ins els nodes rules outs attrs=if aHW nodes S r=0 then k1 c' m' nm ins els nodes rules outs attrs else k0 j (aHW nodes S r) c' m' nm ins els nodes rules outs attrs
 | [],n,i,c,m,S,h,hn,hm=>by
  obtain⟨n,rfl⟩:=sc hn
  exact⟨0,c,m,by rw[aAw,aAc (aAm h)];rfl⟩
 | x :: r,n,i,c,m,S,h,hr,hm=>by
  obtain⟨n,rfl⟩:=sc hr
  obtain⟨h1,h2,h3⟩:=aAh h
  have hx:=hs x (List.mem_of_mem_drop (h▸List.mem_cons_self:x∈l.drop i))
  obtain⟨j,c',m',ih⟩:=aO3 N hN k0 k1 nm ins els nodes rules outs attrs hn l hl hs r n (i+1) (aGp .s x.1 c m) (mpS x.1 c m) (x.1 :: S) h3 (by simp at hr;omega) (aOa hm x.1 c)
  rw[aAw,aAd (by omega),h2,aAe]
  unfold aDR
  rw[aOm N (by omega) x.1 c hx.1 hx.2 hm,aNL N nm ins els nodes rules outs attrs hn,aCK,aGL N (by omega),show aHW nodes S (x :: r)=f1 (bIJ nodes S x) (aHW nodes (x.1 :: S) r)from rfl]
  show ∃ j c' m',(bif decide (bIJ nodes S x≠0)then _ else _)=_
  by_cases q:bIJ nodes S x=0
  · refine⟨j,c',m',?_⟩
    rw[aAc (by simp[q]),aAl (by omega),ih,q,aGq]
  · refine⟨i,aGp .s x.1 c m,mpS x.1 c m,?_⟩
    rw[aAd q,aKn q,if_neg q];rfl
theorem aMa (N:Nat)(hN:1000<=N)(k0:Int->Int->Nat->NM->Nat->NM->Option R)(k1:Nat->NM->Nat->NM->Option R)(l:List aAp)(hl:l.length<=1000000)(hs:∀ x,x∈l->SZ N x.1):∀ (r:List aAp) (n i c c2:Nat) (m m2:NM) (S:List ByteArray),l.drop i=r->r.length<n->KN m S->KN m2 S ->
  ∃ (j:Int) (c' c2':Nat) (m' m2':NM),(aFr S r=0->KN m' (aLo S r))∧aAB N k0 k1 n l l.length i c m c2 m2=if aFr S r=0 then k1 c' m' c2' m2' else k0 j (aFr S r) c' m' c2' m2'
 | [],n,i,c,c2,m,m2,S,h,hn,hm,hm2=>by
  obtain⟨n,rfl⟩:=sc hn
  exact⟨0,c,c2,m,m2,fun _=>hm,by rw[aAB,aAc (aAm h)];rfl⟩
 | x :: r,n,i,c,c2,m,m2,S,h,hr,hm,hm2=>by
  obtain⟨n,rfl⟩:=sc hr
  obtain⟨h1,h2,h3⟩:=aAh h
  have hx:=hs x (List.mem_of_mem_drop (h▸List.mem_cons_self:x∈l.drop i))
  obtain⟨j,c',c2',m',m2',hk,ih⟩:=aMa N hN k0 k1 l hl hs r n (i+1) (aGp .s x.1 c m) (aGp .s x.1 c2 m2) (mpS x.1 c m) (mpS x.1 c2 m2) (x.1 :: S) h3 (by simp at hr;omega) (aOa hm x.1 c) (aOa hm2 x.1 c2)
  rw[aAB,aAd (by omega),h2,aAe]
  unfold aDS
  rw[aOm N (by omega) x.1 c hx.1 hx.2 hm,aOm N (by omega) x.1 c2 hx.1 hx.2 hm2,bAl,aCK,aM0 N (by omega),show aFr S (x :: r)=f1 (aRg S x) (aFr (x.1 :: S) r)from rfl]
  have e:f1 (aNU S x.1) (f1 (aNU S x.1) (if wOK x.2=true then 0 else 2))=aRg S x:=by
   unfold aRg f1;split <;> simp_all
  rw[e]
  try dsimp only
  by_cases q:aRg S x=0
  ·refine⟨j,c',c2',m',m2',fun hq=>hk (by rwa [q,aGq]at hq),?_⟩
   rw[aAc (by simp[q]),aAl (by omega),ih,q,aGq]
  ·refine⟨i,aGp .s x.1 c m,aGp .s x.1 c2 m2,mpS x.1 c m,mpS x.1 c2 m2,fun hq=>absurd (f1_0.1 hq).1 q,?_⟩
   rw[aAd q,aKn q,if_neg q]
theorem bM5 (N:Nat)(v w:Int)(h0:1<=w)(h:w<=16)(k:Bool->Option R):aF4 N v w k=k (vok w v):=by
 have:=aQ8 w;have:=bDz h
 unfold aF4
 rw[aAd (by omega),aAc (by omega),aVr (by omega) (by omega),aDt (by omega) (by omega),aG2];rfl
theorem bNV (N:Nat)(hN:1000<=N)(i:Int)(x:aAP)(hx:SZ N x.1)(c:Nat){m:NM}{S:List ByteArray}(hm:KN m S)(k:Int->Nat->NM->Option R):aCO N i x.1 x.2.1 x.2.2.1 x.2.2.2.1 x.2.2.2.2 c m k=k (aPr S x) (aGp .s x.1 c m) (mpS x.1 c m):=by
 unfold aCO aPr
 rw[aOm N (by omega) x.1 c hx.1 hx.2 hm,aG2,aCK,bAl,aCK,aM0 N (by omega)]
 have e:(if decide (0<=x.2.1∧x.2.1<=1)=true then (0:Int)else 15)=if 0<=x.2.1∧x.2.1<=1 then 0 else 15:=by
  by_cases q:0<=x.2.1∧x.2.1<=1
  ·rw[decide_eq_true q,if_pos rfl,if_pos q]
  ·rw[decide_eq_false q,if_neg q];rfl
 rw[e]
 by_cases q:f1 (aNU S x.1) (f1 (if 0<=x.2.1∧x.2.1<=1 then 0 else 15) (if wOK x.2.2.1=true then 0 else 2))=0
 ·rw[q,aAc (by simp),aGq]
  have hw:wOK x.2.2.1=true:=by
   simp only[f1_0]at q
   have:=q.2.2
   split at this
   ·assumption
   ·cases this
  have hb:=of_decide_eq_true hw
  rw[bM5 N _ _ hb.1 hb.2]
  cases hv:vok x.2.2.1 x.2.2.2.1
  ·rw[cond_false,aCK,if_neg (by simp),if_neg (by simp)]
  ·rw[cond_true,aG2,aCK]
   by_cases q2:0<=x.2.2.2.2∧x.2.2.2.2<=3
   ·rw[decide_eq_true q2,if_pos rfl,if_pos ⟨rfl,q2⟩]
   ·rw[decide_eq_false q2,if_neg (by simp),if_neg (fun h=>q2 h.2)]
 ·rw[aAd q,aKn q]
theorem aMu (N:Nat)(hN:1000<=N)(k0:Int->Int->Nat->NM->Option R)(k1:Nat->NM->Option R)(l:List aAP)(hl:l.length<=1000000)(hs:∀ x,x∈l->SZ N x.1):∀ (r:List aAP) (n i c:Nat) (m:NM) (S:List ByteArray),l.drop i=r->r.length<n->KN m S ->
  ∃ (j:Int) (c':Nat) (m':NM),aAt N k0 k1 n l l.length i c m=if aFn S r=0 then k1 c' m' else k0 j (aFn S r) c' m'
 | [],n,i,c,m,S,h,hn,hm=>by
  obtain⟨n,rfl⟩:=sc hn
  exact⟨0,c,m,by rw[aAt,aAc (aAm h)];rfl⟩
 | x :: r,n,i,c,m,S,h,hr,hm=>by
  obtain⟨n,rfl⟩:=sc hr
  obtain⟨h1,h2,h3⟩:=aAh h
  have hx:=hs x (List.mem_of_mem_drop (h▸List.mem_cons_self:x∈l.drop i))
  obtain⟨j,c',m',ih⟩:=aMu N hN k0 k1 l hl hs r n (i+1) (aGp .s x.1 c m) (mpS x.1 c m) (x.1 :: S) h3 (by simp at hr;omega) (aOa hm x.1 c)
  rw[aAt,aAd (by omega),h2,aAe,bNV N hN i x hx c hm,show aFn S (x :: r)=f1 (aPr S x) (aFn (x.1 :: S) r)from rfl]
  by_cases q:aPr S x=0
  ·refine⟨j,c',m',?_⟩
   rw[aAc (by simp[q]),aAl (by omega),ih,q,aGq]
  ·refine⟨i,aGp .s x.1 c m,mpS x.1 c m,?_⟩
   rw[aAd q,aKn q,if_neg q]
theorem aJt (N:Nat)(k0:Int->Option R)(k1:Option R)(l:List Int)(hl:l.length<=1000000)(v:Int):∀ (r:List Int) (n i:Nat),l.drop i=r->r.length<n ->
  ∃ j:Nat,aBy N k0 k1 n l v l.length i=if r.contains v=true then k0 j else k1
 | [],n,i,h,hn=>by
  obtain⟨n,rfl⟩:=sc hn
  exact⟨0,by rw[aBy,aAc (aAm h)];rfl⟩
 | x :: r,n,i,h,hn=>by
  obtain⟨n,rfl⟩:=sc hn
  obtain⟨h1,h2,h3⟩:=aAh h
  obtain⟨j,ih⟩:=aJt N k0 k1 l hl v r n (i+1) h3 (by simp at hn;omega)
  rw[aBy,aAd (by omega),h2,aAe,List.contains_cons]
  by_cases q:v=x
  ·exact⟨i,by rw[aAd q,if_pos (by simp[q])]⟩
  ·refine⟨j,?_⟩
   rw[aAc q,aAl (by omega),ih]
   simp[q]
theorem aPN (N:Nat)(l:List Int)(hl:l.length<=1000000)(hN:l.length<N)(v:Int)(k:Bool->Option R):aB7 N l v k=k (l.contains v):=by
 unfold aB7 aEz
 obtain⟨j,this⟩:=aJt N (fun y1=>k (decide (0<=y1))) (k (decide ((0:Int)<=-1))) l hl v l N 0 rfl hN
 rw[Int.natCast_zero]at this
 rw[this]
 cases l.contains v
 ·rfl
 ·rw[if_pos rfl,decide_eq_true (by omega)]
theorem aMq (N:Nat)(hN:1000<=N)(k0:Int->Int->KD (Int->List Int->Option R))(k1:KD (Int->List Int->Option R))(nm:ByteArray)(ins:List aAp)(els:List aAP)(nodes:List Nd)(rules:List aA1)(outs:List aAp)(attrs:List aCE)(hr:rules.length<=1000000)(kd:Int)(l:List Int)(hl:l.length<=1000000)(hlN:l.length<N):∀ (r:List Int) (n i:Nat),l.drop i=r->r.length<n ->
  ∃ j:Int,aAu N k0 k1 n l l.length i nm ins els nodes rules outs attrs kd l=if aHs rules.length l i r=0 then k1 nm ins els nodes rules outs attrs kd l else k0 j (aHs rules.length l i r) nm ins els nodes rules outs attrs kd l
 | [],n,i,h,hn=>by
  obtain⟨n,rfl⟩:=sc hn
  exact⟨0,by rw[aAu,aAc (aAm h)];rfl⟩
 | x :: r,n,i,h,hn=>by
  obtain⟨n,rfl⟩:=sc hn
  obtain⟨h1,h2,h3⟩:=aAh h
  obtain⟨j,ih⟩:=aMq N hN k0 k1 nm ins els nodes rules outs attrs hr kd l hl hlN r n (i+1) h3 (by simp at hn;omega)
  have e:(if decide (0<=x∧x<=(rules.length:Int)-1)=true then (0:Int)else 6)=if 0<=x∧x<=(rules.length:Int)-1 then 0 else 6:=by
   by_cases q:0<=x∧x<=(rules.length:Int)-1
   ·rw[decide_eq_true q,if_pos rfl,if_pos q]
   ·rw[decide_eq_false q,if_neg q];rfl
  have e2:(if (!(l.take i).contains x)=true then (0:Int)else 23)=if (l.take i).contains x=true then 23 else 0:=by cases (l.take i).contains x <;> rfl
  rw[aAu,aAd (by omega),h2,aAe]
  unfold aC3
  rw[aDt (by omega) (by omega),aG2,aCK,e,bBp (by omega),cond_true,Int.toNat_natCast,List.drop_zero,aPN N _ (by rw[List.length_take];omega) (by rw[List.length_take];omega),aCK,e2,aGL N (by omega),
   show aHs rules.length l i (x :: r)=f1 (f1 (if 0<=x∧x<=(rules.length:Int)-1 then 0 else 6) (if (l.take i).contains x=true then 23 else 0)) (aHs rules.length l (i+1) r)from rfl]
  generalize f1 (if 0<=x∧x<=(rules.length:Int)-1 then (0:Int)else 6) (if (l.take i).contains x=true then 23 else 0)=z
  try dsimp only
  by_cases q:z=0
  ·refine⟨j,?_⟩
   rw[aAc (by simp[q]),aAl (by omega),ih,q,aGq]
  ·refine⟨i,?_⟩
   rw[aAd q,aKn q,if_neg q]
theorem bO2 (N:Nat)(hN:1000<=N)(nm:ByteArray)(ins:List aAp)(els:List aAP)(nodes:List Nd)(rules:List aA1)(outs:List aAp)(attrs:List aCE)(hr:rules.length<=1000000)(i:Int)(x:aCE)(hl:x.2.length<=1000000)(hlN:x.2.length<N)(k:Int->KD (Option R)) :
  aCF N i x.1 x.2 nm ins els nodes rules outs attrs k=k (aWx rules.length x) nm ins els nodes rules outs attrs:=by
 unfold aCF aBS aWx
 let K:Int->ByteArray->List aAp->List aAP->List Nd->List aA1->List aAp->List aCE->Int->List Int->Option R:=fun y2 y3 y4 y5 y6 y7 y8 y9 y10 y11=>(aAF N y10 0 3 (fun y12=>(aAj N y12 15 (fun y13=>(aAF N ((y11.length:Nat):Int) 1 16 (fun y14=>(aAj N y14 10 (fun y15=>(aAY N [y13,y15,y2] (fun y16=>(k y16 y3 y4 y5 y6 y7 y8 y9)))))))))))
 obtain⟨j,e⟩:=aMq N hN (fun y1=>K) (K 0) nm ins els nodes rules outs attrs hr x.1 x.2 hl hlN x.2 N 0 rfl hlN
 rw[Int.natCast_zero]at e
 refine e.trans ?_
 have hK:∀ z,K z nm ins els nodes rules outs attrs x.1 x.2=k (f1 (if 0<=x.1∧x.1<=3 then 0 else 15) (f1 (if 1<=x.2.length∧x.2.length<=16 then 0 else 10) z)) nm ins els nodes rules outs attrs:=by
  intro z
  show aAF N x.1 0 3 _=_
  rw[aG2,aCK,aG2,aCK,aM0 N (by omega)]
  have e1:(if decide (0<=x.1∧x.1<=3)=true then (0:Int)else 15)=if 0<=x.1∧x.1<=3 then 0 else 15:=by
   by_cases q:0<=x.1∧x.1<=3
   ·rw[decide_eq_true q,if_pos rfl,if_pos q]
   ·rw[decide_eq_false q,if_neg q];rfl
  have e2:(if decide (1<=((x.2.length:Nat):Int)∧((x.2.length:Nat):Int)<=16)=true then (0:Int)else 10)=if 1<=x.2.length∧x.2.length<=16 then 0 else 10:=by
   by_cases q:1<=x.2.length∧x.2.length<=16
   ·rw[decide_eq_true (by omega),if_pos rfl,if_pos q]
   ·rw[decide_eq_false (by omega),if_neg q];rfl
  rw[e1,e2]
 by_cases c:aHs rules.length x.2 0 x.2=0
 ·rw[if_pos c,hK,c]
 ·rw[if_neg c,hK]
theorem aMM (N:Nat)(hN:1000<=N)(k0:Int->Int->KD (Option R))(k1:KD (Option R))(nm:ByteArray)(ins:List aAp)(els:List aAP)(nodes:List Nd)(rules:List aA1)(outs:List aAp)(attrs:List aCE)(hr:rules.length<=1000000)(l:List aCE)(hl:l.length<=1000000)(hs:∀ x,x∈l->x.2.length<=1000000∧x.2.length<N):∀ (r:List aCE) (n i:Nat),l.drop i=r->r.length<n ->
  ∃ j:Int,aAq N k0 k1 n l l.length i nm ins els nodes rules outs attrs=if aG7 rules.length r=0 then k1 nm ins els nodes rules outs attrs else k0 j (aG7 rules.length r) nm ins els nodes rules outs attrs
 | [],n,i,h,hn=>by
  obtain⟨n,rfl⟩:=sc hn
  exact⟨0,by rw[aAq,aAc (aAm h)];rfl⟩
 | x :: r,n,i,h,hn=>by
  obtain⟨n,rfl⟩:=sc hn
  obtain⟨h1,h2,h3⟩:=aAh h
  have hx:=hs x (List.mem_of_mem_drop (h▸List.mem_cons_self:x∈l.drop i))
  obtain⟨j,ih⟩:=aMM N hN k0 k1 nm ins els nodes rules outs attrs hr l hl hs r n (i+1) h3 (by simp at hn;omega)
  rw[aAq,aAd (by omega),h2,aAe,bO2 N hN nm ins els nodes rules outs attrs hr i x hx.1 hx.2,show aG7 rules.length (x :: r)=f1 (aWx rules.length x) (aG7 rules.length r)from rfl]
  by_cases q:aWx rules.length x=0
  ·refine⟨j,?_⟩
   rw[aAc (by simp[q]),aAl (by omega),ih,q,aGq]
  ·refine⟨i,?_⟩
   rw[aAd q,aKn q,if_neg q]
structure DH (N:Nat) (nm:ByteArray) (ins:List aAp) (els:List aAP) (nodes:List Nd) (rules:List aA1) (outs:List aAp) (attrs:List aCE):Prop where
 nm:SZ N nm
 ins:ins.length<=1000000∧ins.length<N∧∀ x,x∈ins->SZ N x.1
 els:els.length<=1000000∧els.length<N∧∀ x,x∈els->SZ N x.1
 nodes:nodes.length<=1000000∧∀ x,x∈nodes->x.2.2.1.length<=1000000∧x.2.2.1.length<N
 rules:rules.length<=1000000∧rules.length<N∧∀ x,x∈rules->SZ N x.1∧x.2.2.length<=1000000∧x.2.2.length<N
 outs:outs.length<=1000000∧outs.length<N∧∀ x,x∈outs->SZ N x.1
 attrs:attrs.length<=1000000∧attrs.length<N∧∀ x,x∈attrs->x.2.length<=1000000∧x.2.length<N
theorem aVk (N:Nat)(k0:KD (List Int->Option R))(nm:ByteArray)(ins:List aAp)(els:List aAP)(nodes:List Nd)(rules:List aA1)(outs:List aAp)(attrs:List aCE)(l:List aAp)(hl:l.length<=1000000):∀ (r:List aAp) (n i:Nat) (acc:List Int),l.drop i=r->r.length<n->acc.length<=i ->
  aDl N k0 n l l.length i nm ins els nodes rules outs attrs acc=k0 nm ins els nodes rules outs attrs (acc++r.map (·.2))
 | [],n,i,acc,h,hn,ha=>by
  obtain⟨n,rfl⟩:=sc hn
  rw[aDl,aAc (aAm h),List.map_nil,List.append_nil]
 | x :: r,n,i,acc,h,hn,ha=>by
  obtain⟨n,rfl⟩:=sc hn
  obtain⟨h1,h2,h3⟩:=aAh h
  rw[aDl,aAd (by omega),h2,aAe,aBs (by omega),cond_true,aAl (by omega),aVk N k0 nm ins els nodes rules outs attrs l hl r n (i+1) (acc++[x.2]) h3 (by simp at hn;omega) (by simp;omega),List.map_cons,List.append_assoc]
  rfl
theorem aXi (N:Nat)(k0:List Int->Option R)(l:List aAP)(hl:l.length<=1000000):∀ (r:List aAP) (n i:Nat) (acc:List Int),l.drop i=r->r.length<n->acc.length+r.length<=3000000 ->
  aDn N k0 n l l.length i acc=k0 (acc++r.map (·.2.2.1))
 | [],n,i,acc,h,hn,ha=>by
  obtain⟨n,rfl⟩:=sc hn
  rw[aDn,aAc (aAm h),List.map_nil,List.append_nil]
 | x :: r,n,i,acc,h,hn,ha=>by
  obtain⟨n,rfl⟩:=sc hn
  obtain⟨h1,h2,h3⟩:=aAh h
  rw[List.length_cons]at ha hn
  rw[aDn,aAd (by omega),h2,aAe,aBs (by omega),cond_true,aAl (by omega),aXi N k0 l hl r n (i+1) (acc++[x.2.2.1]) h3 (by omega) (by rw[List.length_append,List.length_singleton];omega),List.map_cons,List.append_assoc]
  rfl
section
variable {N:Nat} {nm:ByteArray} {ins:List aAp} {els:List aAP} {nodes:List Nd} {rules:List aA1} {outs:List aAp} {attrs:List aCE}
theorem aTh (h:DH N nm ins els nodes rules outs attrs)(k:List Int->Option R):aFI N nm ins els nodes rules outs attrs k=k (aIV ins els):=by
 unfold aFI aIV
 have hi:=h.ins;have he:=h.els
 refine (aVk N _ nm ins els nodes rules outs attrs ins hi.1 ins N 0 [] rfl hi.2.1 (by simp)).trans ?_
 exact aXi N k els he.1 els N 0 _ rfl he.2.1 (by rw[List.nil_append,List.length_map];omega)
theorem aJM {K:Option R}{k0:Int->Int->Option R}{c:Int}{j:Int}:(bif decide (c≠0)then k0 j c else K)=if c=0 then K else k0 j c:=by
 by_cases h:c=0
 ·rw[aAc (by simp[h]),if_pos h]
 ·rw[aAd h,if_neg h]
theorem aOM (n m:Nat)(a b:Int)(ha:a=n)(hb:b=m):(if decide (a<=b)=true then (0:Int)else 8)=le8 n m:=by
 unfold le8
 by_cases h:n<=m
 ·rw[if_pos h,decide_eq_true (by omega)];rfl
 ·rw[if_neg h,decide_eq_false (by omega)];rfl
variable (k0:Int->Int->Option R) (k1:Option R) (M c1 c2 c3 c4:Nat) (m1 m2 m3 m4:NM)
theorem st0 (hN:1000<=N)(h:DH N nm ins els nodes rules outs attrs):aAa N k0 k1 (M+1) 0 nm ins els nodes rules outs attrs c1 m1 c2 m2 c3 m3 c4 m4=if f1 (if nmB nm=true then 0 else 4) (le8 ins.length 12)=0 then aAa N k0 k1 M 1 nm ins els nodes rules outs attrs c1 m1 c2 m2 c3 m3 c4 m4 else k0 0 (f1 (if nmB nm=true then 0 else 4) (le8 ins.length 12)):=by
 rw[aAa]
 simp only[Int.reduceLT,Int.reduceEq,decide_true,decide_false,cond_true,cond_false]
 unfold aEv
 rw[bKs N nm h.nm.1 h.nm.2,aCK,aCK,aOM ins.length 12 _ 12 rfl rfl,aGL N (by omega)]
 exact aJM
theorem st1 (hN:1000<=N)(h:DH N nm ins els nodes rules outs attrs)(hm1:KN m1 [])(hm2:KN m2 []):∃ (j:Int) (c1' c2':Nat) (m1' m2':NM),(aFr [] ins=0->KN m1' (aLo [] ins))∧aAa N k0 k1 (M+1) 1 nm ins els nodes rules outs attrs c1 m1 c2 m2 c3 m3 c4 m4=if aFr [] ins=0 then aAa N k0 k1 M 2 nm ins els nodes rules outs attrs c1' m1' c2' m2' c3 m3 c4 m4 else k0 j (aFr [] ins):=by
 rw[aAa]
 simp only[Int.reduceLT,Int.reduceEq,decide_true,decide_false,cond_true,cond_false]
 unfold aEH aCe
 obtain⟨j,c1',c2',m1',m2',hk,e⟩:=aMa N hN (fun y1 y2 y3 y4 y5 y6=>bif decide (y2≠0)then k0 y1 y2 else aAa N k0 k1 M (w64 (1+1)) nm ins els nodes rules outs attrs y3 y4 y5 y6 c3 m3 c4 m4)
  (fun y3 y4 y5 y6=>aAa N k0 k1 M (w64 (1+1)) nm ins els nodes rules outs attrs y3 y4 y5 y6 c3 m3 c4 m4) ins h.ins.1 h.ins.2.2 ins N 0 c1 c2 m1 m2 [] rfl h.ins.2.1 hm1 hm2
 refine⟨j,c1',c2',m1',m2',hk,e.trans ?_⟩
 by_cases q:aFr [] ins=0
 ·rw[if_pos q,if_pos q];rfl
 ·rw[if_neg q,if_neg q,aAd q]
theorem st2 (hN:1000<=N)(h:DH N nm ins els nodes rules outs attrs):aAa N k0 k1 (M+1) 2 nm ins els nodes rules outs attrs c1 m1 c2 m2 c3 m3 c4 m4=if le8 (ins.length+els.length) 40=0 then aAa N k0 k1 M 3 nm ins els nodes rules outs attrs c1 m1 c2 m2 c3 m3 c4 m4 else k0 0 (le8 (ins.length+els.length) 40):=by
 have hi:=h.ins;have he:=h.els
 rw[aAa]
 simp only[Int.reduceLT,Int.reduceEq,decide_true,decide_false,cond_true,cond_false]
 unfold aEK
 rw[aCK,aOM (ins.length+els.length) 40 _ 40 (by rw[aDt (by omega) (by omega)];omega) rfl]
 exact aJM
theorem st3 (hN:1000<=N)(h:DH N nm ins els nodes rules outs attrs){S:List ByteArray}(hm1:KN m1 S):∃ (j:Int) (c1':Nat) (m1':NM),aAa N k0 k1 (M+1) 3 nm ins els nodes rules outs attrs c1 m1 c2 m2 c3 m3 c4 m4=if aFn S els=0 then aAa N k0 k1 M 4 nm ins els nodes rules outs attrs c1' m1' c2 m2 c3 m3 c4 m4 else k0 j (aFn S els):=by
 rw[aAa]
 simp only[Int.reduceLT,Int.reduceEq,decide_true,decide_false,cond_true,cond_false]
 unfold aEE aBT
 obtain⟨j,c1',m1',e⟩:=aMu N hN (fun y1 y2 y3 y4=>bif decide (y2≠0)then k0 y1 y2 else aAa N k0 k1 M (w64 (3+1)) nm ins els nodes rules outs attrs y3 y4 c2 m2 c3 m3 c4 m4)
  (fun y3 y4=>aAa N k0 k1 M (w64 (3+1)) nm ins els nodes rules outs attrs y3 y4 c2 m2 c3 m3 c4 m4) els h.els.1 h.els.2.2 els N 0 c1 m1 S rfl h.els.2.1 hm1
 refine⟨j,c1',m1',e.trans ?_⟩
 by_cases q:aFn S els=0
 ·rw[if_pos q,if_pos q];rfl
 ·rw[if_neg q,if_neg q,aAd q]
theorem st4 (hN:1000<=N)(h:DH N nm ins els nodes rules outs attrs):∃ (j:Int),aAa N k0 k1 (M+1) 4 nm ins els nodes rules outs attrs c1 m1 c2 m2 c3 m3 c4 m4=if aQR (aIV ins els) nodes=0 then aAa N k0 k1 M 5 nm ins els nodes rules outs attrs c1 m1 c2 m2 c3 m3 c4 m4 else k0 j (aQR (aIV ins els) nodes):=by
 rw[aAa]
 simp only[Int.reduceLT,Int.reduceEq,decide_true,decide_false,cond_true,cond_false]
 unfold aEy
 rw[aTh h]
 obtain⟨j,e⟩:=aMH N hN (aIV ins els) nodes h.nodes.2 (fun y2 y3=>bif decide (y3≠0)then k0 y2 y3 else aAa N k0 k1 M (w64 (4+1)) nm ins els nodes rules outs attrs c1 m1 c2 m2 c3 m3 c4 m4)
 exact⟨j,e.trans aJM⟩
theorem st5 (hN:1000<=N)(h:DH N nm ins els nodes rules outs attrs):aAa N k0 k1 (M+1) 5 nm ins els nodes rules outs attrs c1 m1 c2 m2 c3 m3 c4 m4=if le8 rules.length 16=0 then aAa N k0 k1 M 6 nm ins els nodes rules outs attrs c1 m1 c2 m2 c3 m3 c4 m4 else k0 0 (le8 rules.length 16):=by
 rw[aAa]
 simp only[Int.reduceLT,Int.reduceEq,decide_true,decide_false,cond_true,cond_false]
 unfold aEx
 rw[aCK,aOM rules.length 16 _ 16 rfl rfl]
 exact aJM
theorem st6 (hN:1000<=N)(h:DH N nm ins els nodes rules outs attrs)(hm3:KN m3 []):∃ (j:Int) (c3':Nat) (m3':NM),aAa N k0 k1 (M+1) 6 nm ins els nodes rules outs attrs c1 m1 c2 m2 c3 m3 c4 m4=if aFP els nodes [] rules=0 then aAa N k0 k1 M 7 nm ins els nodes rules outs attrs c1 m1 c2 m2 c3' m3' c4 m4 else k0 j (aFP els nodes [] rules):=by
 rw[aAa]
 simp only[Int.reduceLT,Int.reduceEq,decide_true,decide_false,cond_true,cond_false]
 unfold aED aCf
 obtain⟨j,c3',m3',e⟩:=aMb N hN (fun y1 y2 y3 y4 y5 y6 y7 y8 y9 y10 y11=>bif decide (y2≠0)then k0 y1 y2 else aAa N k0 k1 M (w64 (6+1)) y5 y6 y7 y8 y9 y10 y11 c1 m1 c2 m2 y3 y4 c4 m4)
  (fun y3 y4 y5 y6 y7 y8 y9 y10 y11=>aAa N k0 k1 M (w64 (6+1)) y5 y6 y7 y8 y9 y10 y11 c1 m1 c2 m2 y3 y4 c4 m4) nm ins els nodes rules outs attrs h.nodes.1 h.els.1 rules h.rules.1 h.rules.2.2 rules N 0 c3 m3 [] rfl h.rules.2.1 hm3
 refine⟨j,c3',m3',e.trans ?_⟩
 by_cases q:aFP els nodes [] rules=0
 ·rw[if_pos q,if_pos q];rfl
 ·rw[if_neg q,if_neg q,aAd q]
theorem st7 (hN:1000<=N)(h:DH N nm ins els nodes rules outs attrs):aAa N k0 k1 (M+1) 7 nm ins els nodes rules outs attrs c1 m1 c2 m2 c3 m3 c4 m4=if le8 outs.length 12=0 then aAa N k0 k1 M 8 nm ins els nodes rules outs attrs c1 m1 c2 m2 c3 m3 c4 m4 else k0 0 (le8 outs.length 12):=by
 rw[aAa]
 simp only[Int.reduceLT,Int.reduceEq,decide_true,decide_false,cond_true,cond_false]
 unfold aEC
 rw[aCK,aOM outs.length 12 _ 12 rfl rfl]
 exact aJM
theorem st8 (hN:1000<=N)(h:DH N nm ins els nodes rules outs attrs)(hm4:KN m4 []):∃ (j:Int) (c4':Nat) (m4':NM),aAa N k0 k1 (M+1) 8 nm ins els nodes rules outs attrs c1 m1 c2 m2 c3 m3 c4 m4=if aHW nodes [] outs=0 then aAa N k0 k1 M 9 nm ins els nodes rules outs attrs c1 m1 c2 m2 c3 m3 c4' m4' else k0 j (aHW nodes [] outs):=by
 rw[aAa]
 simp only[Int.reduceLT,Int.reduceEq,decide_true,decide_false,cond_true,cond_false]
 unfold aEF aBZ
 obtain⟨j,c4',m4',e⟩:=aO3 N hN (fun y1 y2 y3 y4 y5 y6 y7 y8 y9 y10 y11=>bif decide (y2≠0)then k0 y1 y2 else aAa N k0 k1 M (w64 (8+1)) y5 y6 y7 y8 y9 y10 y11 c1 m1 c2 m2 c3 m3 y3 y4)
  (fun y3 y4 y5 y6 y7 y8 y9 y10 y11=>aAa N k0 k1 M (w64 (8+1)) y5 y6 y7 y8 y9 y10 y11 c1 m1 c2 m2 c3 m3 y3 y4) nm ins els nodes rules outs attrs h.nodes.1 outs h.outs.1 h.outs.2.2 outs N 0 c4 m4 [] rfl h.outs.2.1 hm4
 refine⟨j,c4',m4',e.trans ?_⟩
 by_cases q:aHW nodes [] outs=0
 ·rw[if_pos q,if_pos q];rfl
 ·rw[if_neg q,if_neg q,aAd q]
theorem st9 (hN:1000<=N)(h:DH N nm ins els nodes rules outs attrs):aAa N k0 k1 (M+1) 9 nm ins els nodes rules outs attrs c1 m1 c2 m2 c3 m3 c4 m4=if le8 attrs.length 16=0 then aAa N k0 k1 M 10 nm ins els nodes rules outs attrs c1 m1 c2 m2 c3 m3 c4 m4 else k0 0 (le8 attrs.length 16):=by
 rw[aAa]
 simp only[Int.reduceLT,Int.reduceEq,decide_true,decide_false,cond_true,cond_false]
 unfold aEm
 rw[aCK,aOM attrs.length 16 _ 16 rfl rfl]
 exact aJM
theorem bVN (hN:1000<=N)(h:DH N nm ins els nodes rules outs attrs):∃ (j:Int),aAa N k0 k1 (M+2) 10 nm ins els nodes rules outs attrs c1 m1 c2 m2 c3 m3 c4 m4=if aG7 rules.length attrs=0 then k1 else k0 j (aG7 rules.length attrs):=by
 rw[aAa]
 simp only[Int.reduceLT,Int.reduceEq,decide_true,decide_false,cond_true,cond_false]
 unfold aEj aBv
 obtain⟨j,e⟩:=aMM N hN (fun y1 y2 y3 y4 y5 y6 y7 y8 y9=>bif decide (y2≠0)then k0 y1 y2 else aAa N k0 k1 (M+1) (w64 (10+1)) y3 y4 y5 y6 y7 y8 y9 c1 m1 c2 m2 c3 m3 c4 m4)
  (fun y3 y4 y5 y6 y7 y8 y9=>aAa N k0 k1 (M+1) (w64 (10+1)) y3 y4 y5 y6 y7 y8 y9 c1 m1 c2 m2 c3 m3 c4 m4) nm ins els nodes rules outs attrs h.rules.1 attrs h.attrs.1 h.attrs.2.2 attrs N 0 rfl h.attrs.2.1
 refine⟨j,e.trans ?_⟩
 by_cases q:aG7 rules.length attrs=0
 ·rw[if_pos q,if_pos q]
  show aAa N k0 k1 (M+1) 11 _ _ _ _ _ _ _ _ _ _ _ _ _ _ _=_
  rw[aAa];rfl
 ·rw[if_neg q,if_neg q,aAd q]
theorem aPK (hN:1000<=N)(h:DH N nm ins els nodes rules outs attrs)(k:Int->Int->Option R):∃ j:Int,aDr N nm ins els nodes rules outs attrs k=k j (aHq nm ins els nodes rules outs attrs):=by
 obtain⟨M,rfl⟩:∃ M,N=M+12:=⟨N-12,by omega⟩
 unfold aDr aHq
 rw[st0 _ _ _ _ _ _ _ _ _ _ _ hN h]
 by_cases q0:f1 (if nmB nm=true then 0 else 4) (le8 ins.length 12)=0
 ·rw[if_pos q0,q0,aGq]
  obtain⟨j,c1',c2',m1',m2',hk,e⟩:=st1 k (k 0 0) (M+10) 0 0 0 0 [] [] [] [] hN h aQN aQN
  rw[e]
  by_cases q1:aFr [] ins=0
  ·rw[if_pos q1,q1,aGq,st2 _ _ _ _ _ _ _ _ _ _ _ hN h]
   by_cases q2:le8 (ins.length+els.length) 40=0
   ·rw[if_pos q2,q2,aGq]
    obtain⟨j,c1'',m1'',e⟩:=st3 k (k 0 0) (M+8) c1' c2' 0 0 m1' m2' [] [] hN h (hk q1)
    rw[e]
    by_cases q3:aFn (aLo [] ins) els=0
    ·rw[if_pos q3,q3,aGq]
     obtain⟨j,e⟩:=st4 k (k 0 0) (M+7) c1'' c2' 0 0 m1'' m2' [] [] hN h
     rw[e]
     by_cases q4:aQR (aIV ins els) nodes=0
     ·rw[if_pos q4,q4,aGq,st5 _ _ _ _ _ _ _ _ _ _ _ hN h]
      by_cases q5:le8 rules.length 16=0
      ·rw[if_pos q5,q5,aGq]
       obtain⟨j,c3',m3',e⟩:=st6 k (k 0 0) (M+5) c1'' c2' 0 0 m1'' m2' [] [] hN h aQN
       rw[e]
       by_cases q6:aFP els nodes [] rules=0
       ·rw[if_pos q6,q6,aGq,st7 _ _ _ _ _ _ _ _ _ _ _ hN h]
        by_cases q7:le8 outs.length 12=0
        ·rw[if_pos q7,q7,aGq]
         obtain⟨j,c4',m4',e⟩:=st8 k (k 0 0) (M+3) c1'' c2' c3' 0 m1'' m2' m3' [] hN h aQN
         rw[e]
         by_cases q8:aHW nodes [] outs=0
         ·rw[if_pos q8,q8,aGq,st9 _ _ _ _ _ _ _ _ _ _ _ hN h]
          by_cases q9:le8 attrs.length 16=0
          ·rw[if_pos q9,q9,aGq]
           obtain⟨j,e⟩:=bVN k (k 0 0) M c1'' c2' c3' c4' m1'' m2' m3' m4' hN h
           rw[e]
           by_cases q10:aG7 rules.length attrs=0
           ·rw[if_pos q10,q10];exact⟨0,rfl⟩
           ·rw[if_neg q10];exact⟨j,rfl⟩
          ·rw[if_neg q9,aKn q9];exact⟨0,rfl⟩
         ·rw[if_neg q8,aKn q8];exact⟨j,rfl⟩
        ·rw[if_neg q7,aKn q7];exact⟨0,rfl⟩
       ·rw[if_neg q6,aKn q6];exact⟨j,rfl⟩
      ·rw[if_neg q5,aKn q5];exact⟨0,rfl⟩
     ·rw[if_neg q4,aKn q4];exact⟨j,rfl⟩
    ·rw[if_neg q3,aKn q3];exact⟨j,rfl⟩
   ·rw[if_neg q2,aKn q2];exact⟨0,rfl⟩
  ·rw[if_neg q1,aKn q1];exact⟨j,rfl⟩
 ·rw[if_neg q0,aKn q0];exact⟨0,rfl⟩
end
theorem if0 {c:Prop} [Decidable c] {e:Int}(he:e≠0)(h:(if c then 0 else e)=0):c:=by
 split at h
 ·assumption
 ·exact absurd h he
theorem aNu:∀ (l:List aAp) (S:List ByteArray),aFr S l=0->∀ x,x∈l->wOK x.2=true
 | [],_,_,x,hx=>by cases hx
 | y :: r,S,h,x,hx=>by
  obtain⟨h1,h2⟩:=f1_0.1 (show f1 (aRg S y) (aFr (y.1 :: S) r)=0 from h)
  rcases List.mem_cons.1 hx with rfl | hx
  ·exact if0 (by decide) (f1_0.1 h1).2
  ·exact aNu r _ h2 x hx
theorem aNd:∀ (l:List aAP) (S:List ByteArray),aFn S l=0->∀ x,x∈l->(0<=x.2.1∧x.2.1<=1)∧wOK x.2.2.1=true∧vok x.2.2.1 x.2.2.2.1=true∧0<=x.2.2.2.2∧x.2.2.2.2<=3
 | [],_,_,x,hx=>by cases hx
 | y :: r,S,h,x,hx=>by
  obtain⟨h1,h2⟩:=f1_0.1 (show f1 (aPr S y) (aFn (y.1 :: S) r)=0 from h)
  rcases List.mem_cons.1 hx with rfl | hx
  ·obtain⟨h3,h4⟩:=f1_0.1 h1
   have h5:=(f1_0.1 (f1_0.1 h3).2)
   exact⟨if0 (by decide) h5.1,if0 (by decide) h5.2,(if0 (by decide) h4).1,(if0 (by decide) h4).2⟩
  ·exact aNd r _ h2 x hx
theorem aSM {nodes:List Nd}:∀ (l:List aAp) (S:List ByteArray),aHW nodes S l=0->∀ x,x∈l->aNm nodes x.2=true
 | [],_,_,x,hx=>by cases hx
 | y :: r,S,h,x,hx=>by
  obtain⟨h1,h2⟩:=f1_0.1 (show f1 (bIJ nodes S y) (aHW nodes (y.1 :: S) r)=0 from h)
  rcases List.mem_cons.1 hx with rfl | hx
  ·exact if0 (by decide) (f1_0.1 h1).2
  ·exact aSM r _ h2 x hx
def bOa (els:List aAP)(nodes:List Nd)(x:WrT):Prop:=(0<=x.1∧x.1<=(els.length:Int)-1)∧aFw nodes x.2.1=true∧aNm nodes x.2.2=true∧aKu nodes x.2.2=ewd els x.1
theorem aOE {els:List aAP}{nodes:List Nd}:∀ (l:List WrT),aD3 els nodes l=0->∀ x,x∈l->bOa els nodes x
 | [],_,x,hx=>by cases hx
 | y :: r,h,x,hx=>by
  obtain⟨h1,h2⟩:=f1_0.1 (show f1 (aKd els nodes y) (aD3 els nodes r)=0 from h)
  rcases List.mem_cons.1 hx with rfl | hx
  ·obtain⟨h3,h4⟩:=f1_0.1 h1
   obtain⟨h5,h6⟩:=f1_0.1 h4
   have h5:=if0 (by decide) h5
   rw[Bool.and_eq_true]at h5
   exact⟨if0 (by decide) h3,h5.1,h5.2,if0 (by decide) h6⟩
  ·exact aOE r h2 x hx
theorem aQG {els:List aAP}{nodes:List Nd}:∀ (l:List aA1) (S:List ByteArray),aFP els nodes S l=0->∀ x,x∈l->aFw nodes x.2.1=true∧x.2.2.length<=16∧∀ y,y∈x.2.2->bOa els nodes y
 | [],_,_,x,hx=>by cases hx
 | y :: r,S,h,x,hx=>by
  obtain⟨h1,h2⟩:=f1_0.1 (show f1 (aRj S els nodes y) (aFP els nodes (y.1 :: S) r)=0 from h)
  rcases List.mem_cons.1 hx with rfl | hx
  ·obtain⟨h3,h4⟩:=f1_0.1 h1
   have h5:=f1_0.1 (f1_0.1 h3).2
   exact⟨if0 (by decide) h5.1,if0 (by decide) h5.2,aOE _ h4⟩
  ·exact aQG r _ h2 x hx
structure DV (ins:List aAp) (els:List aAP) (nodes:List Nd) (rules:List aA1) (outs:List aAp):Prop where
 insW:∀ x,x∈ins->wOK x.2=true
 elsW:∀ x,x∈els->(0<=x.2.1∧x.2.1<=1)∧wOK x.2.2.1=true∧vok x.2.2.1 x.2.2.2.1=true∧0<=x.2.2.2.2∧x.2.2.2.2<=3
 chk:aQR (aIV ins els) nodes=0
 rulesW:∀ x,x∈rules->aFw nodes x.2.1=true∧x.2.2.length<=16∧∀ y,y∈x.2.2->bOa els nodes y
 outsW:∀ x,x∈outs->aNm nodes x.2=true
 nr:rules.length<=16
 no:outs.length<=12
theorem aYI {n m:Nat}(h:le8 n m=0):n<=m:=if0 (by decide) h
theorem bEG {nm:ByteArray}{ins:List aAp}{els:List aAP}{nodes:List Nd}{rules:List aA1}{outs:List aAp}{attrs:List aCE}(h:aHq nm ins els nodes rules outs attrs=0):DV ins els nodes rules outs:=by
 unfold aHq at h
 simp only[f1_0]at h
 obtain⟨_,h1,_,h2,h3,h4,h5,h6,h7,_⟩:=h
 exact⟨aNu _ _ h1,aNd _ _ h2,h3,aQG _ _ h5,aSM _ _ h7,aYI h4,aYI h6⟩
def bXX:List Int->List Int->Bool
 | w :: ws,x :: xs=>vok w x&&bXX ws xs
 | _,_=>true
def bYl (ws l:List Int):Int:=if l.length=ws.length then (if bXX ws l=true then 0 else 2)else 10
theorem bYa:∀ (ws l:List Int),l.length=ws.length->(bXX ws l=true↔∀ i,i<ws.length->vok (w0 ws i) (w0 l i)=true)
 | [],l,_=>by simp[bXX]
 | w :: ws,[],h=>by simp at h
 | w :: ws,x :: xs,h=>by
  rw[show bXX (w :: ws) (x :: xs)=(vok w x&&bXX ws xs)from rfl,Bool.and_eq_true,bYa ws xs (by simpa using h)]
  constructor
  ·rintro ⟨h1,h2⟩ i hi
   cases i with
   | zero=>exact h1
   | succ i=>exact h2 i (by simpa using hi)
  ·intro h2
   exact⟨h2 0 (by simp),fun i hi=>h2 (i+1) (by simpa using hi)⟩
theorem valE_0 {ws l:List Int}:bYl ws l=0↔LV ws l:=by
 unfold bYl LV
 by_cases h:l.length=ws.length
 ·rw[if_pos h,<- bYa ws l h]
  cases bXX ws l <;> simp[h]
 ·rw[if_neg h]
  exact⟨fun h=>(by cases h),fun h'=>absurd h'.1 h⟩
theorem bZg {a b x y:List Int}(h1:LV a x)(h2:LV b y):LV (a++b) (x++y):=by
 refine⟨by simp[h1.1,h2.1],fun i hi=>?_⟩
 have hl:=h1.1
 by_cases c:i<a.length
 ·have:=h1.2 i c
  unfold w0 at this ⊢
  rwa [List.getElem?_append_left c,List.getElem?_append_left (by omega)]
 ·have:=h2.2 (i-a.length) (by simp at hi;omega)
  unfold w0 at this ⊢
  rwa [List.getElem?_append_right (by omega),List.getElem?_append_right (by omega),hl]
theorem bY3 (N:Nat)(k0:Int->Int->KD (Option R))(k1:KD (Option R))(nm:ByteArray)(ins:List aAp)(els:List aAP)(nodes:List Nd)(rules:List aA1)(outs:List aAp)(attrs:List aCE)(hi:ins.length<=1000000)(hw:∀ x,x∈ins->wOK x.2=true)(l:List Int)(hl:l.length=ins.length):∀ (r:List Int) (q:List aAp) (n i:Nat),l.drop i=r->ins.drop i=q->r.length<n ->
  ∃ j:Int,aBE N k0 k1 n l l.length i nm ins els nodes rules outs attrs=if bXX (q.map (·.2)) r=true then k1 nm ins els nodes rules outs attrs else k0 j 2 nm ins els nodes rules outs attrs
 | [],q,n,i,h,hq,hn=>by
  obtain⟨n,rfl⟩:=sc hn
  have:bXX (q.map (·.2)) []=true:=by cases q <;> rfl
  exact⟨0,by rw[aBE,aAc (aAm h),if_pos this]⟩
 | x :: r,[],n,i,h,hq,hn=>by
  have h1:=(aAh h).1
  have:=List.drop_eq_nil_iff.1 hq
  omega
 | x :: r,p :: q,n,i,h,hq,hn=>by
  obtain⟨n,rfl⟩:=sc hn
  obtain⟨h1,h2,h3⟩:=aAh h
  obtain⟨p1,p2,p3⟩:=aAh hq
  have hb:=of_decide_eq_true (hw p (List.mem_of_mem_drop (hq▸List.mem_cons_self:p∈ins.drop i)))
  obtain⟨j,ih⟩:=bY3 N k0 k1 nm ins els nodes rules outs attrs hi hw l hl r q n (i+1) h3 p3 (by simp at hn;omega)
  rw[aBE,aAd (by omega),h2,aAe]
  unfold aEB
  rw[p2,aAe,bM5 N x _ hb.1 hb.2,aCK,show bXX ((p :: q).map (·.2)) (x :: r)=(vok p.2 x&&bXX (q.map (·.2)) r)from rfl]
  cases vok p.2 x
  ·exact⟨i,rfl⟩
  ·refine⟨j,?_⟩
   rw[if_pos rfl]
   try dsimp only
   rw[aAc (by simp),aAl (by omega),ih,Bool.true_and]
theorem bY5 (N:Nat)(k0:Int->Int->KD (Option R))(k1:KD (Option R))(nm:ByteArray)(ins:List aAp)(els:List aAP)(nodes:List Nd)(rules:List aA1)(outs:List aAp)(attrs:List aCE)(hi:els.length<=1000000)(hw:∀ x,x∈els->wOK x.2.2.1=true)(l:List Int)(hl:l.length=els.length):∀ (r:List Int) (q:List aAP) (n i:Nat),l.drop i=r->els.drop i=q->r.length<n ->
  ∃ j:Int,aBL N k0 k1 n l l.length i nm ins els nodes rules outs attrs=if bXX (q.map (·.2.2.1)) r=true then k1 nm ins els nodes rules outs attrs else k0 j 2 nm ins els nodes rules outs attrs
 | [],q,n,i,h,hq,hn=>by
  obtain⟨n,rfl⟩:=sc hn
  have:bXX (q.map (·.2.2.1)) []=true:=by cases q <;> rfl
  exact⟨0,by rw[aBL,aAc (aAm h),if_pos this]⟩
 | x :: r,[],n,i,h,hq,hn=>by
  have h1:=(aAh h).1
  have:=List.drop_eq_nil_iff.1 hq
  omega
 | x :: r,p :: q,n,i,h,hq,hn=>by
  obtain⟨n,rfl⟩:=sc hn
  obtain⟨h1,h2,h3⟩:=aAh h
  obtain⟨p1,p2,p3⟩:=aAh hq
  have hb:=of_decide_eq_true (hw p (List.mem_of_mem_drop (hq▸List.mem_cons_self:p∈els.drop i)))
  obtain⟨j,ih⟩:=bY5 N k0 k1 nm ins els nodes rules outs attrs hi hw l hl r q n (i+1) h3 p3 (by simp at hn;omega)
  rw[aBL,aAd (by omega),h2,aAe]
  unfold aEV
  rw[p2,aAe,bM5 N x _ hb.1 hb.2,aCK,show bXX ((p :: q).map (·.2.2.1)) (x :: r)=(vok p.2.2.1 x&&bXX (q.map (·.2.2.1)) r)from rfl]
  cases vok p.2.2.1 x
  ·exact⟨i,rfl⟩
  ·refine⟨j,?_⟩
   rw[if_pos rfl]
   try dsimp only
   rw[aAc (by simp),aAl (by omega),ih,Bool.true_and]
def inW (ins:List aAp):List Int:=ins.map (·.2)
def elW (els:List aAP):List Int:=els.map (·.2.2.1)
section
variable {N:Nat} {nm:ByteArray} {ins:List aAp} {els:List aAP} {nodes:List Nd} {rules:List aA1} {outs:List aAp} {attrs:List aCE}
theorem cCS (h:DH N nm ins els nodes rules outs attrs)(hv:DV ins els nodes rules outs)(l:List Int)(k:Int->Option R):aFq N nm ins els nodes rules outs attrs l k=k (bYl (inW ins) l):=by
 unfold aFq bYl inW
 rw[List.length_map]
 by_cases c:l.length=ins.length
 ·rw[aAc (by omega),if_pos c]
  unfold aC5
  have hi:=h.ins
  obtain⟨j,e⟩:=bY3 N (fun y1 y2 y3 y4 y5 y6 y7 y8 y9=>k y2) (fun z19 z20 z21 z22 z23 z24 z25=>k 0) nm ins els nodes rules outs attrs hi.1 hv.insW l c l ins N 0 rfl rfl (by omega)
  refine e.trans ?_
  cases bXX (ins.map (·.2)) l <;> rfl
 ·rw[aAd (by omega),if_neg c]
theorem cBd (h:DH N nm ins els nodes rules outs attrs)(hv:DV ins els nodes rules outs)(l:List Int)(k:Int->Option R):aFL N nm ins els nodes rules outs attrs l k=k (bYl (elW els) l):=by
 unfold aFL bYl elW
 rw[List.length_map]
 by_cases c:l.length=els.length
 ·rw[aAc (by omega),if_pos c]
  unfold aC9
  have hi:=h.els
  obtain⟨j,e⟩:=bY5 N (fun y1 y2 y3 y4 y5 y6 y7 y8 y9=>k y2) (fun z19 z20 z21 z22 z23 z24 z25=>k 0) nm ins els nodes rules outs attrs hi.1 (fun x hx=>(hv.elsW x hx).2.1) l c l els N 0 rfl rfl (by omega)
  refine e.trans ?_
  cases bXX (els.map (·.2.2.1)) l <;> rfl
 ·rw[aAd (by omega),if_neg c]
theorem cBF (hN:1000<=N)(a b:List Int)(ha:a.length<=1000000)(hb:b.length<=1000000)(k:List Int->Option R):aFE N [a,b] k=k (a++b):=by
 obtain⟨M,rfl⟩:∃ M,N=M+3:=⟨N-3,by omega⟩
 have e0:at? [a,b] 0=some a:=rfl
 have e1:at? [a,b] 1=some b:=rfl
 have w1:w64 (0+1)=1:=rfl
 have w2:w64 (1+1)=2:=rfl
 have g:aX8 8 ((a.length:Int)+(b.length:Int))=true:=by
  unfold aX8
  exact decide_eq_true ⟨by omega,by omega,by omega⟩
 unfold aFE
 rw[aDi,aAd (by simp),e0,aAe,aDt (x:=0+((a.length:Nat):Int)) (by omega) (by omega),aAc (by omega),w1,
  aDi,aAd (by simp),e1,aAe,Int.zero_add,aDt (x:=(a.length:Int)+((b.length:Nat):Int)) (by omega) (by omega),aAc (by omega),w2,
  aDi,aAc (by simp)]
 try dsimp only
 rw[g,cond_true,aDh,aAd (by simp),e0,aAe,aBs (by simp;omega),cond_true,w1,
  aDh,aAd (by simp),e1,aAe,aBs (by simp;omega),cond_true,w2,aDh,aAc (by simp)]
 rfl
def dV (nodes:List Nd)(inp s:List Int):List Int:=nvG (inp++s) nodes nodes []
theorem cAb (hN:1000<=N)(h:DH N nm ins els nodes rules outs attrs)(hv:DV ins els nodes rules outs){inp s:List Int}(hi:LV (inW ins) inp)(hs:LV (elW els) s)(k:List Int->Option R) :
  aGh N nm ins els nodes rules outs attrs inp s k=k (dV nodes inp s):=by
 unfold aGh
 have h1:=hi.1;have h2:=hs.1;have h3:=h.ins;have h4:=h.els
 unfold inW at h1
 unfold elW at h2
 rw[List.length_map]at h1 h2
 rw[aTh h,cBF hN inp s (by omega) (by omega),bYR N hN h.nodes.2 hv.chk (bZg hi hs)]
 rfl
theorem cCa (hv:DV ins els nodes rules outs){inp s:List Int}(hi:LV (inW ins) inp)(hs:LV (elW els) s):(dV nodes inp s).length=nodes.length∧∀ j,j<nodes.length->vok (aKu nodes j) (w0 (dV nodes inp s) j)=true:=
 cCT (bZg hi hs) (aOj hv.chk).2.2.2
theorem bZh (hv:DV ins els nodes rules outs){inp s:List Int}(hi:LV (inW ins) inp)(hs:LV (elW els) s){n:Int}(hn:aNm nodes n=true):at? (dV nodes inp s) n=some (w0 (dV nodes inp s) n.toNat):=by
 have hn:=of_decide_eq_true hn
 have:=(cCa hv hi hs).1
 obtain⟨a,rfl⟩:∃ a:Nat,n=a:=⟨n.toNat,by omega⟩
 rw[Int.toNat_natCast];exact aLX (by omega)
def elI (els:List aAP):List Int:=els.map (·.2.2.2.1)
theorem bYq (N:Nat)(k0:List Int->Option R)(l:List aAP)(hl:l.length<=1000000):∀ (r:List aAP) (n i:Nat) (acc:List Int),l.drop i=r->r.length<n->acc.length<=i ->
  aDU N k0 n l l.length i acc=k0 (acc++elI r)
 | [],n,i,acc,h,hn,ha=>by
  obtain⟨n,rfl⟩:=sc hn
  rw[aDU,aAc (aAm h)]
  unfold elI
  rw[List.map_nil,List.append_nil]
 | x :: r,n,i,acc,h,hn,ha=>by
  obtain⟨n,rfl⟩:=sc hn
  obtain⟨h1,h2,h3⟩:=aAh h
  rw[aDU,aAd (by omega),h2,aAe,aBs (by omega),cond_true,aAl (by omega),bYq N k0 l hl r n (i+1) (acc++[x.2.2.2.1]) h3 (by simp at hn;omega) (by simp;omega),List.append_assoc]
  rfl
theorem bYO (hN:1000<=N)(h:DH N nm ins els nodes rules outs attrs)(k:KD (Int->Option R)):aIF N nm ins els nodes rules outs attrs k=k nm ins els nodes rules outs attrs (aHq nm ins els nodes rules outs attrs):=by
 unfold aIF
 obtain⟨j,e⟩:=aPK hN h (fun y1 y2=>k nm ins els nodes rules outs attrs y2)
 exact e
theorem bZk (hN:1000<=N)(h:DH N nm ins els nodes rules outs attrs)(k:List Int->Int->Option R):aIC N nm ins els nodes rules outs attrs k=if aHq nm ins els nodes rules outs attrs=0 then k (elI els) 0 else k [] (aHq nm ins els nodes rules outs attrs):=by
 unfold aIC
 rw[bYO hN h]
 by_cases c:aHq nm ins els nodes rules outs attrs=0
 ·rw[aAc (by simp[c]),if_pos c]
  unfold aGA
  exact bYq N _ els h.els.1 els N 0 [] rfl h.els.2.1 (by simp)
 ·rw[aAd c,if_neg c]
theorem bXU (hv:DV ins els nodes rules outs):LV (elW els) (elI els):=by
 unfold elW elI
 refine⟨by simp,fun i hi=>?_⟩
 have hi:i<els.length:=by simpa using hi
 rw[bYo hi,bYo hi]
 exact (hv.elsW _ (List.getElem_mem hi)).2.2.1
end
section
variable {N:Nat} {nm:ByteArray} {ins:List aAp} {els:List aAP} {nodes:List Nd} {rules:List aA1} {outs:List aAp} {attrs:List aCE}
def hap (V:List Int):List WrT->List Int->List Int
 | [],s=>s
 | x :: r,s=>hap V r (if w0 V x.2.1.toNat=1 then s.set x.1.toNat (w0 V x.2.2.toNat)else s)
theorem bYt (N:Nat)(k:List Int->Option R)(V:List Int)(l:List WrT)(hl:l.length<=1000000)(m:Nat)(hV:∀ x,x∈l->(0<=x.1∧x.1<=(m:Int)-1)∧at? V x.2.1=some (w0 V x.2.1.toNat)∧at? V x.2.2=some (w0 V x.2.2.toNat)):∀ (r:List WrT) (n i:Nat) (s:List Int),l.drop i=r->r.length<n->s.length=m ->
  aCu N k n V l l.length i s=k (hap V r s)
 | [],n,i,s,h,hn,ha=>by
  obtain⟨n,rfl⟩:=sc hn
  rw[aCu,aAc (aAm h)];rfl
 | x :: r,n,i,s,h,hn,ha=>by
  obtain⟨n,rfl⟩:=sc hn
  obtain⟨h1,h2,h3⟩:=aAh h
  have hx:=hV x (List.mem_of_mem_drop (h▸List.mem_cons_self:x∈l.drop i))
  rw[aCu,aAd (by omega),h2,aAe,hx.2.1,aAe,aAl (by omega)]
  by_cases c:w0 V x.2.1.toNat=1
  ·rw[aAd c,hx.2.2,aAe,aSL hx.1.1 (by omega),cond_true,List.getElem?_eq_getElem (by omega),aAe,bYt N k V l hl m hV r n (i+1) _ h3 (by simp at hn;omega) (by simpa using ha)]
   show _=k (hap V r (if _ then _ else _))
   rw[if_pos c]
  ·rw[aAc c,bYt N k V l hl m hV r n (i+1) _ h3 (by simp at hn;omega) ha]
   show _=k (hap V r (if _ then _ else _))
   rw[if_neg c]
theorem cCE {s:List Int}{i j:Nat}(v:Int)(h:i<s.length):w0 (s.set i v) j=if i=j then v else w0 s j:=by
 unfold w0
 rw[List.getElem?_set]
 by_cases c:i=j
 ·subst c;rw[if_pos rfl,if_pos h,if_pos rfl];rfl
 ·rw[if_neg c,if_neg c]
theorem bZp {els:List aAP}{nodes:List Nd}{V:List Int}(hV:∀ j,j<nodes.length->vok (aKu nodes j) (w0 V j)=true):∀ (l:List WrT) (s:List Int),(∀ x,x∈l->bOa els nodes x)->LV (elW els) s->LV (elW els) (hap V l s)
 | [],s,_,hs=>hs
 | x :: r,s,hl,hs=>by
  show LV (elW els) (hap V r (if _ then _ else _))
  refine bZp hV r _ (fun y hy=>hl y (List.mem_cons_of_mem _ hy)) ?_
  split
  ·obtain⟨h1,h2,h3,h4⟩:=hl x List.mem_cons_self
   have h3:=of_decide_eq_true h3
   have hlen:(elW els).length=els.length:=by unfold elW;simp
   have hsl:=hs.1
   refine⟨by rw[List.length_set];exact hs.1,fun i hi=>?_⟩
   rw[cCE _ (by omega)]
   split
   ·rename_i e
    subst e
    have:=hV x.2.2.toNat (by omega)
    rw[show ((x.2.2.toNat:Nat):Int)=x.2.2 by omega,h4]at this
    have he:w0 (elW els) x.1.toNat=ewd els x.1:=by
     unfold elW ewd
     rw[bYo (by omega),List.getElem?_eq_getElem (by omega)];rfl
    rw[he];exact this
   ·exact hs.2 i hi
  ·exact hs
theorem bYJ (hN:1000<=N)(h:DH N nm ins els nodes rules outs attrs)(hc:aHq nm ins els nodes rules outs attrs=0){inp s:List Int}(hi:LV (inW ins) inp)(hs:LV (elW els) s){a:Nat}(ha:a<rules.length)(k:Int->List Int->Option R) :
  aH3 N nm ins els nodes rules outs attrs a inp s k=if w0 (dV nodes inp s) rules[a].2.1.toNat=1 then k 0 (hap (dV nodes inp s) rules[a].2.2 s)else k 24 []:=by
 have hv:=bEG hc
 have hr:=hv.nr
 have hx:=hv.rulesW _ (List.getElem_mem ha)
 have hg:=hx.1
 unfold aFw at hg
 rw[Bool.and_eq_true]at hg
 have hsl:=hs.1
 have he:=h.els
 unfold elW at hsl
 rw[List.length_map]at hsl
 unfold aH3
 rw[bYO hN h,hc]
 try dsimp only
 rw[aAd rfl]
 unfold aFR
 rw[aDt (by omega) (by omega),aG2,aCK,decide_eq_true (by omega),if_pos rfl,cCS h hv,cBd h hv,valE_0.2 hi,valE_0.2 hs,aM0 N (by omega),aGq,aGq]
 unfold aFz
 rw[aAc (by simp),cAb hN h hv hi hs]
 unfold aFm
 rw[aHb ha,aAe,bZh hv hi hs hg.1,aAe]
 by_cases c:w0 (dV nodes inp s) rules[a].2.1.toNat=1
 ·rw[decide_eq_true c,if_pos c]
  try dsimp only
  rw[Bool.not_true,cond_false]
  unfold aFv
  rw[aBs (by omega),cond_true,aHb ha,aAe]
  exact bYt N _ _ _ (by omega) els.length (fun y hy=>by
   obtain⟨q1,q2,q3,q4⟩:=hx.2.2 y hy
   unfold aFw at q2
   rw[Bool.and_eq_true]at q2
   exact⟨q1,bZh hv hi hs q2.1,bZh hv hi hs q3⟩) _ N 0 s rfl (by omega) hsl
 ·rw[decide_eq_false c,if_neg c];rfl
theorem bYj (hv:DV ins els nodes rules outs){inp s:List Int}(hi:LV (inW ins) inp)(hs:LV (elW els) s){a:Nat}(ha:a<rules.length):LV (elW els) (hap (dV nodes inp s) rules[a].2.2 s):=
 bZp (cCa hv hi hs).2 _ s (hv.rulesW _ (List.getElem_mem ha)).2.2 hs
end
theorem aD5 (N:Nat)(a lo hi:Int)(k:Bool->Option R):aAz N a lo hi k=k (decide (lo<=a∧a<=hi)):=by
 unfold aAz
 by_cases h:lo<=a <;> simp[h]
theorem aYr (N:Nat){n:Int}(h0:0<=n)(h:n<=40)(k:Int->Option R):aEO N n k=k (p2 n):=by
 unfold aEO;rw[aAc (by omega),aVr h0 h]
theorem aSq (N:Nat)(n:Int){w:Int}(h0:0<=w)(h:w<=16)(k:Bool->Option R):aEg N n w k=k (vok w n):=by
 have:=aQ8 w;have:=bDz h
 unfold aEg vok;rw[aYr N h0 (by omega),aD5,aDt (by omega) (by omega)]
theorem cAm {w n:Int}(hw:1<=w)(h:vok w n=true):- p2 (w-1)<=sg w n∧sg w n<=p2 (w-1)-1:=by
 have:=of_decide_eq_true h
 have h1:=bYV hw
 unfold sg;split <;> omega
theorem bYd (N:Nat){w:Int}(n:Int)(h0:1<=w)(h:w<=16)(hn:0<=n∧n<=65536)(k:Int->Option R):bXm N n w k=k (sg w n):=by
 have h1:=bYV h0
 have h2:=bDz h
 have h3:=aQ8 (w-1)
 unfold bXm sg
 rw[aDt (x:=w-1) (by omega) (by omega),aYr N (by omega) (by omega)]
 by_cases c:p2 (w-1)<=n
 ·rw[aAd c,aYr N (by omega) (by omega),if_pos c,aDt (by omega) (by omega)]
 ·rw[aAc c,if_neg c]
theorem aK2 (N:Nat)(l:List Int)(hl:l.length<=1000000)(k:List Int->Option R):aCX N l k=k l:=by
 unfold aCX;rw[aBs (by omega)];rfl
theorem aSu (N:Nat)(n:Int)(k:Bool->Option R):aCz N n k=k (wOK n):=by unfold aCz wOK;rw[aD5]
theorem aQ6 (N:Nat)(k0:KD (List Int->Option R))(nm:ByteArray)(ins:List aAp)(els:List aAP)(nodes:List Nd)(rules:List aA1)(outs:List aAp)(attrs:List aCE)(hl:ins.length<=100):∀ (r:List aAp) (n i:Nat) (acc:List Int),ins.drop i=r->r.length<n->acc.length<=i ->
  aB5 N k0 n i nm ins els nodes rules outs attrs acc=k0 nm ins els nodes rules outs attrs (acc++r.map (·.2))
 | [],n,i,acc,h,hn,ha=>by
  obtain⟨n,rfl⟩:=sc hn
  rw[aB5,aAc (aAm h),List.map_nil,List.append_nil]
 | x :: r,n,i,acc,h,hn,ha=>by
  obtain⟨n,rfl⟩:=sc hn
  obtain⟨h1,h2,h3⟩:=aAh h
  rw[aB5,aAd (by omega),h2,aAe,aBs (by omega),cond_true,aAl (by omega),aQ6 N k0 nm ins els nodes rules outs attrs hl r n (i+1) (acc++[x.2]) h3 (by simp at hn;omega) (by simp;omega),List.map_cons,List.append_assoc]
  rfl
theorem aQS (N:Nat)(k0:List Int->Option R)(nm:ByteArray)(ins:List aAp)(els:List aAP)(nodes:List Nd)(rules:List aA1)(outs:List aAp)(attrs:List aCE)(hl:els.length<=100):∀ (r:List aAP) (n i:Nat) (acc:List Int),els.drop i=r->r.length<n->acc.length<=i+100 ->
  aCa N k0 n i nm ins els nodes rules outs attrs acc=k0 (acc++r.map (·.2.2.1))
 | [],n,i,acc,h,hn,ha=>by
  obtain⟨n,rfl⟩:=sc hn
  rw[aCa,aAc (aAm h),List.map_nil,List.append_nil]
 | x :: r,n,i,acc,h,hn,ha=>by
  obtain⟨n,rfl⟩:=sc hn
  obtain⟨h1,h2,h3⟩:=aAh h
  rw[aCa,aAd (by omega),h2,aAe,aBs (by omega),cond_true,aAl (by omega),aQS N k0 nm ins els nodes rules outs attrs hl r n (i+1) (acc++[x.2.2.1]) h3 (by simp at hn;omega) (by simp;omega),List.map_cons,List.append_assoc]
  rfl
theorem bF9 {N:Nat}(hN:1000<=N)(nm:ByteArray){ins:List aAp}{els:List aAP}(nodes:List Nd)(rules:List aA1)(outs:List aAp)(attrs:List aCE)(hi:ins.length<=100)(he:els.length<=100)(k:List Int->Option R):aEo N nm ins els nodes rules outs attrs k=k (aIV ins els):=by
 unfold aEo
 refine (aQ6 N _ nm ins els nodes rules outs attrs hi ins N 0 [] rfl (by omega) (by simp)).trans ?_
 exact aQS N k nm ins els nodes rules outs attrs he els N 0 _ rfl (by omega) (by simp;omega)
theorem bOT (N:Nat){op:Int}(h:0<=op)(k:Int->Option R):aDJ N op k=k (aOs op):=by
 unfold aDJ
 by_cases c0:op=0
 ·subst c0;rfl
 by_cases c1:op=1
 ·subst c1;rfl
 by_cases c2:op=2
 ·subst c2;rfl
 by_cases c3:op=14
 ·subst c3;rfl
 by_cases c4:op=15
 ·subst c4;rfl
 by_cases c5:op=16
 ·subst c5;rfl
 by_cases c6:op=12
 ·subst c6;rfl
 rw[aAc c0,aAc c1,aAc c2,aAc c3,aAc c4,aAc c5,aAc c6]
 unfold aOs
 rw[if_neg (by omega),if_neg (by omega),if_neg c6]
theorem aN6 (N:Nat)(k0:Int->Int->List Int->Int->List Int->Option R)(nodes:List Nd)(m:Int)(hm:m<=nodes.length)(op wd:Int)(args:List Int)(v:Int)(ha:args.length<=3):∀ (r:List Int) (n i:Nat) (acc:List Int),args.drop i=r->r.length<n->acc.length<=i->aNS m r=false ->
  aBA N k0 n nodes i op wd args v acc=k0 op wd args v (acc++r.map (aKu nodes))
 | [],n,i,acc,h,hn,hc,ho=>by
  obtain⟨n,rfl⟩:=sc hn
  rw[aBA,aAc (aAm h),List.map_nil,List.append_nil]
 | x :: r,n,i,acc,h,hn,hc,ho=>by
  obtain⟨n,rfl⟩:=sc hn
  obtain⟨h1,h2,h3⟩:=aAh h
  unfold aNS at ho
  rw[List.any_cons,Bool.or_eq_false_iff]at ho
  have hx:0<=x∧x<=m-1:=by simpa using ho.1
  obtain⟨a,rfl⟩:∃ a:Nat,x=a:=⟨x.toNat,by omega⟩
  rw[aBA,aAd (by omega),h2,aAe,aHb (show a<nodes.length by omega),aAe,aBs (by omega),cond_true,aAl (by omega),aN6 N k0 nodes m hm op wd args v ha r n (i+1) _ h3 (by simp at hn;omega) (by simp;omega) ho.2,List.map_cons,List.append_assoc]
  unfold aKu
  rw[Int.toNat_natCast,List.getElem?_eq_getElem (show a<nodes.length by omega)]
  rfl
theorem bK5 {w:List Int}(h:(w.length:Int)=1):∃ a,w=[a]:=by
 match w,h with
 | [a],_=>exact⟨a,rfl⟩
 | [],h=>cases h
 | _ :: _ :: _,h=>simp at h;omega
theorem aRX {w:List Int}(h:(w.length:Int)=2):∃ a b,w=[a,b]:=by
 match w,h with
 | [a,b],_=>exact⟨a,b,rfl⟩
 | [],h=>cases h
 | [_],h=>cases h
 | _ :: _ :: _ :: _,h=>simp at h;omega
theorem bVT {w:List Int}(h:(w.length:Int)=3):∃ a b c,w=[a,b,c]:=by
 match w,h with
 | [a,b,c],_=>exact⟨a,b,c,rfl⟩
 | [],h=>cases h
 | [_],h=>cases h
 | [_,_],h=>cases h
 | _ :: _ :: _ :: _ :: _,h=>simp at h;omega
theorem aVM {N:Nat}(hN:1000<=N){nodes:List Nd}{m:Nat}(hm:m<=nodes.length)(hW:WOK nodes m){op wd v:Int}{args:List Int}(h0:2<=op∧op<=18)(hl:(args.length:Int)=aOs op)(ho:aNS m args=false)(hv:op=14->0<=v∧v<=15)(hwd:wOK wd=true)(k:Bool->Option R) :
  aCJ N nodes op wd args v k=k (aJ5 op wd v (args.map (aKu nodes))):=by
 have h3:=aZS op
 have hw:∀ x,x∈args.map (aKu nodes)->wOK x=true:=by
  intro x hx
  obtain⟨a,ha,rfl⟩:=List.mem_map.1 hx
  have:=List.any_eq_false.1 ho a ha
  have:0<=a∧a<=(m:Int)-1:=by simpa using this
  exact hW a this.1 this.2
 have hwd:=of_decide_eq_true hwd
 unfold aCJ
 refine (aN6 N _ nodes m (by omega) op wd args v (by omega) args N 0 [] rfl (by omega) (by simp) ho).trans ?_
 rw[List.nil_append]
 try dsimp only
 have hlen:((args.map (aKu nodes)).length:Int)=aOs op:=by rw[List.length_map];exact hl
 generalize args.map (aKu nodes)=w at hw hlen
 have i1:∀ n:Nat,inR 0 (n+1)=true:=fun n=>aSL (by omega) (by omega)
 have i2:∀ n:Nat,inR 1 (n+1+1)=true:=fun n=>aSL (by omega) (by omega)
 have i3:∀ n:Nat,inR 2 (n+1+1+1)=true:=fun n=>aSL (by omega) (by omega)
 have hop:op=18∨op=17∨op=16∨op=15∨op=14∨op=13∨op=12∨op=11∨op=10∨op=9∨op=8∨op=7∨op=6∨op=5∨op=4∨op=3∨op=2:=by omega
 rcases hop with rfl | rfl | rfl | rfl | rfl | rfl | rfl | rfl | rfl | rfl | rfl | rfl | rfl | rfl | rfl | rfl | rfl
 ·obtain⟨a,b,rfl⟩:=aRX hlen
  simp[aJ5,w0,i1]
 ·obtain⟨a,b,rfl⟩:=aRX hlen
  simp[aJ5,w0,i1]
 ·obtain⟨a,rfl⟩:=bK5 hlen
  simp[aJ5,w0,i1]
 ·obtain⟨a,rfl⟩:=bK5 hlen
  simp[aJ5,w0,i1]
 ·obtain⟨a,rfl⟩:=bK5 hlen
  have:=hv rfl
  simp[aJ5,w0,i1,aDt (x:=v+wd) (by omega) (by omega)]
 ·obtain⟨a,b,rfl⟩:=aRX hlen
  have h1:=of_decide_eq_true (hw a (by simp));have h2:=of_decide_eq_true (hw b (by simp))
  simp[aJ5,w0,i1,i2,aDt (x:=a+b) (by omega) (by omega)]
 ·obtain⟨a,b,c,rfl⟩:=bVT hlen
  by_cases q1:a=1 <;> by_cases q2:b=wd <;> simp[aJ5,w0,i1,i2,i3,q1,q2]
 ·obtain⟨a,b,rfl⟩:=aRX hlen
  by_cases q1:wd=1 <;> by_cases q2:a=b <;> simp[aJ5,w0,i1,i2,q1,q2]
 ·obtain⟨a,b,rfl⟩:=aRX hlen
  by_cases q1:wd=1 <;> by_cases q2:a=b <;> simp[aJ5,w0,i1,i2,q1,q2]
 ·obtain⟨a,b,rfl⟩:=aRX hlen
  by_cases q1:wd=1 <;> by_cases q2:a=b <;> simp[aJ5,w0,i1,i2,q1,q2]
 ·obtain⟨a,b,rfl⟩:=aRX hlen
  by_cases q2:a=wd <;> simp[aJ5,w0,i1,i2,q2]
 ·obtain⟨a,b,rfl⟩:=aRX hlen
  by_cases q2:a=wd <;> simp[aJ5,w0,i1,i2,q2]
 ·obtain⟨a,b,rfl⟩:=aRX hlen
  by_cases q2:a=wd <;> simp[aJ5,w0,i1,i2,q2]
 ·obtain⟨a,b,rfl⟩:=aRX hlen
  by_cases q2:a=wd <;> simp[aJ5,w0,i1,i2,q2]
 ·obtain⟨a,b,rfl⟩:=aRX hlen
  by_cases q2:a=wd <;> simp[aJ5,w0,i1,i2,q2]
 ·obtain⟨a,b,rfl⟩:=aRX hlen
  by_cases q2:a=wd <;> simp[aJ5,w0,i1,i2,q2]
 ·obtain⟨a,rfl⟩:=bK5 hlen
  simp[aJ5,w0,i1]
theorem aPX (N:Nat){nodes:List Nd}(hn:nodes.length<=1000000)(n:Int)(k:Bool->Option R):aCQ N nodes n k=k (aNm nodes n):=by
 unfold aCQ aNm;rw[aD5,aDt (by omega) (by omega)]
section
variable {N:Nat} (nm:ByteArray) (ins:List aAp) {els:List aAP} {nodes:List Nd} (l:List aA1) (outs:List aAp) (attrs:List aCE)
end
theorem cCY (N:Nat)(b:Bool)(k:Int->Option R):bXA N b k=k (b2i b):=by cases b <;> rfl
theorem bZi {n:Int}(P:Int)(h:0<=n):Int.tmod n P=n%P:=Int.tmod_eq_emod_of_nonneg h
theorem cCK {n:Int}(P:Int)(h:0<=n):Int.tdiv n P=n/P:=Int.tdiv_eq_ediv_of_nonneg h
theorem VS1 {a b:Int}(h:VS [a] [b]):(1<=a∧a<=16)∧vok a b=true:=h.2 0 (by simp)
theorem VS2 {a b x y:Int}(h:VS [a,b] [x,y]):((1<=a∧a<=16)∧vok a x=true)∧(1<=b∧b<=16)∧vok b y=true:=⟨h.2 0 (by simp),h.2 1 (by simp)⟩
theorem cAn {w a:List Int}(hl:(w.length:Int)=1)(h:VS w a):∃ p x,w=[p]∧a=[x]:=by
 obtain⟨p,rfl⟩:=bK5 hl
 obtain⟨x,rfl⟩:=bK5 (w:=a) (by rw[<- h.1];rfl)
 exact⟨p,x,rfl,rfl⟩
theorem bX7 {w a:List Int}(hl:(w.length:Int)=2)(h:VS w a):∃ p q x y,w=[p,q]∧a=[x,y]:=by
 obtain⟨p,q,rfl⟩:=aRX hl
 obtain⟨x,y,rfl⟩:=aRX (w:=a) (by rw[<- h.1];rfl)
 exact⟨p,q,x,y,rfl,rfl⟩
theorem cDb {w a:List Int}(hl:(w.length:Int)=3)(h:VS w a):∃ p q r x y z,w=[p,q,r]∧a=[x,y,z]:=by
 obtain⟨p,q,r,rfl⟩:=bVT hl
 obtain⟨x,y,z,rfl⟩:=bVT (w:=a) (by rw[<- h.1];rfl)
 exact⟨p,q,r,x,y,z,rfl,rfl⟩
theorem a0 (x:Int)(l:List Int):at? (x :: l) 0=some x:=rfl
theorem a1 (x y:Int)(l:List Int):at? (x :: y :: l) 1=some y:=rfl
theorem a2 (x y z:Int)(l:List Int):at? (x :: y :: z :: l) 2=some z:=rfl
theorem cCH (N:Nat)(args lv:List Int){op wd v:Int}{w a:List Int}(h0:0<=op∧op<=18)(h1:op≠1)(hw:wOK wd=true)(hl:(w.length:Int)=aOs op)(hv:aJg [] op wd v=0)(hf:aJ5 op wd v w=true)(hs:VS w a)(k:Int->Option R) :
  bXz N op wd args v a w lv k=k (apS op wd v w a):=by
 have hwd:=of_decide_eq_true hw
 have hP:=aQ8 wd;have hP2:=bDz hwd.2
 unfold bXz
 rw[aYr N (by omega) (by omega)]
 have hop:op=18∨op=17∨op=16∨op=15∨op=14∨op=13∨op=12∨op=11∨op=10∨op=9∨op=8∨op=7∨op=6∨op=5∨op=4∨op=3∨op=2∨op=0:=by omega
 rcases hop with rfl | rfl | rfl | rfl | rfl | rfl | rfl | rfl | rfl | rfl | rfl | rfl | rfl | rfl | rfl | rfl | rfl | rfl
 all_goals simp only[Int.reduceEq,decide_true,decide_false,cond_true,cond_false]
 ·obtain⟨p,q,x,y,rfl,rfl⟩:=bX7 hl hs
  obtain⟨s1,s2⟩:=VS2 hs
  have r1:=bXL s1.1.2 s1.2;have r2:=bXL s2.1.2 s2.2
  have hy:=aQ8 y
  rw[a1,aAe,a0,aAe,aAe]
  show _=k (if wd<=y then 0 else x/p2 y)
  by_cases c:wd<=y
  ·rw[aAd c,if_pos c]
  ·have e1:=Int.ediv_nonneg r1.1 (show 0<=p2 y by omega)
   have e2:=Int.ediv_le_self (p2 y) r1.1
   rw[aAc c,if_neg c,aYr N (by omega) (by omega),aAc (by omega),cCK _ r1.1,aDt (by omega) (by omega)]
 ·obtain⟨p,q,x,y,rfl,rfl⟩:=bX7 hl hs
  obtain⟨s1,s2⟩:=VS2 hs
  have r1:=bXL s1.1.2 s1.2;have r2:=bXL s2.1.2 s2.2
  have hy:=aQ8 y
  rw[a1,aAe,a0,aAe,aAe]
  show _=k (if wd<=y then 0 else x*p2 y%p2 wd)
  by_cases c:wd<=y
  ·rw[aAd c,if_pos c]
  ·have hy2:=bDz (n:=y) (by omega)
   have e:=bX0 r1.1 r1.2 (show 0<=p2 y by omega) hy2
   rw[aAc c,if_neg c,aYr N (by omega) (by omega),aAc (by omega),aDt (by omega) (by omega),bZi _ e.1]
 ·obtain⟨p,x,rfl,rfl⟩:=cAn hl hs
  have s1:=VS1 hs
  have r1:=bXL s1.1.2 s1.2
  have hf:p<=wd:=of_decide_eq_true hf
  have g:=cAm s1.1.1 s1.2
  have g2:=bJV (show p-1<=wd by omega)
  rw[a0,aAe,a0,aAe,bYd N x s1.1.1 s1.1.2 (by omega),aAc (by omega),aDt (by omega) (by omega),bZi _ (by omega),Int.add_emod_right]
  rfl
 ·obtain⟨p,x,rfl,rfl⟩:=cAn hl hs
  rfl
 ·obtain⟨p,x,rfl,rfl⟩:=cAn hl hs
  have s1:=VS1 hs
  have r1:=bXL s1.1.2 s1.2
  have hv:0<=v∧v<=15:=if0 (by decide) (show (if 0<=v∧v<=15 then (0:Int)else 2)=0 from hv)
  have hy:=aQ8 v
  have e1:=Int.ediv_nonneg r1.1 (show 0<=p2 v by omega)
  have e2:=Int.ediv_le_self (p2 v) r1.1
  rw[a0,aAe,aYr N (by omega) (by omega),aAc (by omega),aAc (by omega),cCK _ r1.1,aDt (by omega) (by omega),bZi _ e1]
  rfl
 ·obtain⟨p,q,x,y,rfl,rfl⟩:=bX7 hl hs
  obtain⟨s1,s2⟩:=VS2 hs
  have r1:=bXL s1.1.2 s1.2;have r2:=bXL s2.1.2 s2.2
  have hq:=aQ8 q;have hq2:=bDz s2.1.2
  have e:=bX0 r1.1 r1.2 (show 0<=p2 q by omega) hq2
  rw[a0,aAe,a1,aAe,aYr N (by omega) (by omega),a1,aAe,aDt (x:=x*p2 q) (by omega) (by omega),aDt (by omega) (by omega)]
  rfl
 ·obtain⟨p,q,r,x,y,z,rfl,rfl⟩:=cDb hl hs
  rw[a0,aAe,a1,aAe,a2,aAe]
  show _=k (if x=1 then y else z)
  by_cases c:x=1
  ·rw[aAd c,if_pos c]
  ·rw[aAc c,if_neg c]
 ·obtain⟨p,q,x,y,rfl,rfl⟩:=bX7 hl hs
  obtain⟨s1,s2⟩:=VS2 hs
  have r1:=bXL s1.1.2 s1.2;have r2:=bXL s2.1.2 s2.2
  have hf:wd=1∧p=q:=of_decide_eq_true hf
  rw[a0,aAe,a0,aAe,bYd N x s1.1.1 s1.1.2 (by omega),a1,aAe,a1,aAe,bYd N y s2.1.1 s2.1.2 (by omega),cCY,<- hf.2]
  rfl
 ·obtain⟨p,q,x,y,rfl,rfl⟩:=bX7 hl hs
  rw[a0,aAe,a1,aAe,cCY];rfl
 ·obtain⟨p,q,x,y,rfl,rfl⟩:=bX7 hl hs
  rw[a0,aAe,a1,aAe,cCY];rfl
 ·obtain⟨p,q,x,y,rfl,rfl⟩:=bX7 hl hs
  obtain⟨s1,s2⟩:=VS2 hs
  have r1:=bXL s1.1.2 s1.2;have r2:=bXL s2.1.2 s2.2
  have e:=bX0 r1.1 r1.2 r2.1 r2.2
  rw[a0,aAe,a1,aAe,aAc (by omega),aDt (by omega) (by omega),bZi _ e.1];rfl
 ·obtain⟨p,q,x,y,rfl,rfl⟩:=bX7 hl hs
  obtain⟨s1,s2⟩:=VS2 hs
  have r1:=bXL s1.1.2 s1.2
  have e1:q=wd:=bXs hf (i:=1) (by simp)
  rw[e1]at s2
  have r2:=bYG s2.2
  rw[a0,aAe,a1,aAe,aAc (by omega),aDt (x:=x-y) (by omega) (by omega),aDt (by omega) (by omega),bZi _ (by omega),Int.add_emod_right];rfl
 ·obtain⟨p,q,x,y,rfl,rfl⟩:=bX7 hl hs
  obtain⟨s1,s2⟩:=VS2 hs
  have r1:=bXL s1.1.2 s1.2;have r2:=bXL s2.1.2 s2.2
  rw[a0,aAe,a1,aAe,aAc (by omega),aDt (by omega) (by omega),bZi _ (by omega)];rfl
 ·obtain⟨p,q,x,y,rfl,rfl⟩:=bX7 hl hs
  rfl
 ·obtain⟨p,q,x,y,rfl,rfl⟩:=bX7 hl hs
  rfl
 ·obtain⟨p,q,x,y,rfl,rfl⟩:=bX7 hl hs
  rfl
 ·obtain⟨p,x,rfl,rfl⟩:=cAn hl hs
  have s1:=VS1 hs
  have e1:p=wd:=bXs hf (i:=0) (by simp)
  rw[e1]at s1
  have r1:=bYG s1.2
  rw[a0,aAe,aDt (x:=p2 wd-1) (by omega) (by omega),aDt (by omega) (by omega)];rfl
 ·rfl
theorem cA4 (N:Nat)(k0:List Nd->List Int->Int->List Int->List Int->List Int->Option R)(nodes:List Nd)(lv out:List Int){i:Nat}{x:Nd}(hx:at? nodes (i:Int)=some x)(hi:i<nodes.length)(ho:i<=out.length)(ha:x.2.2.1.length<=3):∀ (r:List Int) (n j:Nat) (a w:List Int),x.2.2.1.drop j=r->r.length<n->a.length<=j->w.length<=j->aNS i r=false ->
  bW4 N k0 n nodes lv i j out a w=k0 nodes lv i out (a++r.map fun y=>w0 out y.toNat) (w++r.map (aKu nodes))
 | [],n,j,a,w,h,hn,h1,h2,hod=>by
  obtain⟨n,rfl⟩:=sc hn
  rw[bW4,hx,aAe,aAc (aAm h),List.map_nil,List.append_nil,List.map_nil,List.append_nil]
 | y :: r,n,j,a,w,h,hn,h1,h2,hod=>by
  obtain⟨n,rfl⟩:=sc hn
  obtain⟨q1,q2,q3⟩:=aAh h
  unfold aNS at hod
  rw[List.any_cons,Bool.or_eq_false_iff]at hod
  have hy:0<=y∧y<=(i:Int)-1:=by simpa using hod.1
  obtain⟨b,rfl⟩:∃ b:Nat,y=b:=⟨y.toNat,by omega⟩
  have hb1:b<nodes.length:=by omega
  have hb2:b<out.length:=by omega
  rw[bW4]
  simp only[hx,aAe,q2]
  rw[aAd (by omega),aSL (by omega) (by omega),cond_true,Int.toNat_natCast,List.getElem?_eq_getElem hb2,aAe,aBs (by omega),cond_true,aHb hb1,aAe,aBs (by omega),cond_true,aAl (by omega)]
  refine (cA4 N k0 nodes lv out hx hi ho ha r n (j+1) _ _ q3 (by simp at hn;omega) (by simp;omega) (by simp;omega) hod.2).trans ?_
  rw[List.map_cons,List.map_cons,List.append_assoc,List.append_assoc,Int.toNat_natCast,cAt hb2]
  unfold aKu
  rw[Int.toNat_natCast,List.getElem?_eq_getElem hb1]
  rfl
theorem cCf {l m:List Int}{i:Nat}(h:i<l.length):w0 (l++m) i=w0 l i:=by unfold w0;rw[List.getElem?_append_left h]
theorem bZd (N:Nat)(hN:1000<=N)(k:List Int->Option R){lw lv:List Int}(hL:LV lw lv){nodes:List Nd}(hn:nodes.length<=1000000):∀ (r:List Nd) (n i:Nat) (acc:List Int),nodes.drop i=r->r.length<n->VI lw nodes i acc->aGZ lw nodes i r=0 ->
  bWV N k n nodes lv i (acc++List.replicate r.length 0)=k (nvG lv nodes r acc)
 | [],n,i,acc,h,hr,hv,hc=>by
  obtain⟨n,rfl⟩:=sc hr
  rw[bWV,aAc (aAm h)]
  show k (acc++[])=k acc
  rw[List.append_nil]
 | x :: r,n,i,acc,h,hr,hv,hc=>by
  obtain⟨n,rfl⟩:=sc hr
  obtain⟨h1,h2,h3⟩:=aAh h
  rw[aIL,f1_0]at hc
  obtain⟨g1,g2,g3,g4,g5,g6⟩:=aPs hc.1
  have hlen:=hv.len
  have ha:=aZS x.1
  rw[bWV,aAd (by omega)]
  refine (cA4 N _ nodes lv _ h2 h1 (by simp;omega) (by omega) x.2.2.1 N 0 [] [] rfl (by omega) (by simp) (by simp) g4).trans ?_
  try dsimp only
  rw[List.nil_append,List.nil_append,h2,aAe]
  have em:(x.2.2.1.map fun y=>w0 (acc++List.replicate (x :: r).length 0) y.toNat)=x.2.2.1.map fun y=>w0 acc y.toNat:=by
   refine List.map_congr_left fun y hy=>?_
   have:=List.any_eq_false.1 g4 y hy
   have:0<=y∧y<=(i:Int)-1:=by simpa using this
   exact cCf (by omega)
  have fin:∀ z,z=nv1 lv nodes acc x->(bif inR (i:Int) (acc++List.replicate (x :: r).length 0).length then (((acc++List.replicate (x :: r).length 0)[((i:Int)).toNat]?).bind fun x16=>(bWV N k n nodes lv (w64 ((i:Int)+1)) (List.set (acc++List.replicate (x :: r).length 0) ((i:Int)).toNat z)))else none)=k (nvG lv nodes (x :: r) acc):=by
   rintro z rfl
   have hl:i<(acc++List.replicate (x :: r).length 0).length:=by simp;omega
   rw[aSL (by omega) (by omega),cond_true,Int.toNat_natCast,List.getElem?_eq_getElem hl,aAe,aAl (by omega),bYz,<- bZd N hN k hL hn r n (i+1) _ h3 (by simp at hr;omega) (bYY hL hv h hc.1) hc.2]
   congr 1
   rw[List.set_append_right _ _ (by omega),hlen,Nat.sub_self,List.append_assoc]
   rfl
  by_cases c:x.1=1
  ·have hw:=of_decide_eq_true g2
   unfold bXz
   rw[aYr N (by omega) (by omega),c]
   simp only[Int.reduceEq,decide_true,decide_false,cond_true,cond_false]
   rw[c]at g5
   have h5:(if 0<=x.2.2.2∧x.2.2.2<=(lw.length:Int)-1 then (if lw[x.2.2.2.toNat]? = some x.2.1 then (0:Int)else 25)else 6)=0:=g5
   have hb:0<=x.2.2.2∧x.2.2.2<=(lw.length:Int)-1:=by
    split at h5
    ·assumption
    ·cases h5
   have hll:=hL.1
   obtain⟨b,hb2⟩:∃ b:Nat,x.2.2.2=b:=⟨x.2.2.2.toNat,by omega⟩
   rw[hb2,aLX (w:=lv) (by omega),aAe]
   refine fin _ ?_
   unfold nv1
   rw[if_pos c,hb2,Int.toNat_natCast]
  ·rw[em,cCH N _ lv g1 c g2 (by rw[List.length_map];exact g3) ((bYf c).trans g5) g6 (bYW hv g4)]
   refine fin _ ?_
   unfold nv1
   rw[if_neg c]
theorem cAk {N:Nat}(hN:1000<=N){lw lv:List Int}(hL:LV lw lv){nodes:List Nd}(hc:aQR lw nodes=0)(k:List Int->Option R):bXj N nodes lv k=k (nvG lv nodes nodes []):=by
 obtain⟨h1,h2,h3,h4⟩:=aOj hc
 unfold bXj
 rw[aAd (by omega),aBs (by omega),cond_true]
 exact bZd N hN k hL (by omega) nodes N 0 [] rfl (by omega) (cC9 lw nodes) h4
section
variable {N:Nat} {nm:ByteArray} {ins:List aAp} {els:List aAP} {nodes:List Nd} {rules:List aA1} {outs:List aAp} {attrs:List aCE}
theorem bX4 (k:List Int->Option R)(hl:els.length<=1000000):∀ (r:List aAP) (n i:Nat) (acc:List Int),els.drop i=r->r.length<n->acc.length=i ->
  bXi N k n i nm ins els nodes rules outs attrs (acc++List.replicate r.length 0)=k (acc++elI r)
 | [],n,i,acc,h,hr,ha=>by
  obtain⟨n,rfl⟩:=sc hr
  rw[bXi,aAc (aAm h)];rfl
 | x :: r,n,i,acc,h,hr,ha=>by
  obtain⟨n,rfl⟩:=sc hr
  obtain⟨h1,h2,h3⟩:=aAh h
  have hl':i<(acc++List.replicate (x :: r).length 0).length:=by simp;omega
  rw[bXi,aAd (by omega),h2,aAe,aSL (by omega) (by omega),cond_true,Int.toNat_natCast,List.getElem?_eq_getElem hl',aAe,aAl (by omega),List.set_append_right _ _ (by omega),ha,Nat.sub_self]
  have:=bX4 k hl r n (i+1) (acc++[x.2.2.2.1]) h3 (by simp at hr;omega) (by simp[ha])
  rw[List.append_assoc,List.append_assoc]at this
  exact this
theorem cB5 (hN:els.length<N)(hl:els.length<=1000000)(k:List Int->Option R):bXF N nm ins els nodes rules outs attrs k=k (elI els):=by
 unfold bXF
 rw[aAd (by omega),aBs (by omega),cond_true]
 exact bX4 k hl els N 0 [] rfl (by omega) rfl
theorem cAA {a b:List Int}(ha:a.length<=1000)(hb:b.length<=1000)(k:List Int->Option R):bXk N a b k=k (a++b):=by
 unfold bXk
 rw[aK2 N a (by omega),aBs (by omega),cond_true]
theorem bZC (hv:DV ins els nodes rules outs){inp s:List Int}(hi:LV (inW ins) inp)(hs:LV (elW els) s):inp.length<=1000∧s.length<=1000:=by
 have h1:=hi.1;have h2:=hs.1;have h3:=(aOj hv.chk).1
 unfold aIV at h3
 unfold inW at h1
 unfold elW at h2
 rw[List.length_append,<- h1,<- h2]at h3
 omega
theorem cAo (hN:1000<=N)(hv:DV ins els nodes rules outs){inp s:List Int}(hi:LV (inW ins) inp)(hs:LV (elW els) s){a:Nat}(ha:a<rules.length)(k:Bool->Option R) :
  bXD N nm ins els nodes rules outs attrs a inp s k=k (decide (w0 (dV nodes inp s) rules[a].2.1.toNat=1)):=by
 obtain⟨l1,l2⟩:=bZC hv hi hs
 have hg:=(hv.rulesW _ (List.getElem_mem ha)).1
 unfold aFw at hg
 rw[Bool.and_eq_true]at hg
 unfold bXD
 rw[cAA l1 l2,cAk hN (bZg hi hs) hv.chk,aHb ha,aAe,show nvG (inp++s) nodes nodes []=dV nodes inp s from rfl,bZh hv hi hs hg.1,aAe]
theorem bYg (k:List Int->Option R)(V:List Int)(l:List WrT)(hl:l.length<=1000000)(m:Nat)(hV:∀ x,x∈l->(0<=x.1∧x.1<=(m:Int)-1)∧at? V x.2.1=some (w0 V x.2.1.toNat)∧at? V x.2.2=some (w0 V x.2.2.toNat)):∀ (r:List WrT) (n i:Nat) (s:List Int),l.drop i=r->r.length<n->s.length=m ->
  bW3 N k n V l i s=k (hap V r s)
 | [],n,i,s,h,hn,ha=>by
  obtain⟨n,rfl⟩:=sc hn
  rw[bW3,aAc (aAm h)];rfl
 | x :: r,n,i,s,h,hn,ha=>by
  obtain⟨n,rfl⟩:=sc hn
  obtain⟨h1,h2,h3⟩:=aAh h
  have hx:=hV x (List.mem_of_mem_drop (h▸List.mem_cons_self:x∈l.drop i))
  rw[bW3,aAd (by omega)]
  simp only[h2,aAe,hx.2.1,hx.2.2]
  rw[aAl (by omega)]
  by_cases c:w0 V x.2.1.toNat=1
  ·rw[aAd c,aSL hx.1.1 (by omega),cond_true,List.getElem?_eq_getElem (by omega),aAe,bYg k V l hl m hV r n (i+1) _ h3 (by simp at hn;omega) (by simpa using ha)]
   show _=k (hap V r (if _ then _ else _))
   rw[if_pos c]
  ·rw[aAc c,bYg k V l hl m hV r n (i+1) _ h3 (by simp at hn;omega) ha]
   show _=k (hap V r (if _ then _ else _))
   rw[if_neg c]
theorem bZP (hN:1000<=N)(hv:DV ins els nodes rules outs){inp s:List Int}(hi:LV (inW ins) inp)(hs:LV (elW els) s){a:Nat}(ha:a<rules.length)(k:List Int->Option R) :
  bXy N nm ins els nodes rules outs attrs a inp s k=k (hap (dV nodes inp s) rules[a].2.2 s):=by
 obtain⟨l1,l2⟩:=bZC hv hi hs
 have hx:=hv.rulesW _ (List.getElem_mem ha)
 have hsl:=hs.1
 unfold elW at hsl
 rw[List.length_map]at hsl
 unfold bXy
 rw[cAA l1 l2,cAk hN (bZg hi hs) hv.chk,aK2 N s (by omega),aHb ha,aAe,show nvG (inp++s) nodes nodes []=dV nodes inp s from rfl]
 refine bYg k _ _ (by omega) els.length (fun y hy=>?_) _ N 0 s rfl (by omega) hsl
 obtain⟨q1,q2,q3,q4⟩:=hx.2.2 y hy
 unfold aFw at q2
 rw[Bool.and_eq_true]at q2
 exact⟨q1,bZh hv hi hs q2.1,bZh hv hi hs q3⟩
end
theorem bBE (N:Nat)(k0:Bool->Option R)(k1:ByteArray->Int->Option R)(s:ByteArray)(i:Nat)(c:Nat)(l:Bool):aA3 N k0 k1 s i c l=if (l||(!decide (i=0)&&decide (c=95∨(48<=c∧c<=57))))=true then k1 s i else k0 false:=by
 unfold aA3
 cases l
 ·rw[Bool.not_false,cond_true]
  by_cases h0:i=0
  ·rw[aAd (by omega),if_neg (by simp[h0])]
  rw[aAc (by omega)]
  by_cases q:c=95
  ·rw[aAc (by omega),if_pos (by simp[h0,q])]
  rw[aAd (by omega)]
  by_cases q1:48<=c
  ·rw[aAc (by omega)]
   by_cases q2:c<=57
   ·rw[aAc (by omega),if_pos (by simp[h0,q1,q2])]
   ·rw[aAd (by omega),if_neg (by simp[h0,q];omega)]
  ·rw[aAd (by omega),if_neg (by simp[h0,q];omega)]
 ·rfl
theorem aMr (N:Nat)(k0:Bool->Option R)(k1:Option R)(l:List UInt8)(hl:l.length<=1000):∀ (r:List UInt8) (n i:Nat),l.drop i=r->r.length<n->aAC N k0 k1 n (Tx l) i=if nmL (decide (i=0)) r=true then k1 else k0 false
 | [],n,i,h,hn=>by
  obtain⟨n,rfl⟩:=sc hn
  rw[aAC,aLG,aAc (aAm h)];rfl
 | c :: r,n,i,h,hn=>by
  obtain⟨n,rfl⟩:=sc hn
  obtain⟨h1,h2,h3⟩:=aAh h
  have hc:l[i]=c:=by
   have:=aHb h1
   rw[h2]at this
   exact (Option.some.inj this).symm
  have step:aAC N k0 k1 n (Tx l) (w64 ((i:Int)+1))=if nmL false r=true then k1 else k0 false:=by
   rw[aAl (by omega)]
   exact aMr N k0 k1 l hl r n (i+1) h3 (by simp at hn;omega)
  have J:∀ (b:Bool),b=bGz c.toNat->aA3 N k0 (fun z3 z4=>(aAC N k0 k1 n z3 (w64 (z4+1)))) (Tx l) i (c.toNat:Nat) b=if nmL (decide (i=0)) (c :: r)=true then k1 else k0 false:=by
   rintro b rfl
   rw[bBE N k0 _ (Tx l) i c.toNat,aQD]
   by_cases q:(bGz c.toNat||(!decide (i=0)&&decide (c.toNat=95∨(48<=c.toNat∧c.toNat<=57))))=true
   ·rw[if_pos q,step,q,Bool.true_and]
   ·rw[if_neg q,Bool.eq_false_iff.2 q];rfl
  rw[aAC,aLG,aAd (by omega),aSG h1,aAe,hc]
  unfold bGz at J
  by_cases c1:97<=c.toNat
  ·rw[aAd (by omega)]
   by_cases c2:c.toNat<=122
   ·rw[aAd (by omega)];exact J true (decide_eq_true (by omega)).symm
   ·rw[aAc (by omega),aAd (by omega)];exact J _ (decide_eq_decide.2 (by omega))
  ·rw[aAc (by omega)]
   by_cases c3:65<=c.toNat
   ·rw[aAd (by omega)];exact J _ (decide_eq_decide.2 (by omega))
   ·rw[aAc (by omega)];exact J false (decide_eq_false (by omega)).symm
theorem aVA {N:Nat}(hN:1000<=N)(s:ByteArray)(k:Bool->Option R):aBW N s k=k (nmB s):=by
 have e:=bGb s
 have hl:s.data.toList.length=s.size:=by
  conv=>rhs;rw[e]
  exact (aLG _).symm
 unfold aBW nmB
 by_cases h1:s.size<1
 ·rw[aAd (by omega),decide_eq_false (show ¬(1<=s.size∧s.size<=16) by omega),Bool.and_false]
 rw[aAc (by omega)]
 by_cases h2:16<s.size
 ·rw[aAd (by omega),decide_eq_false (show ¬(1<=s.size∧s.size<=16) by omega),Bool.and_false]
 rw[aAc (by omega),decide_eq_true (show 1<=s.size∧s.size<=16 by omega),Bool.and_true]
 have:=aMr N k (k true) s.data.toList (by omega) s.data.toList N 0 rfl (by omega)
 rw[<- e,decide_eq_true rfl]at this
 refine this.trans ?_
 cases nmL true s.data.toList <;> rfl
def BE {α:Type}(f:α->ByteArray)(l:List α)(i:Nat)(E:List ByteArray)(S:List ByteArray):Prop:=∀ a,inS a S=true↔(inS a E=true∨∃ j x,j<i∧l[j]? = some x∧f x=a)
theorem bLM {α:Type}{f:α->ByteArray}{l:List α}{S:List ByteArray}:BE f l 0 S S:=fun a=>⟨fun h=>.inl h,fun h=>h.elim id fun⟨j,x,hj,_⟩=>absurd hj (by omega)⟩
theorem aNc {α:Type}{f:α->ByteArray}{l:List α}{i:Nat}{E S:List ByteArray}{x:α}{r:List α}(h:BE f l i E S)(hd:l.drop i=x :: r):BE f l (i+1) E (f x :: S):=by
 intro a
 have hl:=(aAh hd).1
 have hx:l[i]? = some x:=by
  rw[aI8 hl]at hd
  injection hd with h1 _
  rw[List.getElem?_eq_getElem hl,h1]
 rw[aM1,Bool.or_eq_true,h a]
 constructor
 ·rintro (h1 | h1 | ⟨j,y,hj,hy,hf⟩)
  ·exact .inr ⟨i,x,by omega,hx,(of_decide_eq_true h1).symm⟩
  ·exact .inl h1
  ·exact .inr ⟨j,y,by omega,hy,hf⟩
 ·rintro (h1 | ⟨j,y,hj,hy,hf⟩)
  ·exact .inr (.inl h1)
  ·by_cases e:j=i
   ·subst e
    rw[hx]at hy
    injection hy with hy
    subst hy
    exact .inl (decide_eq_true hf.symm)
   ·exact .inr (.inr ⟨j,y,by omega,hy,hf⟩)
def bef {α:Type}(f:α->ByteArray)(l:List α)(i:Nat)(a:ByteArray):Bool:=(l.take i).any fun x=>decide (f x=a)
theorem bJG {α:Type}{f:α->ByteArray}{l:List α}{i:Nat}{S:List ByteArray}(h:BE f l i [] S)(a:ByteArray):inS a S=bef f l i a:=by
 have h1:=h a
 have h2:bef f l i a=true↔∃ j x,j<i∧l[j]? = some x∧f x=a:=by
  unfold bef
  rw[List.any_eq_true]
  constructor
  ·rintro ⟨x,hx,hf⟩
   obtain⟨j,hj,e⟩:=List.getElem_of_mem hx
   rw[List.length_take]at hj
   rw[List.getElem_take]at e
   exact⟨j,x,by omega,by rw[List.getElem?_eq_getElem (by omega),e],of_decide_eq_true hf⟩
  ·rintro ⟨j,x,hj,hx,hf⟩
   have hl:j<l.length:=by
    by_cases q:j<l.length
    ·exact q
    ·rw[List.getElem?_eq_none (by omega)]at hx;cases hx
   rw[List.getElem?_eq_getElem hl]at hx
   injection hx with hx
   exact⟨x,List.mem_iff_getElem.2 ⟨j,by rw[List.length_take];omega,by rw[List.getElem_take,hx]⟩,decide_eq_true hf⟩
 have h3:inS a S=true↔bef f l i a=true:=by
  rw[h1,h2]
  exact⟨fun h=>h.elim (fun h=>by cases h) id,.inr⟩
 cases q:inS a S <;> cases q2:bef f l i a <;> simp_all
theorem aJc {α:Type}{l:List α}{i j:Nat}{y:α}{r:List α}(h:(l.take i).drop j=y :: r):(j:Int)<(i:Int)∧at? l (j:Int)=some y∧(l.take i).drop (j+1)=r:=by
 obtain⟨h1,h2,h3⟩:=aAh h
 have hl:=h1
 rw[List.length_take]at hl
 refine⟨by omega,?_,h3⟩
 rw[aHb h1,List.getElem_take]at h2
 rw[aHb (show j<l.length by omega),h2]
theorem aKx {α:Type}{l:List α}{i j:Nat}(hi:i<=l.length)(h:(l.take i).drop j=[]):¬((j:Int)<(i:Int)):=by
 have:=List.drop_eq_nil_iff.1 h
 rw[List.length_take]at this;omega
theorem aPg (N:Nat)(k0:Int->Int->Option R)(k1:List aAp->Int->Option R)(l:List aAp)(hl:l.length<=1000000){i:Nat}{x:aAp}(hx:at? l (i:Int)=some x)(hi:i<l.length):∀ (r:List aAp) (n j:Nat),(l.take i).drop j=r->r.length<n ->
  aBJ N k0 k1 n l i j=if (r.any fun y=>decide (y.1=x.1))=true then k0 i 5 else k1 l i
 | [],n,j,h,hn=>by
  obtain⟨n,rfl⟩:=sc hn
  rw[aBJ,aAc (aKx (by omega) h)];rfl
 | y :: r,n,j,h,hn=>by
  obtain⟨n,rfl⟩:=sc hn
  obtain⟨h1,h2,h3⟩:=aJc h
  rw[aBJ,aAd h1,h2,aAe,hx,aAe,List.any_cons]
  by_cases q:y.1=x.1
  ·rw[aAd q,decide_eq_true q];rfl
  ·rw[aAc q,decide_eq_false q,Bool.false_or,aAl (by omega)]
   exact aPg N k0 k1 l hl hx hi r n (j+1) h3 (by simp at hn;omega)
theorem aNI {α:Type}{f:α->ByteArray}{l:List α}{i:Nat}{S:List ByteArray}(h:BE f l i [] S)(s:ByteArray):aNU S s=if nmB s=true then (if bef f l i s=true then 5 else 0)else 4:=by
 unfold aNU;rw[bJG h]
theorem aLN {N:Nat}(hN:1000<=N)(k0:Int->Int->Option R)(k1:Option R)(l:List aAp)(hl:l.length<=100):∀ (r:List aAp) (n i:Nat) (S:List ByteArray),l.drop i=r->r.length<n->BE (·.1) l i [] S ->
  ∃ j:Int,aBM N k0 k1 n l i=if aFr S r=0 then k1 else k0 j (aFr S r)
 | [],n,i,S,h,hn,hB=>by
  obtain⟨n,rfl⟩:=sc hn
  exact⟨0,by rw[aBM,aAc (aAm h)];rfl⟩
 | x :: r,n,i,S,h,hn,hB=>by
  obtain⟨n,rfl⟩:=sc hn
  obtain⟨h1,h2,h3⟩:=aAh h
  obtain⟨j,ih⟩:=aLN hN k0 k1 l hl r n (i+1) (x.1 :: S) h3 (by simp at hn;omega) (aNc hB h)
  rw[show aFr S (x :: r)=f1 (f1 (aNU S x.1) (if wOK x.2=true then 0 else 2)) (aFr (x.1 :: S) r)from rfl,aNI hB]
  rw[aBM,aAd (by omega),h2,aAe,aVA hN]
  cases c1:nmB x.1
  ·exact⟨i,rfl⟩
  try dsimp only
  rw[Bool.not_true,cond_false,show (0:Int)=((0:Nat):Int)from rfl,aPg N k0 _ l (by omega) h2 h1 (l.take i) N 0 rfl (by rw[List.length_take];omega)]
  rw[show (l.take i).any (fun y=>decide (y.1=x.1))=bef (·.1) l i x.1 from rfl]
  cases c2:bef (·.1) l i x.1
  ·rw[if_neg (by simp)]
   try dsimp only
   rw[h2,aAe,aSu]
   cases c3:wOK x.2
   ·exact⟨i,rfl⟩
   ·refine⟨j,?_⟩
    try dsimp only
    rw[Bool.not_true,cond_false,aAl (by omega),ih]
    rfl
  ·exact⟨i,rfl⟩
theorem bJl {N:Nat}(hN:1000<=N)(l:List aAp)(k:Int->Int->Option R):∃ j:Int,aDD N l k=k j (f1 (le8 l.length 12) (aFr [] l)):=by
 unfold aDD le8
 by_cases h:12<l.length
 ·exact⟨0,by rw[aAd (by omega),if_neg (by omega)];rfl⟩
 ·obtain⟨j,e⟩:=aLN hN k (k 0 0) l (by omega) l N 0 [] rfl (by omega) bLM
  rw[Int.natCast_zero]at e
  rw[aAc (by omega),if_pos (by omega),aGq,e]
  by_cases c:aFr [] l=0
  ·exact⟨0,by rw[if_pos c,c]⟩
  ·exact⟨j,by rw[if_neg c]⟩
theorem aQ9 (N:Nat)(k0:Int->Int->Option R)(k1:List Nd->List aAp->Int->Option R)(nodes:List Nd)(l:List aAp)(hl:l.length<=1000000){i:Nat}{x:aAp}(hx:at? l (i:Int)=some x)(hi:i<l.length):∀ (r:List aAp) (n j:Nat),(l.take i).drop j=r->r.length<n ->
  aBg N k0 k1 n nodes l i j=if (r.any fun y=>decide (y.1=x.1))=true then k0 i 5 else k1 nodes l i
 | [],n,j,h,hn=>by
  obtain⟨n,rfl⟩:=sc hn
  rw[aBg,aAc (aKx (by omega) h)];rfl
 | y :: r,n,j,h,hn=>by
  obtain⟨n,rfl⟩:=sc hn
  obtain⟨h1,h2,h3⟩:=aJc h
  rw[aBg,aAd h1,h2,aAe,hx,aAe,List.any_cons]
  by_cases q:y.1=x.1
  ·rw[aAd q,decide_eq_true q];rfl
  ·rw[aAc q,decide_eq_false q,Bool.false_or,aAl (by omega)]
   exact aQ9 N k0 k1 nodes l hl hx hi r n (j+1) h3 (by simp at hn;omega)
theorem aMl {N:Nat}(hN:1000<=N)(k0:Int->Int->Option R)(k1:Option R){nodes:List Nd}(hn:nodes.length<=1000000)(l:List aAp)(hl:l.length<=100):∀ (r:List aAp) (n i:Nat) (S:List ByteArray),l.drop i=r->r.length<n->BE (·.1) l i [] S ->
  ∃ j:Int,aBi N k0 k1 n nodes l i=if aHW nodes S r=0 then k1 else k0 j (aHW nodes S r)
 | [],n,i,S,h,hr,hB=>by
  obtain⟨n,rfl⟩:=sc hr
  exact⟨0,by rw[aBi,aAc (aAm h)];rfl⟩
 | x :: r,n,i,S,h,hr,hB=>by
  obtain⟨n,rfl⟩:=sc hr
  obtain⟨h1,h2,h3⟩:=aAh h
  obtain⟨j,ih⟩:=aMl hN k0 k1 hn l hl r n (i+1) (x.1 :: S) h3 (by simp at hr;omega) (aNc hB h)
  rw[show aHW nodes S (x :: r)=f1 (f1 (aNU S x.1) (if aNm nodes x.2=true then 0 else 9)) (aHW nodes (x.1 :: S) r)from rfl,aNI hB]
  rw[aBi,aAd (by omega),h2,aAe,aVA hN]
  cases c1:nmB x.1
  ·exact⟨i,rfl⟩
  try dsimp only
  rw[Bool.not_true,cond_false,show (0:Int)=((0:Nat):Int)from rfl,aQ9 N k0 _ nodes l (by omega) h2 h1 (l.take i) N 0 rfl (by rw[List.length_take];omega)]
  rw[show (l.take i).any (fun y=>decide (y.1=x.1))=bef (·.1) l i x.1 from rfl]
  cases c2:bef (·.1) l i x.1
  ·rw[if_neg (by simp)]
   try dsimp only
   rw[h2,aAe,aPX N hn]
   cases c3:aNm nodes x.2
   ·exact⟨i,rfl⟩
   ·refine⟨j,?_⟩
    try dsimp only
    rw[Bool.not_true,cond_false,aAl (by omega),ih]
    rfl
  ·exact⟨i,rfl⟩
theorem bNj {N:Nat}(hN:1000<=N){nodes:List Nd}(hn:nodes.length<=1000000)(l:List aAp)(k:Int->Int->Option R):∃ j:Int,aCx N nodes l k=k j (f1 (le8 l.length 12) (aHW nodes [] l)):=by
 unfold aCx le8
 by_cases h:12<l.length
 ·exact⟨0,by rw[aAd (by omega),if_neg (by omega)];rfl⟩
 ·obtain⟨j,e⟩:=aMl hN k (k 0 0) hn l (by omega) l N 0 [] rfl (by omega) bLM
  rw[Int.natCast_zero]at e
  rw[aAc (by omega),if_pos (by omega),aGq,e]
  by_cases c:aHW nodes [] l=0
  ·exact⟨0,by rw[if_pos c,c]⟩
  ·exact⟨j,by rw[if_neg c]⟩
theorem bNp {α:Type}{f:α->ByteArray}{l:List α}{i:Nat}{E S:List ByteArray}(h:BE f l i E S)(a:ByteArray):inS a S=(bef f l i a||inS a E):=by
 have h1:=h a
 have h2:bef f l i a=true↔∃ j x,j<i∧l[j]? = some x∧f x=a:=by
  unfold bef
  rw[List.any_eq_true]
  constructor
  ·rintro ⟨x,hx,hf⟩
   obtain⟨j,hj,e⟩:=List.getElem_of_mem hx
   rw[List.length_take]at hj
   rw[List.getElem_take]at e
   exact⟨j,x,by omega,by rw[List.getElem?_eq_getElem (by omega),e],of_decide_eq_true hf⟩
  ·rintro ⟨j,x,hj,hx,hf⟩
   have hl:j<l.length:=by
    by_cases q:j<l.length
    ·exact q
    ·rw[List.getElem?_eq_none (by omega)]at hx;cases hx
   rw[List.getElem?_eq_getElem hl]at hx
   injection hx with hx
   exact⟨x,List.mem_iff_getElem.2 ⟨j,by rw[List.length_take];omega,by rw[List.getElem_take,hx]⟩,decide_eq_true hf⟩
 have h3:inS a S=true↔(bef f l i a||inS a E)=true:=by
  rw[h1,Bool.or_eq_true,h2]
  exact⟨fun h=>h.symm,fun h=>h.symm⟩
 exact Bool.eq_iff_iff.2 h3
theorem aQx (a:ByteArray):∀ (l:List aAp) (S:List ByteArray),inS a (aLo S l)=((l.any fun y=>decide (y.1=a))||inS a S)
 | [],S=>rfl
 | x :: r,S=>by
  show inS a (aLo (x.1 :: S) r)=_
  rw[aQx a r,aM1,List.any_cons]
  have e:decide (a=x.1)=decide (x.1=a):=decide_eq_decide.2 ⟨Eq.symm,Eq.symm⟩
  rw[e]
  cases decide (x.1=a) <;> cases r.any _ <;> rfl
theorem aOK (N:Nat)(k0:Int->Int->Option R)(k1:List aAp->List aAP->Int->Option R)(ins:List aAp)(l:List aAP)(hl:l.length<=1000000){i:Nat}{x:aAP}(hx:at? l (i:Int)=some x)(hi:i<l.length):∀ (r:List aAP) (n j:Nat),(l.take i).drop j=r->r.length<n ->
  aBc N k0 k1 n ins l i j=if (r.any fun y=>decide (y.1=x.1))=true then k0 i 5 else k1 ins l i
 | [],n,j,h,hn=>by
  obtain⟨n,rfl⟩:=sc hn
  rw[aBc,aAc (aKx (by omega) h)];rfl
 | y :: r,n,j,h,hn=>by
  obtain⟨n,rfl⟩:=sc hn
  obtain⟨h1,h2,h3⟩:=aJc h
  rw[aBc,aAd h1,h2,aAe,hx,aAe,List.any_cons]
  by_cases q:y.1=x.1
  ·rw[aAd q,decide_eq_true q];rfl
  ·rw[aAc q,decide_eq_false q,Bool.false_or,aAl (by omega)]
   exact aOK N k0 k1 ins l hl hx hi r n (j+1) h3 (by simp at hn;omega)
theorem aMC (N:Nat)(k0:Int->Int->Option R)(k1:List aAp->List aAP->Int->Option R)(ins:List aAp)(hi:ins.length<=1000000)(l:List aAP)(i:Nat){x:aAP}(hx:at? l (i:Int)=some x):∀ (r:List aAp) (n j:Nat),ins.drop j=r->r.length<n ->
  aBd N k0 k1 n ins l i j=if (r.any fun y=>decide (y.1=x.1))=true then k0 i 5 else k1 ins l i
 | [],n,j,h,hn=>by
  obtain⟨n,rfl⟩:=sc hn
  rw[aBd,aAc (aAm h)];rfl
 | y :: r,n,j,h,hn=>by
  obtain⟨n,rfl⟩:=sc hn
  obtain⟨h1,h2,h3⟩:=aAh h
  rw[aBd,aAd (by omega),h2,aAe,hx,aAe,List.any_cons]
  by_cases q:y.1=x.1
  ·rw[aAd q,decide_eq_true q];rfl
  ·rw[aAc q,decide_eq_false q,Bool.false_or,aAl (by omega)]
   exact aMC N k0 k1 ins hi l i hx r n (j+1) h3 (by simp at hn;omega)
theorem aLJ {N:Nat}(hN:1000<=N)(k0:Int->Int->Option R)(k1:Option R)(ins:List aAp)(hi:ins.length<=100)(l:List aAP)(hl:l.length<=100):∀ (r:List aAP) (n i:Nat) (S:List ByteArray),l.drop i=r->r.length<n->BE (·.1) l i (aLo [] ins) S ->
  ∃ j:Int,aBb N k0 k1 n ins l i=if aFn S r=0 then k1 else k0 j (aFn S r)
 | [],n,i,S,h,hn,hB=>by
  obtain⟨n,rfl⟩:=sc hn
  exact⟨0,by rw[aBb,aAc (aAm h)];rfl⟩
 | x :: r,n,i,S,h,hn,hB=>by
  obtain⟨n,rfl⟩:=sc hn
  obtain⟨h1,h2,h3⟩:=aAh h
  obtain⟨j,ih⟩:=aLJ hN k0 k1 ins hi l hl r n (i+1) (x.1 :: S) h3 (by simp at hn;omega) (aNc hB h)
  have hS:inS x.1 S=(bef (·.1) l i x.1||(ins.any fun y=>decide (y.1=x.1))):=by
   rw[bNp hB,aQx]
   rw[show inS x.1 []=false from rfl,Bool.or_false]
  rw[show aFn S (x :: r)=f1 (f1 (f1 (aNU S x.1) (f1 (if 0<=x.2.1∧x.2.1<=1 then 0 else 15) (if wOK x.2.2.1=true then 0 else 2))) (if vok x.2.2.1 x.2.2.2.1=true∧(0<=x.2.2.2.2∧x.2.2.2.2<=3)then 0 else 2)) (aFn (x.1 :: S) r)from rfl]
  unfold aNU
  rw[hS,aBb,aAd (by omega),h2,aAe,aVA hN]
  cases c1:nmB x.1
  ·exact⟨i,rfl⟩
  try dsimp only
  rw[Bool.not_true,cond_false,show (0:Int)=((0:Nat):Int)from rfl,aOK N k0 _ ins l (by omega) h2 h1 (l.take i) N 0 rfl (by rw[List.length_take];omega)]
  rw[show (l.take i).any (fun y=>decide (y.1=x.1))=bef (·.1) l i x.1 from rfl]
  cases c2:bef (·.1) l i x.1
  rotate_left
  ·exact⟨i,rfl⟩
  rw[if_neg (by simp)]
  try dsimp only
  rw[aMC N k0 _ ins (by omega) l i h2 ins N 0 rfl (by omega)]
  cases c3:ins.any fun y=>decide (y.1=x.1)
  rotate_left
  ·exact⟨i,rfl⟩
  rw[if_neg (by simp)]
  try dsimp only
  simp only[h2,aAe]
  rw[aD5]
  by_cases c4:((0:Nat):Int)<=x.2.1∧x.2.1<=1
  rotate_left
  ·refine⟨i,?_⟩
   rw[decide_eq_false c4,if_neg c4];rfl
  rw[decide_eq_true c4,if_pos c4]
  try dsimp only
  rw[Bool.not_true,cond_false,aSu]
  cases c5:wOK x.2.2.1
  ·exact⟨i,rfl⟩
  have hw:=of_decide_eq_true c5
  try dsimp only
  rw[Bool.not_true,cond_false,aSq N _ (by omega) (by omega)]
  cases c6:vok x.2.2.1 x.2.2.2.1
  ·refine⟨i,?_⟩
   rw[if_neg (c:=false=true∧_) (by simp)];rfl
  try dsimp only
  rw[Bool.not_true,cond_false,aD5]
  by_cases c7:((0:Nat):Int)<=x.2.2.2.2∧x.2.2.2.2<=3
  rotate_left
  ·refine⟨i,?_⟩
   rw[decide_eq_false c7,if_neg (show ¬(true=true∧(((0:Nat):Int)<=x.2.2.2.2∧x.2.2.2.2<=3))from fun h=>c7 h.2)];rfl
  refine⟨j,?_⟩
  rw[decide_eq_true c7,if_pos (c:=true=true∧_) ⟨rfl,c7⟩]
  try dsimp only
  rw[Bool.not_true,cond_false,aAl (by omega),ih]
  rfl
theorem bHb {N:Nat}(hN:1000<=N)(ins:List aAp)(hi:ins.length<=1000000)(l:List aAP)(hl:l.length<=1000000)(k:Int->Int->Option R):∃ j:Int,aC0 N ins l k=k j (f1 (le8 (ins.length+l.length) 40) (aFn (aLo [] ins) l)):=by
 unfold aC0 le8
 rw[aDt (by omega) (by omega)]
 by_cases h:40<ins.length+l.length
 ·exact⟨0,by rw[aAd (by omega),if_neg (by omega)];rfl⟩
 ·obtain⟨j,e⟩:=aLJ hN k (k 0 0) ins (by omega) l (by omega) l N 0 (aLo [] ins) rfl (by omega) bLM
  rw[Int.natCast_zero]at e
  rw[aAc (by omega),if_pos (by omega),aGq,e]
  by_cases c:aFn (aLo [] ins) l=0
  ·exact⟨0,by rw[if_pos c,c]⟩
  ·exact⟨j,by rw[if_neg c]⟩
theorem aMe (N:Nat)(k0:Int->Option R)(k1:List Int->List Nd->Int->Int->List Int->Int->Option R)(lw:List Int)(nodes:List Nd)(m:Nat)(hm:m<=1000000)(op wd:Int)(args:List Int)(v:Int)(ha:args.length<=3):∀ (r:List Int) (n i:Nat),args.drop i=r->r.length<n ->
  aBY N k0 k1 n lw nodes m i op wd args v=if aNS m r=true then k0 9 else k1 lw nodes op wd args v
 | [],n,i,h,hn=>by
  obtain⟨n,rfl⟩:=sc hn
  rw[aBY,aAc (aAm h)];rfl
 | x :: r,n,i,h,hn=>by
  obtain⟨n,rfl⟩:=sc hn
  obtain⟨h1,h2,h3⟩:=aAh h
  have ih:=aMe N k0 k1 lw nodes m hm op wd args v ha r n (i+1) h3 (by simp at hn;omega)
  rw[aBY,aAd (by omega),h2,aAe,aD5,aDt (by omega) (by omega),aAl (by omega),ih]
  unfold aNS
  rw[List.any_cons]
  cases decide (0<=x∧x<=(m:Int)-1)
  ·rfl
  ·rfl
theorem bMv {N:Nat}(hN:1000<=N){lw:List Int}(hlw:lw.length<=1000000){nodes:List Nd}(hn:nodes.length<=1000000){i:Nat}{x:Nd}(hx:at? nodes (i:Int)=some x)(hi:i<nodes.length)(hW:WOK nodes i)(k:Int->Option R):aDV N lw nodes i k=k (aJQ lw nodes i x):=by
 unfold aDV aJQ
 rw[hx,aAe,aD5]
 by_cases c1:0<=x.1∧x.1<=18
 rotate_left
 ·rw[decide_eq_false c1,if_neg c1];rfl
 rw[decide_eq_true c1,if_pos c1,aGq]
 try dsimp only
 rw[Bool.not_true,cond_false,aSu]
 cases c2:wOK x.2.1
 ·rfl
 have hw:=of_decide_eq_true c2
 try dsimp only
 rw[Bool.not_true,cond_false,bOT N c1.1,if_pos rfl,aGq]
 by_cases c3:(x.2.2.1.length:Int)=aOs x.1
 rotate_left
 ·rw[aAd c3,if_neg c3];rfl
 have ha:=aZS x.1
 rw[aAc (by simp[c3]),if_pos c3,aGq]
 refine (aMe N k _ lw nodes i (by omega) x.1 x.2.1 x.2.2.1 x.2.2.2 (by omega) x.2.2.1 N 0 rfl (by omega)).trans ?_
 cases c4:aNS i x.2.2.1
 rotate_left
 ·rfl
 rw[if_neg (by simp),if_neg (by simp),aGq]
 try dsimp only
 unfold aJg
 by_cases c5:x.1=0
 ·rw[aAd c5,if_pos c5,aSq N _ (by omega) (by omega)]
  cases c6:vok x.2.1 x.2.2.2
  ·rfl
  ·rw[if_pos rfl,aGq]
   unfold aJ5
   rw[if_pos (show x.1<=1 by omega)];rfl
 rw[aAc c5,if_neg c5]
 by_cases c6:x.1=1
 ·rw[aAd c6,if_pos c6,aD5,aDt (by omega) (by omega)]
  by_cases c:0<=x.2.2.2∧x.2.2.2<=(lw.length:Int)-1
  ·rw[if_pos c,decide_eq_true c]
   try dsimp only
   obtain⟨a,e2⟩:∃ a:Nat,x.2.2.2=a:=⟨x.2.2.2.toNat,by omega⟩
   have hl:a<lw.length:=by omega
   rw[Bool.not_true,cond_false,e2,aHb hl,aAe,Int.toNat_natCast,List.getElem?_eq_getElem hl]
   by_cases e:lw[a]=x.2.1
   ·rw[aAc (by simp[e]),if_pos (by rw[e]),aGq]
    unfold aJ5
    rw[if_pos (show x.1<=1 by omega)];rfl
   ·rw[aAd e,if_neg (fun h=>e (Option.some.inj h))];rfl
  ·rw[if_neg c,decide_eq_false c];rfl
 rw[aAc c6,if_neg c6]
 by_cases c7:x.1=14
 ·rw[aAd c7,if_pos c7,aD5]
  by_cases c:0<=x.2.2.2∧x.2.2.2<=15
  ·rw[decide_eq_true c,if_pos c,aGq]
   try dsimp only
   rw[Bool.not_true,cond_false,aVM hN (m:=i) (by omega) hW (by omega) c3 c4 (fun _=>c) c2]
   cases aJ5 x.1 x.2.1 x.2.2.2 (x.2.2.1.map (aKu nodes)) <;> rfl
  ·rw[decide_eq_false c,if_neg c];rfl
 ·rw[aAc c7,if_neg c7]
  by_cases c:x.2.2.2=0
  ·rw[aAc (by simp[c]),if_pos c,aGq,aVM hN (m:=i) (by omega) hW (by omega) c3 c4 (fun q=>absurd q c7) c2]
   cases aJ5 x.1 x.2.1 x.2.2.2 (x.2.2.1.map (aKu nodes)) <;> rfl
  ·rw[aAd c,if_neg c];rfl
theorem aKV {N:Nat}(hN:1000<=N)(k0:Int->Int->Option R)(k1:Option R){lw:List Int}(hlw:lw.length<=1000000){nodes:List Nd}(hn:nodes.length<=1000000):∀ (r:List Nd) (n i:Nat),nodes.drop i=r->r.length<n->WOK nodes i ->
  ∃ j:Int,aBG N k0 k1 n lw nodes i=if aGZ lw nodes i r=0 then k1 else k0 j (aGZ lw nodes i r)
 | [],n,i,h,hr,hW=>by
  obtain⟨n,rfl⟩:=sc hr
  exact⟨0,by rw[aBG,aAc (aAm h)];rfl⟩
 | x :: r,n,i,h,hr,hW=>by
  obtain⟨n,rfl⟩:=sc hr
  obtain⟨h1,h2,h3⟩:=aAh h
  rw[aIL,aBG,aAd (by omega),bMv hN hlw hn h2 h1 hW]
  by_cases c:aJQ lw nodes i x=0
  ·obtain⟨j,ih⟩:=aKV hN k0 k1 hlw hn r n (i+1) h3 (by simp at hr;omega) (aQn h (aPs c).2.1 hW)
   refine⟨j,?_⟩
   rw[c,aAc (by simp),aAl (by omega),ih,aGq]
  ·refine⟨i,?_⟩
   rw[aAd c,aKn c,if_neg c]
theorem bHM {N:Nat}(hN:1000<=N){lw:List Int}(hlw:lw.length<=1000000)(nodes:List Nd)(k:Int->Int->Option R):∃ j:Int,aDG N lw nodes k=k j (if 400<(nodes.length:Int)then 8 else aGZ lw nodes 0 nodes):=by
 unfold aDG
 by_cases h:400<(nodes.length:Int)
 ·exact⟨0,by rw[aAd h,if_pos h]⟩
 ·obtain⟨j,e⟩:=aKV hN k (k 0 0) hlw (nodes:=nodes) (by omega) nodes N 0 rfl (by omega) (fun a h0 h1=>by omega)
  rw[Int.natCast_zero]at e
  rw[aAc h,if_neg h,e]
  by_cases c:aGZ lw nodes 0 nodes=0
  ·exact⟨0,by rw[if_pos c,c]⟩
  ·exact⟨j,by rw[if_neg c]⟩
theorem aVq (N:Nat){nodes:List Nd}(hn:nodes.length<=1000000)(n:Int)(k:Bool->Option R):aCl N nodes n k=k (aFw nodes n):=by
 unfold aCl aFw
 rw[aPX N hn]
 cases h:aNm nodes n
 ·rfl
 ·obtain⟨x,h1,h2⟩:=aM8 h
  rw[cond_true,h1,aAe,h2];rfl
theorem aKb (N:Nat)(k0:Int->Option R)(k1:Option R){els:List aAP}(he:els.length<=1000000){nodes:List Nd}(hn:nodes.length<=1000000)(l:List WrT)(hl:l.length<=1000000):∀ (r:List WrT) (n i:Nat),l.drop i=r->r.length<n ->
  aBx N k0 k1 n els nodes l i=if aD3 els nodes r=0 then k1 else k0 (aD3 els nodes r)
 | [],n,i,h,hr=>by
  obtain⟨n,rfl⟩:=sc hr
  rw[aBx,aAc (aAm h)];rfl
 | x :: r,n,i,h,hr=>by
  obtain⟨n,rfl⟩:=sc hr
  obtain⟨h1,h2,h3⟩:=aAh h
  have ih:=aKb N k0 k1 he hn l hl r n (i+1) h3 (by simp at hr;omega)
  rw[show aD3 els nodes (x :: r)=f1 (f1 (if 0<=x.1∧x.1<=(els.length:Int)-1 then 0 else 6) (f1 (if (aFw nodes x.2.1&&aNm nodes x.2.2)=true then 0 else 9) (if aKu nodes x.2.2=ewd els x.1 then 0 else 25))) (aD3 els nodes r)from rfl,aBx,aAd (by omega)]
  simp only[h2,aAe]
  rw[aD5,aDt (by omega) (by omega)]
  by_cases c1:0<=x.1∧x.1<=(els.length:Int)-1
  rotate_left
  ·rw[decide_eq_false c1,if_neg c1];rfl
  rw[decide_eq_true c1,if_pos c1]
  try dsimp only
  rw[Bool.not_true,cond_false,aVq N hn]
  cases c2:aFw nodes x.2.1
  ·rfl
  try dsimp only
  rw[Bool.not_true,cond_false,aPX N hn]
  cases c3:aNm nodes x.2.2
  ·rfl
  try dsimp only
  obtain⟨y,e1,e2⟩:=aM8 c3
  obtain⟨a,e3⟩:∃ a:Nat,x.1=a:=⟨x.1.toNat,by omega⟩
  have ha:a<els.length:=by omega
  have e4:ewd els x.1=els[a].2.2.1:=by
   unfold ewd
   rw[e3,Int.toNat_natCast,List.getElem?_eq_getElem ha];rfl
  rw[Bool.not_true,cond_false,e1,aAe,e4,e3,aHb ha,aAe,e2]
  by_cases c4:aKu nodes x.2.2=els[a].2.2.1
  ·rw[aAc (by simp[c4]),if_pos c4,aAl (by omega),ih];rfl
  ·rw[aAd c4,if_neg c4];rfl
theorem bCx {N:Nat}(hN:1000<=N){els:List aAP}(he:els.length<=1000000){nodes:List Nd}(hn:nodes.length<=1000000)(l:List WrT)(k:Int->Option R):aDp N els nodes l k=k (f1 (if l.length<=16 then 0 else 8) (aD3 els nodes l)):=by
 unfold aDp
 by_cases h:l.length<=16
 ·have e:=aKb N k (k 0) he hn l (by omega) l N 0 rfl (by omega)
  rw[Int.natCast_zero]at e
  rw[aAc (by omega),if_pos h,aGq,e]
  by_cases c:aD3 els nodes l=0
  ·rw[if_pos c,c]
  ·rw[if_neg c]
 ·rw[aAd (by omega),if_neg h];rfl
section
variable {N:Nat} (nm:ByteArray) (ins:List aAp) {els:List aAP} {nodes:List Nd} (l:List aA1) (outs:List aAp) (attrs:List aCE)
theorem aN9 (k0:Int->Int->Option R)(k1:Int->KD (ByteArray->Int->List WrT->Option R))(hl:l.length<=1000000){i:Nat}{s:ByteArray}(g:Int)(wr:List WrT)(hi:i<l.length):∀ (r:List aA1) (n j:Nat),(l.take i).drop j=r->r.length<n ->
  aBw N k0 k1 n i j nm ins els nodes l outs attrs s g wr=if (r.any fun y=>decide (y.1=s))=true then k0 i 5 else k1 i nm ins els nodes l outs attrs s g wr
 | [],n,j,h,hn=>by
  obtain⟨n,rfl⟩:=sc hn
  rw[aBw,aAc (aKx (by omega) h)];rfl
 | y :: r,n,j,h,hn=>by
  obtain⟨n,rfl⟩:=sc hn
  obtain⟨h1,h2,h3⟩:=aJc h
  rw[aBw,aAd h1,h2,aAe,List.any_cons]
  by_cases q:y.1=s
  ·rw[aAd q,decide_eq_true q];rfl
  ·rw[aAc q,decide_eq_false q,Bool.false_or,aAl (by omega)]
   exact aN9 k0 k1 hl g wr hi r n (j+1) h3 (by simp at hn;omega)
theorem aLv (hN:1000<=N)(k0:Int->Int->Option R)(k1:KD (Option R))(he:els.length<=1000000)(hn:nodes.length<=1000000)(hl:l.length<=100):∀ (r:List aA1) (n i:Nat) (S:List ByteArray),l.drop i=r->r.length<n->BE (·.1) l i [] S ->
  ∃ j:Int,aBz N k0 k1 n i nm ins els nodes l outs attrs=if aFP els nodes S r=0 then k1 nm ins els nodes l outs attrs else k0 j (aFP els nodes S r)
 | [],n,i,S,h,hr,hB=>by
  obtain⟨n,rfl⟩:=sc hr
  exact⟨0,by rw[aBz,aAc (aAm h)];rfl⟩
 | x :: r,n,i,S,h,hr,hB=>by
  obtain⟨n,rfl⟩:=sc hr
  obtain⟨h1,h2,h3⟩:=aAh h
  obtain⟨j,ih⟩:=aLv hN k0 k1 he hn hl r n (i+1) (x.1 :: S) h3 (by simp at hr;omega) (aNc hB h)
  rw[show aFP els nodes S (x :: r)=f1 (f1 (f1 (aNU S x.1) (f1 (if aFw nodes x.2.1=true then 0 else 9) (if x.2.2.length<=16 then 0 else 8))) (aD3 els nodes x.2.2)) (aFP els nodes (x.1 :: S) r)from rfl,aNI hB]
  rw[aBz,aAd (by omega),h2,aAe,aVA hN]
  cases c1:nmB x.1
  ·exact⟨i,rfl⟩
  try dsimp only
  rw[Bool.not_true,cond_false,show (0:Int)=((0:Nat):Int)from rfl,aN9 nm ins l outs attrs k0 _ (by omega) _ _ h1 (l.take i) N 0 rfl (by rw[List.length_take];omega)]
  rw[show (l.take i).any (fun y=>decide (y.1=x.1))=bef (·.1) l i x.1 from rfl]
  cases c2:bef (·.1) l i x.1
  rotate_left
  ·exact⟨i,rfl⟩
  rw[if_neg (by simp)]
  try dsimp only
  rw[aVq N hn]
  cases c3:aFw nodes x.2.1
  ·exact⟨i,rfl⟩
  try dsimp only
  rw[Bool.not_true,cond_false,bCx hN he hn]
  by_cases c4:x.2.2.length<=16
  rotate_left
  ·refine⟨i,?_⟩
   rw[if_neg c4,if_neg c4];rfl
  rw[if_pos c4,if_pos c4]
  by_cases c5:aD3 els nodes x.2.2=0
  ·refine⟨j,?_⟩
   rw[c5,aAc (by simp[f1]),aAl (by omega),ih];rfl
  ·refine⟨i,?_⟩
   have e:f1 (f1 (f1 (if true=true then (if false=true then (5:Int)else ((0:Nat):Int))else 4) (f1 (if true=true then ((0:Nat):Int)else 9) ((0:Nat):Int))) (aD3 els nodes x.2.2)) (aFP els nodes (x.1 :: S) r)=aD3 els nodes x.2.2:=aKn c5 _
   rw[e,aGq,Int.natCast_zero,aAd c5,if_neg c5]
end
theorem aO1 (N:Nat)(k0:Bool->Option R)(k1:Option R)(l:List Int)(hl:l.length<=1000000)(v:Int):∀ (r:List Int) (n i:Nat),l.drop i=r->r.length<n->aCP N k0 k1 n l v i=if r.contains v=true then k0 true else k1
 | [],n,i,h,hn=>by
  obtain⟨n,rfl⟩:=sc hn
  rw[aCP,aAc (aAm h)];rfl
 | x :: r,n,i,h,hn=>by
  obtain⟨n,rfl⟩:=sc hn
  obtain⟨h1,h2,h3⟩:=aAh h
  rw[aCP,aAd (by omega),h2,aAe,List.contains_cons]
  by_cases q:x=v
  ·rw[aAd q,if_pos (by simp[q])]
  ·rw[aAc q,aAl (by omega),aO1 N k0 k1 l hl v r n (i+1) h3 (by simp at hn;omega),show (v == x)=false by simpa using fun e=>q e.symm,Bool.false_or]
theorem bRi (N:Nat)(l:List Int)(hl:l.length<=1000000)(hN:l.length<N)(v:Int)(k:Bool->Option R):aEJ N l v k=k (l.contains v):=by
 unfold aEJ
 have:=aO1 N k (k false) l hl v l N 0 rfl hN
 rw[Int.natCast_zero]at this
 rw[this]
 cases l.contains v <;> rfl
section
variable {N:Nat} (nm:ByteArray) (ins:List aAp) {els:List aAP} {nodes:List Nd} (rules:List aA1) (outs:List aAp) (attrs:List aCE)
theorem aLs (hN:1000<=N)(k0:Int->Int->Option R)(k1:Int->KD (Option R))(hr:rules.length<=1000000)(a kd:Int)(l:List Int)(hl:l.length<=16):∀ (r:List Int) (n i:Nat),l.drop i=r->r.length<n ->
  aBB N k0 k1 n a i nm ins els nodes rules outs attrs kd l=if aHs rules.length l i r=0 then k1 a nm ins els nodes rules outs attrs else k0 a (aHs rules.length l i r)
 | [],n,i,h,hn=>by
  obtain⟨n,rfl⟩:=sc hn
  rw[aBB,aAc (aAm h)];rfl
 | x :: r,n,i,h,hn=>by
  obtain⟨n,rfl⟩:=sc hn
  obtain⟨h1,h2,h3⟩:=aAh h
  have ih:=aLs hN k0 k1 hr a kd l hl r n (i+1) h3 (by simp at hn;omega)
  rw[show aHs rules.length l i (x :: r)=f1 (f1 (if 0<=x∧x<=(rules.length:Int)-1 then 0 else 6) (if (l.take i).contains x=true then 23 else 0)) (aHs rules.length l (i+1) r)from rfl]
  rw[aBB,aAd (by omega)]
  simp only[h2,aAe]
  rw[aD5,aDt (by omega) (by omega)]
  by_cases c1:0<=x∧x<=(rules.length:Int)-1
  rotate_left
  ·rw[decide_eq_false c1,if_neg c1];rfl
  rw[decide_eq_true c1,if_pos c1]
  try dsimp only
  rw[Bool.not_true,cond_false,bBp (by omega),cond_true,Int.toNat_natCast,List.drop_zero,bRi N _ (by rw[List.length_take];omega) (by rw[List.length_take];omega)]
  cases c2:(l.take i).contains x
  ·rw[cond_false,aAl (by omega),ih];rfl
  ·rfl
theorem aLC (hN:1000<=N)(k0:Int->Int->Option R)(k1:Option R)(hr:rules.length<=1000000)(hl:attrs.length<=100):∀ (r:List aCE) (n i:Nat),attrs.drop i=r->r.length<n ->
  ∃ j:Int,aAW N k0 k1 n i nm ins els nodes rules outs attrs=if aG7 rules.length r=0 then k1 else k0 j (aG7 rules.length r)
 | [],n,i,h,hn=>by
  obtain⟨n,rfl⟩:=sc hn
  exact⟨0,by rw[aAW,aAc (aAm h)];rfl⟩
 | x :: r,n,i,h,hn=>by
  obtain⟨n,rfl⟩:=sc hn
  obtain⟨h1,h2,h3⟩:=aAh h
  obtain⟨j,ih⟩:=aLC hN k0 k1 hr hl r n (i+1) h3 (by simp at hn;omega)
  rw[show aG7 rules.length (x :: r)=f1 (f1 (if 0<=x.1∧x.1<=3 then 0 else 15) (f1 (if 1<=x.2.length∧x.2.length<=16 then 0 else 10) (aHs rules.length x.2 0 x.2))) (aG7 rules.length r)from rfl]
  rw[aAW,aAd (by omega),h2,aAe,aD5]
  by_cases c1:0<=x.1∧x.1<=3
  rotate_left
  ·refine⟨i,?_⟩
   rw[decide_eq_false c1,if_neg c1];rfl
  rw[decide_eq_true c1,if_pos c1]
  try dsimp only
  rw[Bool.not_true,cond_false]
  by_cases c2:1<=x.2.length∧x.2.length<=16
  rotate_left
  ·refine⟨i,?_⟩
   rw[if_neg c2]
   by_cases c3:x.2.length=0
   ·rw[aAd (by omega)];rfl
   ·rw[aAc (by omega),aAd (by omega)];rfl
  have e:=aLs nm ins rules outs attrs hN k0 (els:=els) (nodes:=nodes) (fun z7 z8 z9 z10 z11 z12 z13 z14=>(aAW N k0 k1 n (w64 (z7+1)) z8 z9 z10 z11 z12 z13 z14)) hr i x.1 x.2 (by omega) x.2 N 0 rfl (by omega)
  rw[Int.natCast_zero]at e
  rw[aAc (by omega),aAc (by omega),if_pos c2,aGq,aGq,e]
  by_cases c3:aHs rules.length x.2 0 x.2=0
  ·refine⟨j,?_⟩
   rw[if_pos c3,c3,aGq,aAl (by omega),ih]
  ·refine⟨i,?_⟩
   rw[if_neg c3,aKn c3,if_neg c3]
end
theorem bK4 (a b c:Int):f1 (f1 a b) c=f1 a (f1 b c):=by
 unfold f1;by_cases h:a=0 <;> simp[h]
theorem aQL {k:Int->Int->Option R}{e:Int}{K:Option R}{j0:Int}{c:Int}(h:e=0->∃ j,K=k j c):∃ j,(bif decide (e≠0)then k j0 e else K)=k j (f1 e c):=by
 by_cases q:e=0
 ·obtain⟨j,hj⟩:=h q
  exact⟨j,by rw[aAc (by simp[q]),q,aGq,hj]⟩
 ·exact⟨j0,by rw[aAd q,aKn q]⟩
theorem via {L:(Int->Int->Option R)->Option R}{c:Int}(h:∀ K,∃ j,L K=K j c){K k:Int->Int->Option R}{d:Int}(h2:∀ j,∃ j',K j c=k j' d):∃ j',L K=k j' d:=by
 obtain⟨j,e⟩:=h K
 obtain⟨j',e2⟩:=h2 j
 exact⟨j',e.trans e2⟩
theorem bFM {N:Nat}(hN:1000<=N)(nm:ByteArray){ins:List aAp}{els:List aAP}{nodes:List Nd}{rules:List aA1}{outs:List aAp}{attrs:List aCE}(hi:ins.length<=1000000)(he:els.length<=1000000)(hn:nodes.length<=1000000)(hr:rules.length<=1000000)(k:Int->Int->Option R) :
  ∃ j:Int,aDx N nm ins els nodes rules outs attrs k=k j (aHq nm ins els nodes rules outs attrs):=by
 unfold aDx aHq
 rw[aVA hN,bK4]
 cases c1:nmB nm
 ·exact⟨0,rfl⟩
 try dsimp only
 rw[Bool.not_true,cond_false,if_pos rfl,aGq,<- bK4]
 refine via (bJl hN ins) fun j=>?_
 refine aQL fun h1=>?_
 obtain⟨h1,h2⟩:=f1_0.1 h1
 rw[<- bK4]
 refine via (bHb hN ins hi els he) fun j=>?_
 refine aQL fun h3=>?_
 obtain⟨h3,h4⟩:=f1_0.1 h3
 have l1:=aYI h1;have l3:=aYI h3
 have hlw:(aIV ins els).length=ins.length+els.length:=by unfold aIV;simp
 have hall:(aIV ins els).all wOK=true:=by
  unfold aIV
  rw[List.all_append,Bool.and_eq_true,List.all_eq_true,List.all_eq_true]
  refine⟨fun y hy=>?_,fun y hy=>?_⟩
  ·obtain⟨x,hx,rfl⟩:=List.mem_map.1 hy
   exact aNu _ _ h2 x hx
  ·obtain⟨x,hx,rfl⟩:=List.mem_map.1 hy
   exact (aNd _ _ h4 x hx).2.1
 rw[bF9 hN nm nodes rules outs attrs (by omega) (by omega)]
 have hchk:aQR (aIV ins els) nodes=if 400<(nodes.length:Int)then 8 else aGZ (aIV ins els) nodes 0 nodes:=by
  unfold aQR
  rw[if_neg (by omega),if_pos hall]
 rw[hchk]
 refine via (bHM hN (lw:=aIV ins els) (by omega) nodes) fun j=>?_
 refine aQL fun h5=>?_
 by_cases c6:rules.length<=16
 rotate_left
 ·exact⟨0,by rw[aAd (by omega),show le8 rules.length 16=8 from if_neg c6];rfl⟩
 rw[aAc (by omega),show le8 rules.length 16=0 from if_pos c6,aGq]
 obtain⟨j,e⟩:=aLv nm ins rules outs attrs hN k (fun z20 z21 z22 z23 z24 z25 z26=>(aCx N z23 z25 (fun y27 y28=>(bif decide (y28≠0)then (k y27 y28)else (bif decide (16<((z26.length:Nat):Int))then (k 0 8)else (aAW N k (k 0 0) N 0 z20 z21 z22 z23 z24 z25 z26)))))) he hn (by omega) rules N 0 [] rfl (by omega) bLM
 rw[Int.natCast_zero]at e
 rw[e]
 by_cases c7:aFP els nodes [] rules=0
 rotate_left
 ·exact⟨j,by rw[if_neg c7,aKn c7]⟩
 rw[if_pos c7,c7,aGq,<- bK4]
 refine via (bNj hN hn outs) fun j=>?_
 refine aQL fun h8=>?_
 by_cases c9:attrs.length<=16
 rotate_left
 ·exact⟨0,by rw[aAd (by omega),show le8 attrs.length 16=8 from if_neg c9];rfl⟩
 rw[aAc (by omega),show le8 attrs.length 16=0 from if_pos c9,aGq]
 obtain⟨j,e⟩:=aLC nm ins rules outs attrs hN k (k 0 0) (els:=els) (nodes:=nodes) hr (by omega) attrs N 0 rfl (by omega)
 rw[Int.natCast_zero]at e
 rw[e]
 by_cases c:aG7 rules.length attrs=0
 ·exact⟨0,by rw[if_pos c,c]⟩
 ·exact⟨j,by rw[if_neg c]⟩
theorem aLf {α:Type}{l o:List α}{i:Nat}{x:α}(hl:o.length=l.length)(ht:o.take i=l.take i)(hx:l[i]? = some x):(o.set i x).length=l.length∧(o.set i x).take (i+1)=l.take (i+1):=by
 have hi:i<l.length:=(List.getElem?_eq_some_iff.1 hx).1
 refine⟨by simp[hl],?_⟩
 rw[List.take_add_one,List.take_add_one,List.take_set_of_le (Nat.le_refl _),ht,List.getElem?_set_self (by omega),hx]
theorem aNw {α:Type}{l o:List α}{i:Nat}(hl:o.length=l.length)(ht:o.take i=l.take i)(h:l.drop i=[]):o=l:=by
 have hi:=List.drop_eq_nil_iff.1 h
 rw[List.take_of_length_le (by omega),List.take_of_length_le hi]at ht
 exact ht
theorem aXb {i n:Nat}(h:i<n):inR (i:Int) n=true:=by unfold inR;simp;omega
theorem aIA (N:Nat)(k0:List Nd->Option R)(l:List Nd)(hl:l.length<=1000000)(ha:∀ x,x∈l->x.2.2.1.length<=1000000):∀ (r:List Nd) (n i:Nat) (o:List Nd),l.drop i=r->r.length<n->o.length=l.length->o.take i=l.take i->aBC N k0 n l i o=k0 l
 | [],n,i,o,h,hn,h1,h2=>by
  obtain⟨n,rfl⟩:=sc hn
  rw[aBC,aAc (aAm h),aNw h1 h2 h]
 | x :: r,n,i,o,h,hn,h1,h2=>by
  obtain⟨n,rfl⟩:=sc hn
  obtain⟨g1,g2,g3⟩:=aAh h
  have hx:l[i]? = some x:=by rw[<- g2];unfold at?;simp
  have hm:x∈l:=List.mem_of_getElem? hx
  obtain⟨f1,f2⟩:=aLf h1 h2 hx
  have hs:(o.set i x)[i]? = some x:=List.getElem?_set_self (by omega)
  rw[aBC,aAd (by omega),g2,aAe,aXb (by omega),cond_true,Int.toNat_natCast,List.getElem?_eq_getElem (show i<o.length by omega),aAe,aAe,aK2 N _ (ha x hm),aXb (by omega),cond_true,hs,aAe,List.set_set,aAl (by omega)]
  exact aIA N k0 l hl ha r n (i+1) _ g3 (by simp at hn;omega) f1 f2
theorem aID (N:Nat)(k0:ByteArray->List aAp->List Nd->List aA1->List aAp->List aCE->List aAP->ByteArray->List aA1->Option R)(nm:ByteArray)(ins:List aAp)(nodes:List Nd)(l:List aA1)(outs:List aAp)(attrs:List aCE)(els:List aAP)(nm2:ByteArray)(hl:l.length<=1000000)(ha:∀ x,x∈l->x.2.2.length<=1000000):∀ (r:List aA1) (n i:Nat) (o:List aA1),l.drop i=r->r.length<n->o.length=l.length->o.take i=l.take i->aBj N k0 n i nm ins nodes l outs attrs els nm2 o=k0 nm ins nodes l outs attrs els nm2 l
 | [],n,i,o,h,hn,h1,h2=>by
  obtain⟨n,rfl⟩:=sc hn
  rw[aBj,aAc (aAm h),aNw h1 h2 h]
 | x :: r,n,i,o,h,hn,h1,h2=>by
  obtain⟨n,rfl⟩:=sc hn
  obtain⟨g1,g2,g3⟩:=aAh h
  have hx:l[i]? = some x:=by rw[<- g2];unfold at?;simp
  have hm:x∈l:=List.mem_of_getElem? hx
  obtain⟨f1,f2⟩:=aLf h1 h2 hx
  have hs:(o.set i x)[i]? = some x:=List.getElem?_set_self (by omega)
  rw[aBj,aAd (by omega),g2,aAe,aXb (by omega),cond_true,Int.toNat_natCast,List.getElem?_eq_getElem (show i<o.length by omega),aAe,aAe,aEi,aBs (by have:=ha x hm;omega),cond_true,aXb (by omega),cond_true,hs,aAe,List.set_set,aAl (by omega)]
  exact aID N k0 nm ins nodes l outs attrs els nm2 hl ha r n (i+1) _ g3 (by simp at hn;omega) f1 f2
theorem aIz (N:Nat)(k0:ByteArray->List aAp->List Nd->List aA1->List aAp->List aCE->List aAP->ByteArray->List aA1->List aCE->Option R)(nm:ByteArray)(ins:List aAp)(nodes:List Nd)(rules:List aA1)(outs:List aAp)(l:List aCE)(els:List aAP)(nm2:ByteArray)(rules2:List aA1)(hl:l.length<=1000000)(ha:∀ x,x∈l->x.2.length<=1000000):∀ (r:List aCE) (n i:Nat) (o:List aCE),l.drop i=r->r.length<n->o.length=l.length->o.take i=l.take i->aBk N k0 n i nm ins nodes rules outs l els nm2 rules2 o=k0 nm ins nodes rules outs l els nm2 rules2 l
 | [],n,i,o,h,hn,h1,h2=>by
  obtain⟨n,rfl⟩:=sc hn
  rw[aBk,aAc (aAm h),aNw h1 h2 h]
 | x :: r,n,i,o,h,hn,h1,h2=>by
  obtain⟨n,rfl⟩:=sc hn
  obtain⟨g1,g2,g3⟩:=aAh h
  have hx:l[i]? = some x:=by rw[<- g2];unfold at?;simp
  have hm:x∈l:=List.mem_of_getElem? hx
  obtain⟨f1,f2⟩:=aLf h1 h2 hx
  rw[aBk,aAd (by omega),g2,aAe,aAe,aK2 N _ (ha x hm),aXb (by omega),cond_true,Int.toNat_natCast,List.getElem?_eq_getElem (show i<o.length by omega),aAe,aAl (by omega)]
  exact aIz N k0 nm ins nodes rules outs l els nm2 rules2 hl ha r n (i+1) _ g3 (by simp at hn;omega) f1 f2
theorem aJY {N:Nat}(nm:ByteArray){ins:List aAp}{els:List aAP}{nodes:List Nd}{rules:List aA1}{outs:List aAp}{attrs:List aCE}(h:DH N nm ins els nodes rules outs attrs)(hN:nodes.length<N)(k:KD (Option R)):aA6 N nm ins els nodes rules outs attrs k=k nm ins els nodes rules outs attrs:=by
 have h1:=h.ins.1;have h2:=h.els.1;have h3:=h.nodes.1;have h4:=h.rules;have h5:=h.outs.1;have h6:=h.attrs
 unfold aA6
 rw[aEA,aBs (by omega),cond_true,aEL,aAd (by omega),aBs (by omega),cond_true]
 refine (aIA N _ nodes h3 (fun x hx=>(h.nodes.2 x hx).1) nodes N 0 (List.replicate nodes.length (0,0,[],0)) rfl hN (by simp) rfl).trans ?_
 try dsimp only
 rw[aDY,aBs (by omega),cond_true,aBs (by omega),cond_true,aAd (by omega),aBs (by omega),cond_true]
 refine (aID N _ _ _ _ rules _ _ _ _ h4.1 (fun x hx=>(h4.2.2 x hx).2.1) rules N 0 (List.replicate rules.length (ByteArray.mk #[],0,[])) rfl h4.2.1 (by simp) rfl).trans ?_
 try dsimp only
 rw[aAd (by omega),aBs (by omega),cond_true]
 exact aIz N _ _ _ _ _ _ attrs _ _ _ h6.1 (fun x hx=>(h6.2.2 x hx).1) attrs N 0 (List.replicate attrs.length (0,[])) rfl h6.2.1 (by simp) rfl
def aKw (els:List aAP)(i:Int):Int:=((els[i.toNat]?).map (·.2.2.2.2)).getD 0
def aNQ (els:List aAP)(wr:List WrT):Int:=match wr with
 | []=>-1
 | y :: _=>aKw els y.1
def aHz (els:List aAP)(wr:List WrT):Bool:=wr.any fun w=>decide (aKw els w.1≠aNQ els wr)
def aDI (els:List aAP)(rules:List aA1):Int:=if (rules.any fun x=>aHz els x.2.2)=true then 30 else 0
theorem aLM {els:List aAP}{i:Int}(h0:0<=i)(h1:i<=(els.length:Int)-1):∃ e,e∈els∧at? els i=some e∧e.2.2.2.2=aKw els i:=by
 obtain⟨a,rfl⟩:∃ a:Nat,i=a:=⟨i.toNat,by omega⟩
 have ha:a<els.length:=by omega
 refine⟨els[a],List.getElem_mem _,aHb ha,?_⟩
 unfold aKw
 rw[Int.toNat_natCast,List.getElem?_eq_getElem ha];rfl
def WIn (els:List aAP)(wr:List WrT):Prop:=∀ x,x∈wr->0<=x.1∧x.1<=(els.length:Int)-1
section
variable (N:Nat) {nm:ByteArray} {ins:List aAp} {els:List aAP} {nodes:List Nd} {rules:List aA1} {outs:List aAp} {attrs:List aCE} {lw:List Int}
theorem bQz {i:Int}(h0:0<=i)(h1:i<=(els.length:Int)-1)(k:Int->KD (List Int->Option R)):aCY N i nm ins els nodes rules outs attrs lw k=k (aKw els i) nm ins els nodes rules outs attrs lw:=by
 obtain⟨e,_,h2,h3⟩:=aLM h0 h1
 unfold aCY
 rw[h2,aAe,h3]
theorem bIj {i:Int}(h0:0<=i)(h1:i<=(els.length:Int)-1)(k:Int->Option R):aAQ N nm ins els nodes rules outs attrs lw i k=k (aKw els i):=by
 obtain⟨e,_,h2,h3⟩:=aLM h0 h1
 unfold aAQ
 rw[h2,aAe,h3]
theorem bKO (k0:Int->KD (List Int->ByteArray->Int->List WrT->Option R))(k1:KD (List Int->ByteArray->Int->List WrT->Option R))(s:ByteArray)(g:Int)(wr:List WrT)(hl:wr.length<=1000000)(hW:WIn els wr)(y:WrT)(hy:at? wr 0=some y)(hd:aNQ els wr=aKw els y.1)(hyW:0<=y.1∧y.1<=(els.length:Int)-1):∀ (r:List WrT) (n i:Nat),wr.drop i=r->r.length<n->(∀ x,x∈r->x∈wr) ->
  ∃ j:Nat,aAk N k0 k1 n wr wr.length i nm ins els nodes rules outs attrs lw s g wr=if (r.any fun w=>decide (aKw els w.1≠aNQ els wr))=true then k0 j nm ins els nodes rules outs attrs lw s g wr else k1 nm ins els nodes rules outs attrs lw s g wr
 | [],n,i,h,hn,hm=>by
  obtain⟨n,rfl⟩:=sc hn
  exact⟨0,by rw[aAk,aAc (aAm h)];rfl⟩
 | x :: r,n,i,h,hn,hm=>by
  obtain⟨n,rfl⟩:=sc hn
  obtain⟨g1,g2,g3⟩:=aAh h
  have hx:=hW x (hm x List.mem_cons_self)
  rw[aAk,aAd (by omega),g2,aAe,aFl,bQz N hx.1 hx.2,hy,aAe,bQz N hyW.1 hyW.2,<- hd]
  by_cases c:aKw els x.1≠aNQ els wr
  ·exact⟨i,by rw[aAd c,List.any_cons,decide_eq_true c,Bool.true_or,if_pos rfl]⟩
  ·rw[aAc c,List.any_cons,decide_eq_false c,Bool.false_or,aAl (by omega)]
   exact bKO k0 k1 s g wr hl hW y hy hd hyW r n (i+1) g3 (by simp at hn;omega) fun z hz=>hm z (List.mem_cons_of_mem _ hz)
theorem bJB {wr:List WrT}(hl:wr.length<=1000000)(hN:wr.length<N)(hW:WIn els wr)(i:Int)(s:ByteArray)(g:Int)(k:Int->KD (List Int->Option R)):aFe N i s g wr nm ins els nodes rules outs attrs lw k=k (if aHz els wr=true then 30 else 0) nm ins els nodes rules outs attrs lw:=by
 have key:aAO N wr nm ins els nodes rules outs attrs lw s g wr (fun y1 y2 y3 y4 y5 y6 y7 y8 y9 y10 y11 y12=>(aA8 N (!y1) 30 (fun y13=>(k y13 y2 y3 y4 y5 y6 y7 y8 y9))))=aA8 N (!aHz els wr) 30 (fun y13=>k y13 nm ins els nodes rules outs attrs lw):=by
  unfold aAO aBn
  cases wr with
  | nil=>
   obtain⟨n,rfl⟩:∃ m,N=m+1:=⟨N-1,by simp at hN;omega⟩
   rw[aAk,aAc (by simp)]
   rfl
  | cons y t=>
   obtain⟨j,e⟩:=bKO (nm:=nm) (ins:=ins) (nodes:=nodes) (rules:=rules) (outs:=outs) (attrs:=attrs) (lw:=lw) N (fun y1 y2 y3 y4 y5 y6 y7 y8 y9 y10 y11 y12=>(aA8 N (!decide (0<=y1)) 30 (fun y13=>(k y13 y2 y3 y4 y5 y6 y7 y8 y9)))) (fun z26 z27 z28 z29 z30 z31 z32 z33 z34 z35 z36=>(aA8 N (!decide ((0:Int)<=-1)) 30 (fun y13=>(k y13 z26 z27 z28 z29 z30 z31 z32 z33)))) s g (y :: t) hl hW y rfl rfl (hW y List.mem_cons_self) (y :: t) N 0 rfl hN (fun x hx=>hx)
   refine e.trans ?_
   show _=aA8 N (!((y :: t).any fun w=>decide (aKw els w.1≠aNQ els (y :: t)))) 30 _
   cases c:((y :: t).any fun w=>decide (aKw els w.1≠aNQ els (y :: t)))
   ·rw[if_neg (by simp)];rfl
   ·rw[if_pos rfl,decide_eq_true (by omega)]
 unfold aFe
 rw[key]
 unfold aA8
 cases aHz els wr <;> rfl
theorem aZi (k0:Int->KD (List Int->Option R))(k1:KD (List Int->Option R))(l:List aA1)(hl:l.length<=1000000)(hW:∀ x,x∈l->x.2.2.length<=1000000∧x.2.2.length<N∧WIn els x.2.2):∀ (r:List aA1) (n i:Nat),l.drop i=r->r.length<n ->
  aA2 N k0 k1 n l l.length i nm ins els nodes rules outs attrs lw=if aDI els r=0 then k1 nm ins els nodes rules outs attrs lw else k0 (aDI els r) nm ins els nodes rules outs attrs lw
 | [],n,i,h,hn=>by
  obtain⟨n,rfl⟩:=sc hn
  rw[aA2,aAc (aAm h)];rfl
 | x :: r,n,i,h,hn=>by
  obtain⟨n,rfl⟩:=sc hn
  obtain⟨g1,g2,g3⟩:=aAh h
  have hx:l[i]? = some x:=by rw[<- g2];unfold at?;simp
  obtain⟨q1,q2,q3⟩:=hW x (List.mem_of_getElem? hx)
  rw[aA2,aAd (by omega),g2,aAe,bJB N q1 q2 q3]
  cases c:aHz els x.2.2
  ·rw[if_neg (by simp),aAc (by simp),aAl (by omega),aZi k0 k1 l hl hW r n (i+1) g3 (by simp at hn;omega)]
   unfold aDI
   rw[List.any_cons,c,Bool.false_or]
  ·rw[if_pos rfl,aAd (by decide)]
   unfold aDI
   rw[List.any_cons,c,Bool.true_or,if_pos rfl,if_neg (by decide)]
end
theorem aLw:∀ {l:List aAP} {S:List ByteArray},aFn S l=0->∀ x,x∈l->0<=x.2.2.2.2∧x.2.2.2.2<=3
 | [],S,_,x,hx=>absurd hx (by simp)
 | y :: r,S,h,x,hx=>by
  obtain⟨c1,c2⟩:=f1_0.1 (show f1 (aPr S y) (aFn (y.1 :: S) r)=0 from h)
  rcases List.mem_cons.1 hx with rfl | hx
  ·obtain⟨_,c4⟩:=f1_0.1 (show f1 _ _=0 from c1)
   exact (if0 (by decide) c4).2
  ·exact aLw c2 x hx
def aHS (nm:ByteArray)(ins:List aAp)(els:List aAP)(nodes:List Nd)(rules:List aA1)(outs:List aAp)(attrs:List aCE):Int:=
 if aHq nm ins els nodes rules outs attrs≠0 then aHq nm ins els nodes rules outs attrs else aDI els rules
theorem aI6 {ins:List aAp}{els:List aAP}{nodes:List Nd}{rules:List aA1}{outs:List aAp}(hv:DV ins els nodes rules outs){x:aA1}(hx:x∈rules):x.2.2.length<=16∧WIn els x.2.2:=
 ⟨(hv.rulesW x hx).2.1,fun y hy=>((hv.rulesW x hx).2.2 y hy).1⟩
section
variable {N:Nat} {nm:ByteArray} {ins:List aAp} {els:List aAP} {nodes:List Nd} {rules:List aA1} {outs:List aAp} {attrs:List aCE}
theorem opA (k0:KD (KD (List Int->Option R)))(nm2:ByteArray)(l ins2:List aAp)(els2:List aAP)(nodes2:List Nd)(rules2:List aA1)(outs2:List aAp)(attrs2:List aCE)(hl:l.length<=1000000):∀ (r:List aAp) (n i:Nat) (acc:List Int),l.drop i=r->r.length<n->acc.length<=i ->
  aCV N k0 n l l.length i nm ins els nodes rules outs attrs nm2 ins2 els2 nodes2 rules2 outs2 attrs2 acc=k0 nm ins els nodes rules outs attrs nm2 ins2 els2 nodes2 rules2 outs2 attrs2 (acc++r.map (·.2))
 | [],n,i,acc,h,hn,ha=>by
  obtain⟨n,rfl⟩:=sc hn
  rw[aCV,aAc (aAm h)];simp
 | x :: r,n,i,acc,h,hn,ha=>by
  obtain⟨n,rfl⟩:=sc hn
  obtain⟨g1,g2,g3⟩:=aAh h
  rw[aCV,aAd (by omega),g2,aAe,aBs (by omega),cond_true,aAl (by omega),opA k0 nm2 l ins2 els2 nodes2 rules2 outs2 attrs2 hl r n (i+1) _ g3 (by simp at hn;omega) (by simp;omega)]
  simp
theorem opB (k0:KD (KD (List Int->Option R)))(nm2:ByteArray)(ins2:List aAp)(l els2:List aAP)(nodes2:List Nd)(rules2:List aA1)(outs2:List aAp)(attrs2:List aCE)(hl:l.length<=1000000)(c:Nat)(hc:c<=1000000):∀ (r:List aAP) (n i:Nat) (acc:List Int),l.drop i=r->r.length<n->acc.length<=i+c ->
  aCW N k0 n l l.length i nm ins els nodes rules outs attrs nm2 ins2 els2 nodes2 rules2 outs2 attrs2 acc=k0 nm ins els nodes rules outs attrs nm2 ins2 els2 nodes2 rules2 outs2 attrs2 (acc++r.map (·.2.2.1))
 | [],n,i,acc,h,hn,ha=>by
  obtain⟨n,rfl⟩:=sc hn
  rw[aCW,aAc (aAm h)];simp
 | x :: r,n,i,acc,h,hn,ha=>by
  obtain⟨n,rfl⟩:=sc hn
  obtain⟨g1,g2,g3⟩:=aAh h
  rw[aCW,aAd (by omega),g2,aAe,aBs (by omega),cond_true,aAl (by omega),opB k0 nm2 ins2 l els2 nodes2 rules2 outs2 attrs2 hl c hc r n (i+1) _ g3 (by simp at hn;omega) (by simp;omega)]
  simp
theorem aY8 (hN:1000<=N)(h:DH N nm ins els nodes rules outs attrs)(k0:Int->Option R)(k1:KD (List Int->Int->Option R)) :
  aDo N nm ins els nodes rules outs attrs k0 k1=if aHq nm ins els nodes rules outs attrs≠0 then k0 (aHq nm ins els nodes rules outs attrs)else k1 nm ins els nodes rules outs attrs (aIV ins els) (aDI els rules):=by
 unfold aDo
 obtain⟨j,e⟩:=aPK hN h (fun y1 y2=>(bif decide (y2≠0)then (k0 y2)else (aCV N (fun z3 z4 z5 z6 z7 z8 z9 z10 z11 z12 z13 z14 z15 z16 z17=>(aCW N (fun z18 z19 z20 z21 z22 z23 z24 z25 z26 z27 z28 z29 z30 z31 z32=>(aCv N z22 z25 z26 z27 z28 z29 z30 z31 z32 (fun y33 y34 y35 y36 y37 y38 y39 y40 y41=>(k1 y34 y35 y36 y37 y38 y39 y40 y41 y33)))) N z5 ((z5.length:Nat):Int) 0 z3 z4 z5 z6 z7 z8 z9 z10 z11 z12 z13 z14 z15 z16 z17)) N ins ((ins.length:Nat):Int) 0 nm ins els nodes rules outs attrs nm ins els nodes rules outs attrs [])))
 refine e.trans ?_
 try dsimp only
 by_cases c:aHq nm ins els nodes rules outs attrs=0
 rotate_left
 ·rw[aAd c,if_pos c]
 rw[aAc (by simpa using c),if_neg (by simpa using c)]
 have hv:=bEG c
 have h1:=h.ins;have h2:=h.els;have h4:=h.rules
 refine (opA _ nm ins ins els nodes rules outs attrs h1.1 ins N 0 [] rfl h1.2.1 (by simp)).trans ?_
 try dsimp only
 refine (opB _ nm ins els els nodes rules outs attrs h2.1 ins.length h1.1 els N 0 _ rfl h2.2.1 (by simp)).trans ?_
 try dsimp only
 unfold aCv
 rw[List.nil_append,show ins.map (·.2)++els.map (·.2.2.1)=aIV ins els from rfl]
 refine (aZi N _ _ rules h4.1 (fun x hx=>⟨by have:=(aI6 hv hx).1;omega,by have:=(aI6 hv hx).1;omega,(aI6 hv hx).2⟩) rules N 0 rfl h4.2.1).trans ?_
 split
 ·rename_i q;rw[q]
 ·rfl
end
def bC5:Int->List Int->Option Int
 | d,[]=>some d
 | d,c :: r=>if d≠-1∧c≠d then none else bC5 c r
theorem aSx:∀ (r:List Int) (d:Int),0<=d->bC5 d r=if (r.any fun c=>decide (c≠d))=true then none else some d
 | [],d,h=>rfl
 | c :: r,d,h=>by
  unfold bC5
  rw[List.any_cons]
  by_cases q:c=d
  ·subst q
   rw[if_neg (by simp),aSx r c h]
   simp
  ·rw[if_pos ⟨by omega,q⟩,decide_eq_true q,Bool.true_or,if_pos rfl]
def CLK (els:List aAP):Prop:=∀ e,e∈els->0<=e.2.2.2.2∧e.2.2.2.2<=3
theorem aYq {els:List aAP}(hC:CLK els){i:Int}(h0:0<=i)(h1:i<=(els.length:Int)-1):0<=aKw els i∧aKw els i<=3:=by
 obtain⟨e,h2,_,h3⟩:=aLM h0 h1
 rw[<- h3];exact hC e h2
theorem bKP {els:List aAP}(hC:CLK els){wr:List WrT}(hW:WIn els wr):bC5 (-1) (wr.map fun w=>aKw els w.1)=if aHz els wr=true then none else some (aNQ els wr):=by
 cases wr with
 | nil=>rfl
 | cons y t=>
  have hy:=hW y List.mem_cons_self
  have:=aYq hC hy.1 hy.2
  rw[List.map_cons,bC5,if_neg (by simp),aSx _ _ this.1]
  unfold aHz aNQ
  rw[List.any_cons,List.any_map,decide_eq_false (show ¬(aKw els y.1≠aKw els y.1) by simp),Bool.false_or]
  rfl
section
variable {N:Nat} {nm:ByteArray} {ins:List aAp} {els:List aAP} {nodes:List Nd} {rules:List aA1} {outs:List aAp} {attrs:List aCE}
theorem aK6 (k0:Int->Bool->Option R)(k1:Int->Option R){i:Int}{x:aA1}(hx:at? rules i=some x)(hl:x.2.2.length<=1000000)(hW:WIn els x.2.2):∀ (r:List WrT) (n j:Nat) (d:Int),x.2.2.drop j=r->r.length<n ->
  aBm N k0 k1 n i d j nm ins els nodes rules outs attrs=match bC5 d (r.map fun w=>aKw els w.1)with | none=>k0 0 false | some e=>k1 e
 | [],n,j,d,h,hn=>by
  obtain⟨n,rfl⟩:=sc hn
  rw[aBm,hx,aAe,aAc (aAm h)];rfl
 | y :: r,n,j,d,h,hn=>by
  obtain⟨n,rfl⟩:=sc hn
  obtain⟨g1,g2,g3⟩:=aAh h
  have hy:x.2.2[j]? = some y:=by rw[<- g2];unfold at?;simp
  have hw:=hW y (List.mem_of_getElem? hy)
  obtain⟨e,_,q2,q3⟩:=aLM hw.1 hw.2
  rw[aBm,hx,aAe,aAd (by omega),aAe,g2,aAe,q2,aAe,q3,aAl (by omega),aK6 k0 k1 hx hl hW r n (j+1) _ g3 (by simp at hn;omega),List.map_cons,bC5]
  by_cases c1:d=-1
  ·rw[aAc (by simpa using c1),if_neg (by simp[c1])]
  ·rw[aAd c1]
   by_cases c2:aKw els y.1=d
   ·rw[aAc (by simpa using c2),if_neg (by simp[c2])]
   ·rw[aAd c2,if_pos ⟨c1,c2⟩]
theorem bAc (hC:CLK els){i:Int}{x:aA1}(hx:at? rules i=some x)(hl:x.2.2.length<=1000000)(hN:x.2.2.length<N)(hW:WIn els x.2.2)(k:Int->Bool->Option R):aDb N nm ins els nodes rules outs attrs i k=if aHz els x.2.2=true then k 0 false else k (aNQ els x.2.2) true:=by
 unfold aDb
 refine (aK6 k _ hx hl hW x.2.2 N 0 (-1) rfl hN).trans ?_
 rw[bKP hC hW]
 split <;> rename_i q <;> split at q <;> simp_all
theorem aLp (hC:CLK els)(k0:Int->Option R)(k1:Option R)(hl:rules.length<=1000000)(hW:∀ x,x∈rules->x.2.2.length<=1000000∧x.2.2.length<N∧WIn els x.2.2):∀ (r:List aA1) (n i:Nat),rules.drop i=r->r.length<n ->
  aA4 N k0 k1 n i nm ins els nodes rules outs attrs=if aDI els r≠0 then k0 (aDI els r)else k1
 | [],n,i,h,hn=>by
  obtain⟨n,rfl⟩:=sc hn
  rw[aA4,aAc (aAm h)];rfl
 | x :: r,n,i,h,hn=>by
  obtain⟨n,rfl⟩:=sc hn
  obtain⟨g1,g2,g3⟩:=aAh h
  have hx:rules[i]? = some x:=by rw[<- g2];unfold at?;simp
  obtain⟨q1,q2,q3⟩:=hW x (List.mem_of_getElem? hx)
  rw[aA4,aAd (by omega),bAc hC g2 q1 q2 q3]
  cases c:aHz els x.2.2
  ·rw[if_neg (by simp),Bool.not_true,cond_false,aAl (by omega),aLp hC k0 k1 hl hW r n (i+1) g3 (by simp at hn;omega)]
   unfold aDI
   rw[List.any_cons,c,Bool.false_or]
  ·rw[if_pos rfl,Bool.not_false,cond_true]
   unfold aDI
   rw[List.any_cons,c,Bool.true_or,if_pos rfl,if_pos (by decide)]
theorem bAN (hN:1000<=N)(h:DH N nm ins els nodes rules outs attrs)(k:Int->Option R):aDd N nm ins els nodes rules outs attrs k=k (aHS nm ins els nodes rules outs attrs):=by
 unfold aDd aHS
 obtain⟨j,e⟩:=bFM hN nm (outs:=outs) (attrs:=attrs) h.ins.1 h.els.1 h.nodes.1 h.rules.1 (fun y1 y2=>(bif decide (y2≠0)then (k y2)else (aA4 N k (k 0) N 0 nm ins els nodes rules outs attrs)))
 refine e.trans ?_
 try dsimp only
 by_cases c:aHq nm ins els nodes rules outs attrs=0
 rotate_left
 ·rw[aAd c,if_pos c]
 rw[aAc (by simpa using c),if_neg (by simpa using c)]
 have hv:=bEG c
 refine (aLp (fun e he=>?_) k _ h.rules.1 (fun x hx=>⟨by have:=(aI6 hv hx).1;omega,by have:=(aI6 hv hx).1;omega,(aI6 hv hx).2⟩) rules N 0 rfl h.rules.2.1).trans ?_
 ·unfold aHq at c
  simp only[f1_0]at c
  exact aLw c.2.2.2.1 e he
 ·by_cases q:aDI els rules=0
  ·rw[if_neg (by simpa using q),q]
  ·rw[if_pos q]
theorem bJH {r:List aA1}(h:aDI els r=0):∀ x,x∈r->aHz els x.2.2=false:=by
 intro x hx
 cases c:aHz els x.2.2
 ·rfl
 ·unfold aDI at h
  rw[if_pos (List.any_eq_true.2 ⟨x,hx,c⟩)]at h
  exact absurd h (by decide)
end
section
variable {N:Nat} {nm:ByteArray} {ins:List aAp} {els:List aAP} {nodes:List Nd} {rules:List aA1} {outs:List aAp} {attrs:List aCE} {lw:List Int}
theorem bII {x:aA1}(hW:WIn els x.2.2)(k:Int->Option R):aDk N nm ins els nodes rules outs attrs lw x.1 x.2.1 x.2.2 k=k (aNQ els x.2.2):=by
 unfold aDk
 obtain⟨s,g,wr⟩:=x
 cases wr with
 | nil=>rfl
 | cons y t=>
  have hy:=hW y List.mem_cons_self
  show (bif decide ((((y :: t).length:Nat):Int)=0)then _ else _)=_
  rw[aAc (by simp;omega),show at? (y :: t) 0=some y from rfl,aAe,bIj N hy.1 hy.2]
  rfl
structure CV (N:Nat) (ins:List aAp) (els:List aAP) (nodes:List Nd) (rules:List aA1) (outs:List aAp):Prop where
 dv:DV ins els nodes rules outs
 clk:CLK els
 len:rules.length<=1000000∧rules.length<N
 wr:∀ x,x∈rules->x.2.2.length<=1000000∧x.2.2.length<N∧WIn els x.2.2
 cr:∀ x,x∈rules->aHz els x.2.2=false
theorem bDM (hN:1000<=N)(h:DH N nm ins els nodes rules outs attrs)(hc:aHS nm ins els nodes rules outs attrs=0):aHq nm ins els nodes rules outs attrs=0∧aDI els rules=0∧CV N ins els nodes rules outs:=by
 unfold aHS at hc
 by_cases c:aHq nm ins els nodes rules outs attrs=0
 ·rw[if_neg (by simpa using c)]at hc
  have hv:=bEG c
  refine⟨c,hc,hv,fun e he=>?_,⟨h.rules.1,h.rules.2.1⟩,fun x hx=>⟨by have:=(aI6 hv hx).1;omega,by have:=(aI6 hv hx).1;omega,(aI6 hv hx).2⟩,bJH hc⟩
  unfold aHq at c
  simp only[f1_0]at c
  exact aLw c.2.2.2.1 e he
 ·rw[if_pos c]at hc;exact absurd hc c
end
structure LB (ins:List aAp) (els:List aAP) (nodes:List Nd) (rules:List aA1) (outs:List aAp) (attrs:List aCE):Prop where
 n:nodes.length<=60
 r:rules.length<=8
 e:els.length<=12
 i:ins.length<=6
 o:outs.length<=6
 a:attrs.length<=4
 nA:∀ x,x∈nodes->x.2.2.1.length<=4
 rW:∀ x,x∈rules->x.2.2.length<=8
 aL:∀ x,x∈attrs->x.2.length<=20
section
variable {N:Nat} {nm:ByteArray} {ins:List aAp} {els:List aAP} {nodes:List Nd} {rules:List aA1} {outs:List aAp} {attrs:List aCE}
theorem aY4 (k0:Bool->Option R)(k1:KD (Option R))(hl:nodes.length<=1000):∀ (r:List Nd) (n i:Nat),nodes.drop i=r->r.length<n ->
  aCb N k0 k1 n i nm ins els nodes rules outs attrs=if (r.all fun x=>decide (x.2.2.1.length<=4))=true then k1 nm ins els nodes rules outs attrs else k0 false
 | [],n,i,h,hn=>by
  obtain⟨n,rfl⟩:=sc hn
  rw[aCb,aAc (aAm h)];rfl
 | x :: r,n,i,h,hn=>by
  obtain⟨n,rfl⟩:=sc hn
  obtain⟨g1,g2,g3⟩:=aAh h
  rw[aCb,aAd (by omega),g2,aAe,List.all_cons]
  by_cases c:x.2.2.1.length<=4
  ·rw[aAc (by omega),decide_eq_true c,Bool.true_and,aAl (by omega),aY4 k0 k1 hl r n (i+1) g3 (by simp at hn;omega)]
  ·rw[aAd (by omega),decide_eq_false c,Bool.false_and,if_neg (by simp)]
theorem aY6 (k0:Bool->Option R)(k1:KD (Option R))(hl:rules.length<=1000):∀ (r:List aA1) (n i:Nat),rules.drop i=r->r.length<n ->
  aB8 N k0 k1 n i nm ins els nodes rules outs attrs=if (r.all fun x=>decide (x.2.2.length<=8))=true then k1 nm ins els nodes rules outs attrs else k0 false
 | [],n,i,h,hn=>by
  obtain⟨n,rfl⟩:=sc hn
  rw[aB8,aAc (aAm h)];rfl
 | x :: r,n,i,h,hn=>by
  obtain⟨n,rfl⟩:=sc hn
  obtain⟨g1,g2,g3⟩:=aAh h
  rw[aB8,aAd (by omega),g2,aAe,List.all_cons]
  by_cases c:x.2.2.length<=8
  ·rw[aAc (by omega),decide_eq_true c,Bool.true_and,aAl (by omega),aY6 k0 k1 hl r n (i+1) g3 (by simp at hn;omega)]
  ·rw[aAd (by omega),decide_eq_false c,Bool.false_and,if_neg (by simp)]
theorem aZM (k0:Bool->Option R)(k1:Option R)(hl:attrs.length<=1000):∀ (r:List aCE) (n i:Nat),attrs.drop i=r->r.length<n ->
  aB6 N k0 k1 n i nm ins els nodes rules outs attrs=if (r.all fun x=>decide (x.2.length<=20))=true then k1 else k0 false
 | [],n,i,h,hn=>by
  obtain⟨n,rfl⟩:=sc hn
  rw[aB6,aAc (aAm h)];rfl
 | x :: r,n,i,h,hn=>by
  obtain⟨n,rfl⟩:=sc hn
  obtain⟨g1,g2,g3⟩:=aAh h
  rw[aB6,aAd (by omega),g2,aAe,List.all_cons]
  by_cases c:x.2.length<=20
  ·rw[aAc (by omega),decide_eq_true c,Bool.true_and,aAl (by omega),aZM k0 k1 hl r n (i+1) g3 (by simp at hn;omega)]
  ·rw[aAd (by omega),decide_eq_false c,Bool.false_and,if_neg (by simp)]
theorem bMy (hN:2000<=N)(k:Bool->Option R):aDs N nm ins els nodes rules outs attrs k=k false∨(aDs N nm ins els nodes rules outs attrs k=k true∧LB ins els nodes rules outs attrs):=by
 unfold aDs
 by_cases c1:nodes.length<=60
 rotate_left
 ·exact .inl (aAd (by omega))
 rw[aAc (by omega)]
 by_cases c2:rules.length<=8
 rotate_left
 ·exact .inl (aAd (by omega))
 rw[aAc (by omega)]
 by_cases c3:els.length<=12
 rotate_left
 ·exact .inl (aAd (by omega))
 rw[aAc (by omega)]
 by_cases c4:ins.length<=6
 rotate_left
 ·exact .inl (aAd (by omega))
 rw[aAc (by omega)]
 by_cases c5:outs.length<=6
 rotate_left
 ·exact .inl (aAd (by omega))
 rw[aAc (by omega)]
 by_cases c6:attrs.length<=4
 rotate_left
 ·exact .inl (aAd (by omega))
 rw[aAc (by omega)]
 have e0:=fun K=>aY4 (N:=N) (nm:=nm) (ins:=ins) (els:=els) (rules:=rules) (outs:=outs) (attrs:=attrs) k K (by omega) nodes N 0 rfl (by omega)
 rw[Int.natCast_zero]at e0
 rw[e0]
 by_cases c7:(nodes.all fun x=>decide (x.2.2.1.length<=4))=true
 rotate_left
 ·exact .inl (if_neg c7)
 rw[if_pos c7]
 have e1:=fun K=>aY6 (N:=N) (nm:=nm) (ins:=ins) (els:=els) (nodes:=nodes) (outs:=outs) (attrs:=attrs) k K (by omega) rules N 0 rfl (by omega)
 rw[Int.natCast_zero]at e1
 rw[e1]
 by_cases c8:(rules.all fun x=>decide (x.2.2.length<=8))=true
 rotate_left
 ·exact .inl (if_neg c8)
 rw[if_pos c8]
 have e2:=fun K=>aZM (N:=N) (nm:=nm) (ins:=ins) (els:=els) (nodes:=nodes) (rules:=rules) (outs:=outs) k K (by omega) attrs N 0 rfl (by omega)
 rw[Int.natCast_zero]at e2
 rw[e2]
 by_cases c9:(attrs.all fun x=>decide (x.2.length<=20))=true
 rotate_left
 ·exact .inl (if_neg c9)
 rw[if_pos c9]
 exact .inr ⟨rfl,c1,c2,c3,c4,c5,c6,fun x hx=>of_decide_eq_true (List.all_eq_true.1 c7 x hx),fun x hx=>of_decide_eq_true (List.all_eq_true.1 c8 x hx),fun x hx=>of_decide_eq_true (List.all_eq_true.1 c9 x hx)⟩
end
theorem aXC (m:Nat)(k:Bool->Option R):aFB (m+2000) k=k true:=by kernel_rfl
section
variable {N:Nat}
theorem aPa (k0:Bool->Option R)(k1:Option R)(l:List Int)(hl:l.length<=1000000):∀ (r:List Int) (n i:Nat),l.drop i=r->r.length<n->aCA N k0 k1 n l l i=k1
 | [],n,i,h,hn=>by
  obtain⟨n,rfl⟩:=sc hn
  rw[aCA,aAc (aAm h)]
 | x :: r,n,i,h,hn=>by
  obtain⟨n,rfl⟩:=sc hn
  obtain⟨g1,g2,g3⟩:=aAh h
  rw[aCA,aAd (by omega),g2,aAe,aAe,aAc (by simp),aAl (by omega)]
  exact aPa k0 k1 l hl r n (i+1) g3 (by simp at hn;omega)
theorem bDr (l:List Int)(hl:l.length<=1000000)(hN:l.length<N)(k:Bool->Option R):aCr N l l k=k true:=by
 unfold aCr
 rw[aAc (by simp)]
 exact aPa k (k true) l hl l N 0 rfl hN
end
def rsl (f:aAP->Bool):List aAP->List Int->List Int
 | e :: r,x :: s=>(bif f e then e.2.2.2.1 else x) :: rsl f r s
 | _,s=>s
theorem cAe (f:aAP->Bool):∀ (l:List aAP) (s:List Int),(rsl f l s).length=s.length
 | [],s=>by rw[rsl];intros;simp_all
 | e :: r,[]=>by rw[rsl];intros;simp_all
 | e :: r,x :: s=>by rw[rsl,List.length_cons,List.length_cons,cAe f r s]
theorem bYC (f:aAP->Bool)(s:List Int):rsl f [] s=s:=by unfold rsl;rfl
theorem bX9 (f:aAP->Bool)(e:aAP)(r:List aAP)(x:Int)(s:List Int):rsl f (e :: r) (x :: s)=(bif f e then e.2.2.2.1 else x) :: rsl f r s:=rfl
theorem cCi {ws l:List Int}:LV ws l↔l.length=ws.length∧bXX ws l=true:=by
 constructor
 ·intro h
  exact⟨h.1,(bYa ws l h.1).2 h.2⟩
 ·rintro ⟨h1,h2⟩
  exact⟨h1,(bYa ws l h1).1 h2⟩
theorem bZm (f:aAP->Bool):∀ (l:List aAP) (s:List Int),(∀ x,x∈l->vok x.2.2.1 x.2.2.2.1=true)->s.length=l.length->bXX (elW l) s=true->bXX (elW l) (rsl f l s)=true
 | [],s,_,hl,h=>by rw[bYC];exact h
 | e :: r,[],_,hl,h=>by simp at hl
 | e :: r,x :: s,hv,hl,h=>by
  have h':(vok e.2.2.1 x&&bXX (elW r) s)=true:=h
  rw[Bool.and_eq_true]at h'
  have ih:=bZm f r s (fun y hy=>hv y (List.mem_cons_of_mem _ hy)) (by simpa using hl) h'.2
  rw[bX9]
  show (vok e.2.2.1 _&&bXX (elW r) _)=true
  rw[ih,Bool.and_true]
  cases f e
  ·exact h'.1
  ·exact hv e List.mem_cons_self
theorem bZc (f:aAP->Bool){ins:List aAp}{els:List aAP}{nodes:List Nd}{rules:List aA1}{outs:List aAp}(hv:DV ins els nodes rules outs){s:List Int}(hs:LV (elW els) s):LV (elW els) (rsl f els s):=by
 rw[cCi]at hs ⊢
 have hw:(elW els).length=els.length:=by unfold elW;simp
 exact⟨by rw[cAe];exact hs.1,bZm f els s (fun x hx=>(hv.elsW x hx).2.2.1) (by omega) hs.2⟩
def bYQ (dom:Int)(e:aAP):Bool:=decide (e.2.1=1)&&decide (e.2.2.2.2=dom)
def tkL (nodes:List Nd)(els:List aAP)(dom:Int)(inp:List Int):Nat->List aA1->List Int->List Int->List Int×List Int
 | _,[],s,o=>(s,o)
 | i,x :: r,s,o=>if aNQ els x.2.2=dom∧w0 (dV nodes inp s) x.2.1.toNat=1 then tkL nodes els dom inp (i+1) r (hap (dV nodes inp s) x.2.2 s) (o++[(i:Int)])else tkL nodes els dom inp (i+1) r s o
theorem bYH {ins:List aAp}{els:List aAP}{nodes:List Nd}{rules:List aA1}{outs:List aAp}(hv:DV ins els nodes rules outs)(dom:Int){inp:List Int}(hi:LV (inW ins) inp):∀ (r:List aA1) (i:Nat) (s o:List Int),(∀ x,x∈r->x∈rules)->LV (elW els) s->LV (elW els) (tkL nodes els dom inp i r s o).1
 | [],i,s,o,hm,hs=>hs
 | x :: r,i,s,o,hm,hs=>by
  rw[tkL]
  split
  ·exact bYH hv dom hi r _ _ _ (fun y hy=>hm y (List.mem_cons_of_mem _ hy)) (bZp (cCa hv hi hs).2 _ s (hv.rulesW _ (hm x List.mem_cons_self)).2.2 hs)
  ·exact bYH hv dom hi r _ _ _ (fun y hy=>hm y (List.mem_cons_of_mem _ hy)) hs
theorem bYX (nodes:List Nd)(els:List aAP)(dom:Int)(inp:List Int):∀ (r:List aA1) (i:Nat) (s o:List Int),(tkL nodes els dom inp i r s o).2.length<=o.length+r.length
 | [],i,s,o=>by simp[tkL]
 | x :: r,i,s,o=>by
  rw[tkL]
  split
  ·refine Nat.le_trans (bYX nodes els dom inp r _ _ _) ?_
   rw[List.length_append,List.length_cons,List.length_cons,List.length_nil];omega
  ·refine Nat.le_trans (bYX nodes els dom inp r _ _ _) ?_
   rw[List.length_cons];omega
def tkS (nodes:List Nd)(els:List aAP)(rules:List aA1)(dom:Int)(inp s:List Int):List Int×List Int:=
 (rsl (bYQ dom) els (tkL nodes els dom inp 0 rules (rsl (bYQ dom) els s) []).1,(tkL nodes els dom inp 0 rules (rsl (bYQ dom) els s) []).2)
theorem bZb {ins:List aAp}{els:List aAP}{nodes:List Nd}{rules:List aA1}{outs:List aAp}(hv:DV ins els nodes rules outs)(dom:Int){inp s:List Int}(hi:LV (inW ins) inp)(hs:LV (elW els) s):LV (elW els) (tkS nodes els rules dom inp s).1:=
 bZc _ hv (bYH hv dom hi rules 0 _ [] (fun x hx=>hx) (bZc _ hv hs))
theorem cBy (nodes:List Nd)(els:List aAP)(rules:List aA1)(dom:Int)(inp s:List Int):(tkS nodes els rules dom inp s).2.length<=rules.length:=by
 have:=bYX nodes els dom inp rules 0 (rsl (bYQ dom) els s) []
 show (tkL nodes els dom inp 0 rules (rsl (bYQ dom) els s) []).2.length<=_
 simpa using this
def tkE (ins:List aAp)(dom:Int)(inp:List Int):Int:=if 0<=dom∧dom<=3 then bYl (inW ins) inp else 2
theorem bZy {ins:List aAp}{dom:Int}{inp:List Int}(h:tkE ins dom inp=0):(0<=dom∧dom<=3)∧LV (inW ins) inp:=by
 unfold tkE at h
 split at h
 ·exact⟨‹_›,valE_0.1 h⟩
 ·exact absurd h (by decide)
section
variable {N:Nat} {nm:ByteArray} {ins:List aAp} {els:List aAP} {nodes:List Nd} {rules:List aA1} {outs:List aAp} {attrs:List aCE} {lw:List Int}
theorem bY2 (N:Nat)(a lo hi:Int)(k:Bool->Option R):aCm N a lo hi k=k (decide (lo<=a∧a<=hi)):=by
 unfold aCm
 by_cases h:lo<=a <;> simp[h]
theorem bYu (N:Nat)(b:Bool)(e:Int)(k:Int->Option R):aA8 N b e k=k (if b=true then 0 else e):=by cases b <;> rfl
theorem bY1 (N:Nat)(hN:10<=N)(a b:Int)(k:Int->Option R):aHk N [a,b] k=k (f1 a b):=by
 obtain⟨M,rfl⟩:∃ M,N=M+3:=⟨N-3,by omega⟩
 have e0:at? [a,b] 0=some a:=rfl
 have e1:at? [a,b] 1=some b:=rfl
 have w1:w64 (0+1)=1:=rfl
 have w2:w64 (1+1)=2:=rfl
 unfold aHk f1
 rw[aG0,aAd (by simp),e0,aAe,w1]
 by_cases ha:a=0
 ·subst ha
  rw[aAc (by simp),if_pos rfl,aG0,aAd (by simp),e1,aAe,w2]
  by_cases hb:b=0
  ·subst hb;rw[aAc (by simp),aG0,aAc (by simp)]
  ·rw[aAd hb]
 ·rw[aAd ha,if_neg ha]
theorem bXH (p s:List Int)(x:Int):p++x :: s=(p++[x])++s:=by rw[List.append_assoc];rfl
theorem bYv (p s:List Int)(x v:Int){i:Nat}(h:p.length=i):(p++x :: s).set i v=(p++[v])++s:=by
 subst h
 rw[List.set_append_right _ _ (Nat.le_refl _),Nat.sub_self,<- bXH];rfl
theorem bYA (p s:List Int)(x:Int){i:Nat}(h:p.length=i):(p++x :: s)[i]? = some x:=by
 subst h
 rw[List.getElem?_append_right (Nat.le_refl _),Nat.sub_self];rfl
theorem bYw (p s:List Int)(x:Int){i:Nat}(h:p.length=i):inR (i:Int) (p++x :: s).length=true:=by
 unfold inR;simp;omega
theorem cAr (N:Nat)(x:aAP)(d:Int)(inp:List Int)(k:Bool->Int->List Int->Option R):aGf N x.1 x.2.1 x.2.2.1 x.2.2.2.1 x.2.2.2.2 d inp k=k (bYQ d x) d inp:=by
 unfold aGf bYQ
 by_cases h:x.2.1=1
 ·rw[aAd h,decide_eq_true h,Bool.true_and]
 ·rw[aAc h,decide_eq_false h,Bool.false_and]
theorem bXY (k0:List Int->Int->List Int->Option R)(l:List aAP)(hl:l.length<=1000000)(d:Int)(inp:List Int):∀ (r:List aAP) (n i:Nat) (p s:List Int),l.drop i=r->r.length<n->p.length=i->s.length=r.length ->
  aA7 N k0 n l l.length i (p++s) d inp=k0 (p++rsl (bYQ d) r s) d inp
 | [],n,i,p,s,h,hn,hp,hs=>by
  obtain⟨n,rfl⟩:=sc hn
  rw[aA7,aAc (aAm h),bYC]
 | x :: r,n,i,p,[],h,hn,hp,hs=>by simp at hs
 | x :: r,n,i,p,y :: s,h,hn,hp,hs=>by
  obtain⟨n,rfl⟩:=sc hn
  obtain⟨g1,g2,g3⟩:=aAh h
  rw[aA7,aAd (by omega),g2,aAe,cAr,bX9]
  cases bYQ d x
  ·rw[cond_false,cond_false,aAl (by omega),bXH,bXY k0 l hl d inp r n (i+1) (p++[y]) s g3 (by simp at hn;omega) (by simp[hp]) (by simpa using hs),<- bXH]
  ·rw[cond_true,cond_true,bYw p s y hp,cond_true,Int.toNat_natCast,bYA p s y hp,aAe,bYv p s y _ hp,aAl (by omega),bXY k0 l hl d inp r n (i+1) (p++[x.2.2.2.1]) s g3 (by simp at hn;omega) (by simp[hp]) (by simpa using hs),<- bXH]
theorem cA2 (hl:els.length<=1000000)(hN:els.length<N){s:List Int}(hs:s.length=els.length)(d:Int)(inp:List Int)(k:List Int->Int->List Int->Option R):aCg N nm ins els nodes rules outs attrs lw s d inp k=k (rsl (bYQ d) els s) d inp:=by
 unfold aCg
 exact bXY k els hl d inp els N 0 [] s rfl hN rfl hs
theorem bYD {s:List Int}(hs:LV (elW els) s):s.length=els.length:=by have:=hs.1;unfold elW at this;simpa using this
theorem bXV (hN:1000<=N)(h:DH N nm ins els nodes rules outs attrs)(hc:aHq nm ins els nodes rules outs attrs=0){d:Int}{inp:List Int}(hi:LV (inW ins) inp)(k0:KD (List Int->List Int->Int->List Int->List Int->Option R)):∀ (r:List aA1) (n i:Nat) (s o:List Int),rules.drop i=r->r.length<n->o.length<=i->LV (elW els) s ->
  aCH N k0 n nm ins els nodes rules outs attrs lw rules rules.length i d inp s o=k0 nm ins els nodes rules outs attrs lw (tkL nodes els d inp i r s o).1 d inp (tkL nodes els d inp i r s o).2
 | [],n,i,s,o,hd,hn,ho,hs=>by
  obtain⟨n,rfl⟩:=sc hn
  rw[aCH,aAc (aAm hd)];rfl
 | x :: r,n,i,s,o,hd,hn,ho,hs=>by
  obtain⟨n,rfl⟩:=sc hn
  obtain⟨g1,g2,g3⟩:=aAh hd
  have hv:=bEG hc
  have hx:rules[i]? = some x:=by rw[<- g2];unfold at?;simp
  have e:rules[i]=x:=by rw[List.getElem?_eq_getElem g1]at hx;exact Option.some.inj hx
  have hr:=h.rules.1
  rw[aCH,aAd (by omega),g2,aAe,bII (aI6 hv (List.mem_of_getElem? hx)).2,tkL]
  by_cases q:aNQ els x.2.2=d
  ·have hl:=bYj hv hi hs g1
   rw[aAc (by simpa using q),bYJ hN h hc hi hs g1,e]
   rw[e]at hl
   by_cases c:w0 (dV nodes inp s) x.2.1.toNat=1
   ·rw[if_pos c,if_pos ⟨q,c⟩,aAd rfl,aBs (by omega),cond_true,aAl (by omega),bXV hN h hc hi k0 r n (i+1) _ _ g3 (by simp at hn;omega) (by simp;omega) hl]
   ·rw[if_neg c,if_neg (fun z=>c z.2),aAc (by decide),aAl (by omega),bXV hN h hc hi k0 r n (i+1) _ _ g3 (by simp at hn;omega) (by omega) hs]
  ·rw[aAd q,if_neg (fun z=>q z.1),aAl (by omega),bXV hN h hc hi k0 r n (i+1) _ _ g3 (by simp at hn;omega) (by omega) hs]
theorem cCI (hN:1000<=N)(h:DH N nm ins els nodes rules outs attrs)(hc:aHq nm ins els nodes rules outs attrs=0)(d:Int){inp s:List Int}(hi:LV (inW ins) inp)(hs:LV (elW els) s)(k:List Int->List Int->Option R) :
  aFF N nm ins els nodes rules outs attrs lw d inp s k=k (tkS nodes els rules d inp s).1 (tkS nodes els rules d inp s).2:=by
 have hv:=bEG hc
 have he:=h.els
 have hl:=bYD hs
 unfold aFF
 rw[aBs (by omega),cond_true,cA2 he.1 he.2.1 hl]
 have hs2:=bZc (bYQ d) hv hs
 refine (bXV hN h hc hi _ rules N 0 _ [] rfl h.rules.2.1 (by simp) hs2).trans ?_
 try dsimp only
 rw[cA2 he.1 he.2.1 (bYD (bYH hv d hi rules 0 _ [] (fun x hx=>hx) hs2))]
 rfl
theorem bX8 (ws:List Int):bXX ws []=true:=by cases ws <;> rfl
theorem cCy (k0:Int->KD (List Int->Option R))(k1:KD (List Int->Option R))(hw:∀ x,x∈lw->wOK x=true)(hl:lw.length<=1000000)(l:List Int)(hll:l.length<=lw.length):∀ (r q:List Int) (n i:Nat),l.drop i=r->lw.drop i=q->r.length<n ->
  aB1 N k0 k1 n l l.length i nm ins els nodes rules outs attrs lw=if bXX q r=true then k1 nm ins els nodes rules outs attrs lw else k0 2 nm ins els nodes rules outs attrs lw
 | [],q,n,i,h,hq,hn=>by
  obtain⟨n,rfl⟩:=sc hn
  rw[aB1,aAc (aAm h),if_pos (bX8 q)]
 | x :: r,[],n,i,h,hq,hn=>by
  have h1:=(aAh h).1
  have:=List.drop_eq_nil_iff.1 hq
  omega
 | x :: r,w :: q,n,i,h,hq,hn=>by
  obtain⟨n,rfl⟩:=sc hn
  obtain⟨h1,h2,h3⟩:=aAh h
  obtain⟨p1,p2',p3⟩:=aAh hq
  have hb:=of_decide_eq_true (hw w (List.mem_of_mem_drop (hq▸List.mem_cons_self:w∈lw.drop i)))
  have hp:=aQ8 w;have hp2:=bDz hb.2
  rw[aB1,aAd (by omega),h2,aAe]
  unfold aFo
  rw[p2',aAe,aAc (by omega),aVr (by omega) (by omega),aDt (by omega) (by omega),bY2,bYu,show bXX (w :: q) (x :: r)=(vok w x&&bXX q r)from rfl,show decide (0<=x∧x<=p2 w-1)=vok w x from rfl]
  cases vok w x
  ·rw[if_neg (by simp)]
   try dsimp only
   rw[aAd (by decide),Bool.false_and,if_neg (by simp)]
  ·rw[if_pos rfl]
   try dsimp only
   rw[aAc (by simp),aAl (by omega),Bool.true_and]
   exact cCy k0 k1 hw hl l hll r q n (i+1) h3 p3 (by simp at hn;omega)
theorem bY6:∀ (a b l:List Int),l.length=a.length->bXX (a++b) l=bXX a l
 | [],b,l,h=>by
  obtain rfl:l=[]:=List.eq_nil_of_length_eq_zero (by simpa using h)
  rw[bX8,bX8]
 | w :: a,b,[],h=>by simp at h
 | w :: a,b,x :: l,h=>by
  show (vok w x&&bXX (a++b) l)=(vok w x&&bXX a l)
  rw[bY6 a b l (by simpa using h)]
theorem cDe (hv:DV ins els nodes rules outs):∀ x,x∈aIV ins els->wOK x=true:=by
 intro x hx
 unfold aIV at hx
 rcases List.mem_append.1 hx with hx | hx
 ·obtain⟨p,hp,rfl⟩:=List.mem_map.1 hx;exact hv.insW p hp
 ·obtain⟨p,hp,rfl⟩:=List.mem_map.1 hx;exact (hv.elsW p hp).2.1
theorem bZz (hN:1000<=N)(h:DH N nm ins els nodes rules outs attrs)(hv:DV ins els nodes rules outs)(d:Int)(inp:List Int)(k:Int->Option R):aFp N nm ins els nodes rules outs attrs (aIV ins els) d inp k=k (tkE ins d inp):=by
 have hi:=h.ins;have he:=h.els
 have hlw:(aIV ins els).length=ins.length+els.length:=by unfold aIV;simp
 have hiw:(inW ins).length=ins.length:=by unfold inW;simp
 have h40:=(aOj hv.chk).1
 unfold aFp tkE bYl
 rw[bY2,bYu,bYu,bY1 N (by omega)]
 by_cases c:0<=d∧d<=3
 ·rw[decide_eq_true c,if_pos rfl,aGq,if_pos c]
  by_cases c2:inp.length=ins.length
  ·have c3:((inp.length:Nat):Int)=((ins.length:Nat):Int):=by omega
   rw[decide_eq_true c3,if_pos rfl,aAc (by simp),if_pos (c2.trans hiw.symm)]
   unfold aDq
   refine (cCy _ _ (cDe hv) (by omega) inp (by omega) inp (aIV ins els) N 0 rfl rfl (by omega)).trans ?_
   rw[show aIV ins els=inW ins++elW els from rfl,bY6 _ _ _ (by omega)]
   split <;> rfl
  ·have c3:¬((inp.length:Nat):Int)=((ins.length:Nat):Int):=by omega
   rw[decide_eq_false c3,if_neg (by simp),aAd (by decide),if_neg (fun z=>c2 (z.trans hiw))]
 ·rw[decide_eq_false c,if_neg (by simp),aKn (by decide),aAd (by decide),if_neg c]
end
section
variable {N:Nat} {nm:ByteArray} {ins:List aAp} {els:List aAP} {nodes:List Nd} {rules:List aA1} {outs:List aAp} {attrs:List aCE} {lw:List Int}
def cC7 (e:aAP):Bool:=decide (e.2.1=1)
theorem bXZ (N:Nat)(k0:List Int->Option R)(l:List aAP)(hl:l.length<=1000000):∀ (r:List aAP) (n i:Nat) (p s:List Int),l.drop i=r->r.length<n->p.length=i->s.length=r.length ->
  bW2 N k0 n l l.length i (p++s)=k0 (p++rsl cC7 r s)
 | [],n,i,p,s,h,hn,hp,hs=>by
  obtain⟨n,rfl⟩:=sc hn
  rw[bW2,aAc (aAm h),bYC]
 | x :: r,n,i,p,[],h,hn,hp,hs=>by simp at hs
 | x :: r,n,i,p,y :: s,h,hn,hp,hs=>by
  obtain⟨n,rfl⟩:=sc hn
  obtain⟨g1,g2,g3⟩:=aAh h
  rw[bW2,aAd (by omega),g2,aAe,bX9]
  unfold cC7
  by_cases c:x.2.1=1
  ·rw[aAd c,decide_eq_true c,cond_true,bYw p s y hp,cond_true,Int.toNat_natCast,bYA p s y hp,aAe,bYv p s y _ hp,aAl (by omega),bXZ N k0 l hl r n (i+1) (p++[x.2.2.2.1]) s g3 (by simp at hn;omega) (by simp[hp]) (by simpa using hs),<- bXH];rfl
  ·rw[aAc c,decide_eq_false c,cond_false,aAl (by omega),bXH,bXZ N k0 l hl r n (i+1) (p++[y]) s g3 (by simp at hn;omega) (by simp[hp]) (by simpa using hs),<- bXH];rfl
theorem cBX (hN:1000<=N)(h:DH N nm ins els nodes rules outs attrs)(hc:aHq nm ins els nodes rules outs attrs=0)(s:List Int)(k:List Int->Int->Option R) :
  bXJ N nm ins els nodes rules outs attrs s k=if bYl (elW els) s≠0 then k [] (bYl (elW els) s)else k (rsl cC7 els s) 0:=by
 have hv:=bEG hc
 have he:=h.els
 unfold bXJ
 rw[bYO hN h,hc]
 try dsimp only
 rw[aAd rfl,cBd h hv]
 by_cases c:bYl (elW els) s=0
 ·have hs:=bYD (valE_0.1 c)
  rw[if_neg (by simpa using c),c,aAc (by simp)]
  unfold bXw
  rw[aBs (by omega),cond_true]
  exact bXZ N _ els he.1 els N 0 [] s rfl he.2.1 rfl hs
 ·rw[if_pos c,aAd c]
theorem cCM (hN:1000<=N)(h:DH N nm ins els nodes rules outs attrs)(d:Int)(inp s:List Int)(k:List Int->List Int->Int->Option R) :
  bXP N nm ins els nodes rules outs attrs d inp s k=if aHS nm ins els nodes rules outs attrs≠0 then k [] [] (aHS nm ins els nodes rules outs attrs)else if f1 (tkE ins d inp) (bYl (elW els) s)≠0 then k [] [] (f1 (tkE ins d inp) (bYl (elW els) s))else k (tkS nodes els rules d inp s).1 (tkS nodes els rules d inp s).2 0:=by
 unfold bXP
 rw[aY8 hN h]
 by_cases c:aHS nm ins els nodes rules outs attrs=0
 ·obtain⟨c1,c2,hv⟩:=bDM hN h c
  rw[if_neg (by simpa using c1),if_neg (by simpa using c),c2,aAc (by simp),cBX hN h c1]
  have key:∀ t e:_,e=bYl (elW els) s->aFp N nm ins els nodes rules outs attrs (aIV ins els) d inp (fun y15=>(aHk N [y15,e] (fun y16=>(bif decide (y16≠0)then (k [] [] y16)else (aFF N nm ins els nodes rules outs attrs (aIV ins els) d inp s (fun y17 y18=>(k y17 y18 0)))))))=(fun (_:List Int)=>if f1 (tkE ins d inp) (bYl (elW els) s)≠0 then k [] [] (f1 (tkE ins d inp) (bYl (elW els) s))else k (tkS nodes els rules d inp s).1 (tkS nodes els rules d inp s).2 0) t:=by
   rintro t e rfl
   rw[bZz hN h hv.dv,bY1 N (by omega)]
   try dsimp only
   by_cases q:f1 (tkE ins d inp) (bYl (elW els) s)=0
   ·obtain⟨q1,q2⟩:=f1_0.1 q
    rw[aAc (by simpa using q),if_neg (by simpa using q),cCI hN h c1 d (bZy q1).2 (valE_0.1 q2)]
   ·rw[aAd q,if_pos q]
  by_cases c3:bYl (elW els) s=0
  ·rw[if_neg (by simpa using c3)]
   exact key [] 0 c3.symm
  ·rw[if_pos c3]
   exact key [] _ rfl
 ·rw[if_pos c]
  by_cases c1:aHq nm ins els nodes rules outs attrs=0
  ·have e:aHS nm ins els nodes rules outs attrs=aDI els rules:=by unfold aHS;rw[if_neg (by simpa using c1)]
   rw[if_neg (by simpa using c1),<- e,aAd c]
  ·have e:aHS nm ins els nodes rules outs attrs=aHq nm ins els nodes rules outs attrs:=by unfold aHS;rw[if_pos c1]
   rw[if_pos c1,aAd c1,e]
theorem bYh (k0:List Int->Option R)(hl:els.length<=1000000)(d:Int):∀ (r:List aAP) (n i:Nat) (p s:List Int),els.drop i=r->r.length<n->p.length=i->s.length=r.length ->
  bWZ N k0 n d i nm ins els nodes rules outs attrs (p++s)=k0 (p++rsl (bYQ d) r s)
 | [],n,i,p,s,h,hn,hp,hs=>by
  obtain⟨n,rfl⟩:=sc hn
  rw[bWZ,aAc (aAm h),bYC]
 | x :: r,n,i,p,[],h,hn,hp,hs=>by simp at hs
 | x :: r,n,i,p,y :: s,h,hn,hp,hs=>by
  obtain⟨n,rfl⟩:=sc hn
  obtain⟨g1,g2,g3⟩:=aAh h
  have ih:=fun v=>bYh k0 hl d r n (i+1) (p++[v]) s g3 (by simp at hn;omega) (by simp[hp]) (by simpa using hs)
  rw[bWZ,aAd (by omega),g2,aAe,bX9]
  unfold bYQ
  by_cases c:x.2.1=1
  ·rw[aAd c,decide_eq_true c,Bool.true_and,aAe]
   by_cases c2:x.2.2.2.2=d
   ·rw[aAd c2,decide_eq_true c2,cond_true,aAe,bYw p s y hp,cond_true,Int.toNat_natCast,bYA p s y hp,aAe,bYv p s y _ hp,aAl (by omega),ih,<- bXH];rfl
   ·rw[aAc c2,decide_eq_false c2,cond_false,aAl (by omega),bXH,ih,<- bXH];rfl
  ·rw[aAc c,decide_eq_false c,Bool.false_and,cond_false,aAl (by omega),bXH,ih,<- bXH];rfl
theorem cAR (hl:els.length<=1000000)(hN:els.length<N){s:List Int}(hs:s.length=els.length)(d:Int)(k:List Int->Option R):bXv N nm ins els nodes rules outs attrs d s k=k (rsl (bYQ d) els s):=by
 unfold bXv
 rw[aK2 N s (by omega)]
 exact bYh k hl d els N 0 [] s rfl hN rfl hs
theorem bXW (hN:1000<=N)(hv:CV N ins els nodes rules outs){d:Int}{inp:List Int}(hi:LV (inW ins) inp)(k0:List Int->KD (Int->List Int->List Int->Option R)):∀ (r:List aA1) (n i:Nat) (s o:List Int),rules.drop i=r->r.length<n->o.length<=i->LV (elW els) s ->
  bW6 N k0 n s i nm ins els nodes rules outs attrs d inp o=k0 (tkL nodes els d inp i r s o).1 nm ins els nodes rules outs attrs d inp (tkL nodes els d inp i r s o).2
 | [],n,i,s,o,hd,hn,ho,hs=>by
  obtain⟨n,rfl⟩:=sc hn
  rw[bW6,aAc (aAm hd)];rfl
 | x :: r,n,i,s,o,hd,hn,ho,hs=>by
  obtain⟨n,rfl⟩:=sc hn
  obtain⟨g1,g2,g3⟩:=aAh hd
  have hx:rules[i]? = some x:=by rw[<- g2];unfold at?;simp
  have hm:=List.mem_of_getElem? hx
  have e:rules[i]=x:=by rw[List.getElem?_eq_getElem g1]at hx;exact Option.some.inj hx
  have hr:=hv.len.1
  obtain⟨q1,q2,q3⟩:=hv.wr x hm
  rw[bW6,aAd (by omega),bAc hv.clk g2 q1 q2 q3,hv.cr x hm,if_neg (by simp),tkL]
  by_cases q:aNQ els x.2.2=d
  ·have hl:=bYj hv.dv hi hs g1
   rw[aAd q,cAo hN hv.dv hi hs g1,e]
   rw[e]at hl
   by_cases c:w0 (dV nodes inp s) x.2.1.toNat=1
   ·rw[decide_eq_true c,cond_true,if_pos ⟨q,c⟩,bZP hN hv.dv hi hs g1,e,aBs (by omega),cond_true,aAl (by omega),bXW hN hv hi k0 r n (i+1) _ _ g3 (by simp at hn;omega) (by simp;omega) hl]
   ·rw[decide_eq_false c,cond_false,if_neg (fun z=>c z.2),aAl (by omega),bXW hN hv hi k0 r n (i+1) _ _ g3 (by simp at hn;omega) (by omega) hs]
  ·rw[aAc q,if_neg (fun z=>q z.1),aAl (by omega),bXW hN hv hi k0 r n (i+1) _ _ g3 (by simp at hn;omega) (by omega) hs]
theorem cCJ (hN:1000<=N)(he:els.length<N∧els.length<=1000000)(hv:CV N ins els nodes rules outs)(d:Int){inp s:List Int}(hi:LV (inW ins) inp)(hs:LV (elW els) s)(k:List Int->List Int->Option R) :
  bXB N nm ins els nodes rules outs attrs d inp s k=k (tkS nodes els rules d inp s).1 (tkS nodes els rules d inp s).2:=by
 have hl:=bYD hs
 have hs2:=bZc (bYQ d) hv.dv hs
 unfold bXB
 rw[cAR he.2 he.1 hl]
 refine (bXW hN hv hi _ rules N 0 _ [] rfl hv.len.2 (by simp) hs2).trans ?_
 try dsimp only
 rw[cAR he.2 he.1 (bYD (bYH hv.dv d hi rules 0 _ [] (fun x hx=>hx) hs2))]
 rfl
theorem bYr (k0:Bool->Option R)(k1:Option R)(ws l:List Int)(hw:∀ x,x∈ws->wOK x=true)(hl:l.length<=1000000)(hll:l.length=ws.length):∀ (r q:List Int) (n i:Nat),l.drop i=r->ws.drop i=q->r.length<n ->
  bXc N k0 k1 n ws l i=if bXX q r=true then k1 else k0 false
 | [],q,n,i,h,hq,hn=>by
  obtain⟨n,rfl⟩:=sc hn
  rw[bXc,aAc (aAm h),if_pos (bX8 q)]
 | x :: r,[],n,i,h,hq,hn=>by
  have h1:=(aAh h).1
  have:=List.drop_eq_nil_iff.1 hq
  omega
 | x :: r,w :: q,n,i,h,hq,hn=>by
  obtain⟨n,rfl⟩:=sc hn
  obtain⟨h1,h2,h3⟩:=aAh h
  obtain⟨p1,p2',p3⟩:=aAh hq
  have hb:=of_decide_eq_true (hw w (List.mem_of_mem_drop (hq▸List.mem_cons_self:w∈ws.drop i)))
  rw[bXc,aAd (by omega),h2,aAe,p2',aAe,aSq N x (by omega) hb.2,show bXX (w :: q) (x :: r)=(vok w x&&bXX q r)from rfl]
  cases vok w x
  ·rw[Bool.not_false,cond_true,Bool.false_and,if_neg (by simp)]
  ·rw[Bool.not_true,cond_false,Bool.true_and,aAl (by omega)]
   exact bYr k0 k1 ws l hw hl hll r q n (i+1) h3 p3 (by simp at hn;omega)
theorem cBU (ws l:List Int)(hw:∀ x,x∈ws->wOK x=true)(hl:ws.length<=1000000)(hN:ws.length<N)(k:Int->Option R):bXr N ws l k=k (bYl ws l):=by
 unfold bXr bYl
 by_cases c:l.length=ws.length
 ·rw[aAc (by omega),if_pos c]
  unfold bXI
  rw[aAc (by omega)]
  refine (bYr _ _ ws l hw (by omega) c l ws N 0 rfl rfl (by omega)).trans ?_
  split <;> rfl
 ·rw[aAd (by omega),if_neg c]
theorem cCq (hv:DV ins els nodes rules outs):∀ x,x∈inW ins->wOK x=true:=by
 intro x hx
 obtain⟨p,hp,rfl⟩:=List.mem_map.1 hx;exact hv.insW p hp
theorem cAp (hN:1000<=N)(hv:DV ins els nodes rules outs)(d:Int)(inp:List Int)(k:Int->Option R):bXx N nm ins els nodes rules outs attrs d inp k=k (tkE ins d inp):=by
 have h40:=(aOj hv.chk).1
 have hlw:(aIV ins els).length=ins.length+els.length:=by unfold aIV;simp
 have hiw:(inW ins).length=ins.length:=by unfold inW;simp
 unfold bXx tkE
 rw[aD5]
 by_cases c:0<=d∧d<=3
 ·rw[decide_eq_true c,Bool.not_true,cond_false,if_pos c]
  unfold bXC
  rw[bF9 hN nm nodes rules outs attrs (by omega) (by omega)]
  rw[show slP 0 ((ins.length:Nat):Int) (aIV ins els).length=true by unfold slP;simp;omega,cond_true,List.drop_zero,show List.take ins.length (aIV ins els)=inW ins by unfold aIV;rw[List.take_append_of_le_length (by simp),List.take_of_length_le (by simp)];rfl]
  exact cBU _ _ (cCq hv) (by omega) (by omega) k
 ·rw[decide_eq_false c,Bool.not_false,cond_true,if_neg c]
end
def bYn:Nat->Nat->Nat
 | 0,_=>0
 | k+1,x=>x%2+bYn k (x/2)
theorem cAz:∀ k,bYn k 0=0
 | 0=>rfl
 | k+1=>by unfold bYn;rw[Nat.zero_div,cAz k]
theorem bYE (m b:Nat):∀ (k a:Nat),a<2^k->bYn (k+m) (a+2^k*b)=bYn k a+bYn m b
 | 0,a,h=>by
  obtain rfl:a=0:=by simpa using h
  simp[bYn]
 | k+1,a,h=>by
  rw[show k+1+m=(k+m)+1 by omega,bYn,bYn]
  have e:2^(k+1)*b=2*(2^k*b):=by rw[Nat.pow_succ,Nat.mul_comm (2^k) 2,Nat.mul_assoc]
  have e2:2^(k+1)=2*2^k:=by rw[Nat.pow_succ,Nat.mul_comm]
  rw[e,show (a+2*(2^k*b))%2=a%2 by omega,show (a+2*(2^k*b))/2=a/2+2^k*b by omega,bYE m b k (a/2) (by omega)]
  omega
theorem bYP:∀ k x,bYn k x<=k
 | 0,_=>Nat.le_refl _
 | k+1,x=>by have:=bYP k (x/2);unfold bYn;omega
theorem cCk {w x:Nat}(hw:w<=16)(hx:x<2^w):bYn 16 x=bYn w x:=by
 have:=bYE (16-w) 0 w x hx
 rw[cAz,Nat.mul_zero,Nat.add_zero,Nat.add_zero,show w+(16-w)=16 by omega]at this
 exact this
theorem bYc (a b c d:Nat)(ha:a<256)(hc:c<256):(a+256*b) &&& (c+256*d)=(a &&& c)+256*(b &&& d):=by
 have h:a &&& c<2^8:=Nat.lt_of_le_of_lt Nat.and_le_left (by omega)
 refine Nat.eq_of_testBit_eq fun j=>?_
 rw[Nat.testBit_and,Nat.add_comm a,Nat.add_comm c,Nat.add_comm (a &&& c),show 256=2^8 from rfl,Nat.testBit_two_pow_mul_add _ (by omega),Nat.testBit_two_pow_mul_add _ (by omega),Nat.testBit_two_pow_mul_add _ h]
 split
 ·rw[Nat.testBit_and]
 ·rw[Nat.testBit_and]
def s1 (a:Nat):Nat:=(a/2 &&& 85)+(a &&& 85)
def s2 (a:Nat):Nat:=(a/4 &&& 51)+(a &&& 51)
def s3 (a:Nat):Nat:=(a/16+a)%16
theorem cDH (a:Nat)(h:a<256)(c:Nat)(hc:c<2):(a/2+128*c &&& 85)=(a/2 &&& 85):=by
 have:∀ a:Fin 256,∀ c:Fin 2,(a.1/2+128*c.1 &&& 85)=(a.1/2 &&& 85):=by decide +kernel
 exact this ⟨a,h⟩ ⟨c,hc⟩
theorem cDR (a:Nat)(h:a<256)(c:Nat)(hc:c<4):(a/4+64*c &&& 51)=(a/4 &&& 51):=by
 have:∀ a:Fin 256,∀ c:Fin 4,(a.1/4+64*c.1 &&& 51)=(a.1/4 &&& 51):=by decide +kernel
 exact this ⟨a,h⟩ ⟨c,hc⟩
theorem cCQ (a:Nat)(h:a<256):s1 a<256∧(s2 (s1 a)<=68∧s2 (s1 a)%16<=4)∧s3 (s2 (s1 a))=bYn 8 a:=by
 have:∀ a:Fin 256,s1 a.1<256∧(s2 (s1 a.1)<=68∧s2 (s1 a.1)%16<=4)∧s3 (s2 (s1 a.1))=bYn 8 a.1:=by decide +kernel
 exact this ⟨a,h⟩
theorem S1 (a b:Nat)(ha:a<256)(hb:b<256):((a+256*b)/2 &&& 21845)+((a+256*b) &&& 21845)=s1 a+256*s1 b:=by
 rw[show (a+256*b)/2=(a/2+128*(b%2))+256*(b/2) by omega,show 21845=85+256*85 from rfl,bYc _ _ _ _ (by omega) (by omega),bYc _ _ _ _ ha (by omega),cDH a ha _ (by omega)]
 unfold s1;omega
theorem S2 (a b:Nat)(ha:a<256)(hb:b<256):((a+256*b)/4 &&& 13107)+((a+256*b) &&& 13107)=s2 a+256*s2 b:=by
 rw[show (a+256*b)/4=(a/4+64*(b%4))+256*(b/4) by omega,show 13107=51+256*51 from rfl,bYc _ _ _ _ (by omega) (by omega),bYc _ _ _ _ ha (by omega),cDR a ha _ (by omega)]
 unfold s2;omega
theorem cCu (n:Nat):n &&& 15=n%16:=by
 rw[show 15=2^4-1 from rfl,Nat.and_two_pow_sub_one_eq_mod]
theorem S3 (a b:Nat)(ha:a<=68)(hb:b<=68∧b%16<=4):((a+256*b)/16+(a+256*b)) &&& 3855=s3 a+256*s3 b:=by
 rw[show (a+256*b)/16+(a+256*b)=(a/16+16*(b%16)+a)+256*(b/16+b) by omega,show 3855=15+256*15 from rfl,bYc _ _ _ _ (by omega) (by omega),cCu,cCu]
 unfold s3;omega
theorem bYN {n:Int}(h0:0<=n)(h1:n<18446744073709551616):IntKind.wrap .u64 n=n:=by
 show n%2^64=n
 exact Int.emod_eq_of_lt h0 (by simpa using h1)
theorem cCm (n m:Nat)(hn:n<65536)(hm:m<18446744073709551616):bLe .u64 (n:Int) (m:Int)=((n &&& m%65536:Nat):Int):=by
 have e:(BitVec.ofInt 64 (n:Int) &&& BitVec.ofInt 64 (m:Int)).toNat=n &&& m:=by
  rw[BitVec.toNat_and,BitVec.ofInt_natCast,BitVec.ofInt_natCast,BitVec.toNat_ofNat,BitVec.toNat_ofNat,Nat.mod_eq_of_lt (by omega),Nat.mod_eq_of_lt (by omega)]
 have l:n &&& m<65536:=Nat.lt_of_le_of_lt Nat.and_le_left hn
 have e2:n &&& m=n &&& m%65536:=by
  have:=Nat.and_mod_two_pow (a:=n) (b:=m) (n:=16)
  rw[show 2^16=65536 from rfl,Nat.mod_eq_of_lt l,Nat.mod_eq_of_lt hn]at this
  exact this
 show IntKind.wrap .u64 (((BitVec.ofInt 64 (n:Int) &&& BitVec.ofInt 64 (m:Int)).toNat:Nat):Int)=_
 rw[e,bYN (by omega) (by omega),e2]
theorem cCU (n k:Nat)(hk:k<=64):aLT .u64 (n:Int) (k:Int)=((n/2^k:Nat):Int):=by
 unfold aLT
 rw[show min ((k:Int)).toNat (IntKind.bits .u64)=k by show min k 64=k;omega,Int.fdiv_eq_ediv_of_nonneg _ (by exact Int.le_of_lt (Int.pow_pos (by omega)))]
 norm_cast
theorem cCD (n:Nat)(h:n<65536):bLe .i64 (w64 (n:Int)) 127=((n%128:Nat):Int):=by
 have e:(BitVec.ofInt 64 (n:Int) &&& BitVec.ofInt 64 (127:Int)).toNat=n%128:=by
  rw[BitVec.toNat_and,BitVec.ofInt_natCast,show (127:Int)=((127:Nat):Int)from rfl,BitVec.ofInt_natCast,BitVec.toNat_ofNat,BitVec.toNat_ofNat,Nat.mod_eq_of_lt (by omega),Nat.mod_eq_of_lt (by omega),show 127=2^7-1 from rfl,Nat.and_two_pow_sub_one_eq_mod]
 rw[aDt (by omega) (by omega)]
 show IntKind.wrap .i64 (((BitVec.ofInt 64 (n:Int) &&& BitVec.ofInt 64 (127:Int)).toNat:Nat):Int)=_
 rw[e]
 exact aDt (by omega) (by omega)
theorem bZr (N:Nat)(x:Nat)(hx:x<65536)(k:Int->Option R):bXN N (x:Int) k=k ((bYn 16 x:Nat):Int):=by
 obtain⟨a,b,ha,hb,rfl⟩:∃ a b:Nat,a<256∧b<256∧x=a+256*b:=⟨x%256,x/256,by omega,by omega,by omega⟩
 obtain⟨p1,p2',p3⟩:=cCQ a ha
 obtain⟨q1,q2,q3⟩:=cCQ b hb
 have l3:s3 (s2 (s1 a))<=8:=by rw[p3];exact bYP 8 a
 have l4:s3 (s2 (s1 b))<=8:=by rw[q3];exact bYP 8 b
 have hp:bYn 16 (a+256*b)=s3 (s2 (s1 a))+s3 (s2 (s1 b)):=by rw[p3,q3];exact bYE 8 b 8 a ha
 have e1:IntKind.wrap .u64 ((bLe .u64 (aLT .u64 ((a+256*b:Nat):Int) 1) 6148914691236517205)+(bLe .u64 ((a+256*b:Nat):Int) 6148914691236517205))=((s1 a+256*s1 b:Nat):Int):=by
  have t:=S1 a b ha hb
  rw[show (1:Int)=((1:Nat):Int)from rfl,cCU _ 1 (by omega),show (6148914691236517205:Int)=((6148914691236517205:Nat):Int)from rfl,cCm _ _ (by omega) (by omega),cCm _ _ hx (by omega),show 6148914691236517205%65536=21845 from rfl,Nat.pow_one]
  rw[bYN (by omega) (by omega)]
  omega
 generalize hA:s1 a=A at *
 generalize hB:s1 b=B at *
 have e2:IntKind.wrap .u64 ((bLe .u64 (aLT .u64 ((A+256*B:Nat):Int) 2) 3689348814741910323)+(bLe .u64 ((A+256*B:Nat):Int) 3689348814741910323))=((s2 A+256*s2 B:Nat):Int):=by
  have t:=S2 A B p1 q1
  rw[show (2:Int)=((2:Nat):Int)from rfl,cCU _ 2 (by omega),show (3689348814741910323:Int)=((3689348814741910323:Nat):Int)from rfl,cCm _ _ (by omega) (by omega),cCm _ _ (by omega) (by omega),show 3689348814741910323%65536=13107 from rfl,show 2^2=4 from rfl]
  rw[bYN (by omega) (by omega)]
  omega
 generalize hC:s2 A=C at *
 generalize hD:s2 B=D at *
 have e3:bLe .u64 (IntKind.wrap .u64 ((aLT .u64 ((C+256*D:Nat):Int) 4)+((C+256*D:Nat):Int))) 1085102592571150095=((s3 C+256*s3 D:Nat):Int):=by
  have t:=S3 C D p2'.1 q2
  rw[show (4:Int)=((4:Nat):Int)from rfl,cCU _ 4 (by omega),show 2^4=16 from rfl,bYN (by omega) (by omega),show (((C+256*D)/16:Nat):Int)+((C+256*D:Nat):Int)=(((C+256*D)/16+(C+256*D):Nat):Int) by omega,show (1085102592571150095:Int)=((1085102592571150095:Nat):Int)from rfl,cCm _ _ (by omega) (by omega),show 1085102592571150095%65536=3855 from rfl,t]
 generalize hE:s3 C=E at *
 generalize hF:s3 D=F at *
 have e4:IntKind.wrap .u64 ((aLT .u64 ((E+256*F:Nat):Int) 8)+((E+256*F:Nat):Int))=((E+F+256*F:Nat):Int):=by
  rw[show (8:Int)=((8:Nat):Int)from rfl,cCU _ 8 (by omega),show 2^8=256 from rfl,bYN (by omega) (by omega)]
  omega
 have e4':IntKind.wrap .u64 (((E+256*F:Nat):Int)+(aLT .u64 ((E+256*F:Nat):Int) 8))=((E+F+256*F:Nat):Int):=by rw[Int.add_comm];exact e4
 have e5:∀ j:Nat,16<=j->j<=64->IntKind.wrap .u64 (((E+F+256*F:Nat):Int)+(aLT .u64 ((E+F+256*F:Nat):Int) (j:Int)))=((E+F+256*F:Nat):Int):=by
  intro j hj hj2
  have:(E+F+256*F)/2^j=0:=Nat.div_eq_of_lt (Nat.lt_of_lt_of_le (show E+F+256*F<2^16 by omega) (Nat.pow_le_pow_right (by omega) hj))
  rw[cCU _ j hj2,this,bYN (by omega) (by omega)]
  omega
 have e6:=e5 16 (by omega) (by omega)
 have e7:=e5 32 (by omega) (by omega)
 rw[show ((16:Nat):Int)=16 from rfl]at e6
 rw[show ((32:Nat):Int)=32 from rfl]at e7
 unfold bXN bXO
 simp only[e1,e2,e3,e4,e4',e6,e7]
 have e8:(E+F+256*F)%128=E+F:=by omega
 rw[cCD _ (by omega),e8,hp]
abbrev TkT:=Int×List Int
def bYx (nodes:List Nd)(els:List aAP)(rules:List aA1):List TkT->List Int->List (List Int)
 | [],_=>[]
 | x :: r,s=>(tkS nodes els rules x.1 x.2 s).1 :: bYx nodes els rules r (tkS nodes els rules x.1 x.2 s).1
theorem bYb (nodes:List Nd)(els:List aAP)(rules:List aA1):∀ (l:List TkT) (s:List Int),(bYx nodes els rules l s).length=l.length
 | [],s=>rfl
 | x :: r,s=>by unfold bYx;rw[List.length_cons,List.length_cons,bYb nodes els rules r]
def cAl (ins:List aAp):List TkT->Int
 | []=>0
 | x :: r=>if tkE ins x.1 x.2=0 then cAl ins r else tkE ins x.1 x.2
def bYy (ins:List aAp)(l:List TkT):Int:=if (60:Int)<(l.length:Int)then 8 else cAl ins l
theorem cAE {ins:List aAp}:∀ {l:List TkT},cAl ins l=0->∀ x,x∈l->tkE ins x.1 x.2=0
 | [],_,x,hx=>absurd hx (by simp)
 | y :: r,h,x,hx=>by
  unfold cAl at h
  by_cases c:tkE ins y.1 y.2=0
  ·rw[if_pos c]at h
   rcases List.mem_cons.1 hx with rfl | hx
   ·exact c
   ·exact cAE h x hx
  ·rw[if_neg c]at h;exact absurd h c
theorem bZB {ins:List aAp}{l:List TkT}(h:bYy ins l=0):l.length<=60∧∀ x,x∈l->tkE ins x.1 x.2=0:=by
 unfold bYy at h
 split at h
 ·exact absurd h (by decide)
 ·exact⟨by omega,cAE h⟩
section
variable {N:Nat} {nm:ByteArray} {ins:List aAp} {els:List aAP} {nodes:List Nd} {rules:List aA1} {outs:List aAp} {attrs:List aCE} {lw:List Int}
theorem bYK (hN:1000<=N)(h:DH N nm ins els nodes rules outs attrs)(hc:aHq nm ins els nodes rules outs attrs=0)(k0:List (List Int)->Option R)(l:List TkT)(hl:l.length<=1000):∀ (r:List TkT) (n i:Nat) (s:List Int) (o:List (List Int)),l.drop i=r->r.length<n->o.length<=i+1->LV (elW els) s->(∀ x,x∈r->tkE ins x.1 x.2=0) ->
  aDW N k0 n nm ins els nodes rules outs attrs lw s l l.length i o=k0 (o++bYx nodes els rules r s)
 | [],n,i,s,o,hd,hn,ho,hs,ht=>by
  obtain⟨n,rfl⟩:=sc hn
  rw[aDW,aAc (aAm hd)];simp[bYx]
 | x :: r,n,i,s,o,hd,hn,ho,hs,ht=>by
  obtain⟨n,rfl⟩:=sc hn
  obtain⟨g1,g2,g3⟩:=aAh hd
  have hi:=(bZy (ht x List.mem_cons_self)).2
  rw[aDW,aAd (by omega),g2,aAe,cCI hN h hc x.1 hi hs,aBs (by omega),cond_true,aAl (by omega),bYK hN h hc k0 l hl r n (i+1) _ _ g3 (by simp at hn;omega) (by simp;omega) (bZb (bEG hc) x.1 hi hs) fun y hy=>ht y (List.mem_cons_of_mem _ hy)]
  simp[bYx]
theorem cDu (hN:1000<=N)(h:DH N nm ins els nodes rules outs attrs)(hc:aHq nm ins els nodes rules outs attrs=0)(l:List TkT)(hl:l.length<=60)(ht:∀ x,x∈l->tkE ins x.1 x.2=0)(k:List (List Int)->Option R) :
  aEZ N nm ins els nodes rules outs attrs lw l k=k (elI els :: bYx nodes els rules l (elI els)):=by
 unfold aEZ
 rw[bZk hN h,if_pos hc]
 exact bYK hN h hc k l (by omega) l N 0 _ [elI els] rfl (by omega) (by simp) (bXU (bEG hc)) ht
theorem bY4 (hN:1000<=N)(h:DH N nm ins els nodes rules outs attrs)(hv:DV ins els nodes rules outs)(k0:Int->KD (List Int->Option R))(k1:KD (List Int->Option R))(l:List TkT)(hl:l.length<=1000):∀ (r:List TkT) (n i:Nat),l.drop i=r->r.length<n ->
  aA5 N k0 k1 n l l.length i nm ins els nodes rules outs attrs (aIV ins els)=if cAl ins r=0 then k1 nm ins els nodes rules outs attrs (aIV ins els)else k0 (cAl ins r) nm ins els nodes rules outs attrs (aIV ins els)
 | [],n,i,hd,hn=>by
  obtain⟨n,rfl⟩:=sc hn
  rw[aA5,aAc (aAm hd)];rfl
 | x :: r,n,i,hd,hn=>by
  obtain⟨n,rfl⟩:=sc hn
  obtain⟨g1,g2,g3⟩:=aAh hd
  rw[aA5,aAd (by omega),g2,aAe]
  unfold aEq
  rw[bZz hN h hv,cAl]
  try dsimp only
  by_cases c:tkE ins x.1 x.2=0
  ·rw[aAc (by simpa using c),if_pos c,aAl (by omega)]
   exact bY4 hN h hv k0 k1 l hl r n (i+1) g3 (by simp at hn;omega)
  ·rw[aAd c,if_neg c,if_neg c]
theorem bY7 (hN:1000<=N)(h:DH N nm ins els nodes rules outs attrs)(hv:DV ins els nodes rules outs)(l:List TkT)(k:Int->Option R):aE5 N nm ins els nodes rules outs attrs (aIV ins els) l k=k (bYy ins l):=by
 unfold aE5 bYy
 by_cases c:(60:Int)<(l.length:Int)
 ·rw[aAd c,if_pos c]
 ·rw[aAc c,if_neg c]
  unfold aCi
  refine (bY4 hN h hv _ _ l (by omega) l N 0 rfl (by omega)).trans ?_
  split
  ·rename_i q;rw[q]
  ·rfl
theorem bZe {c:Int}(hc:c=aHS nm ins els nodes rules outs attrs)(h:c≠0):(aHq nm ins els nodes rules outs attrs≠0∧c=aHq nm ins els nodes rules outs attrs)∨(aHq nm ins els nodes rules outs attrs=0∧c=aDI els rules):=by
 unfold aHS at hc
 by_cases q:aHq nm ins els nodes rules outs attrs=0
 ·rw[if_neg (by simpa using q)]at hc;exact .inr ⟨q,hc⟩
 ·rw[if_pos q]at hc;exact .inl ⟨q,hc⟩
theorem cC6 (hN:1000<=N)(h:DH N nm ins els nodes rules outs attrs)(l:List TkT)(k:List (List Int)->Int->Option R) :
  aKg N nm ins els nodes rules outs attrs l k=if aHS nm ins els nodes rules outs attrs≠0 then k [] (aHS nm ins els nodes rules outs attrs)else if bYy ins l≠0 then k [] (bYy ins l)else k (elI els :: bYx nodes els rules l (elI els)) 0:=by
 unfold aKg
 rw[aY8 hN h]
 by_cases c:aHS nm ins els nodes rules outs attrs=0
 ·obtain⟨c1,c2,hv⟩:=bDM hN h c
  rw[if_neg (by simpa using c1),if_neg (by simpa using c),c2,aAc (by simp),bY7 hN h hv.dv]
  try dsimp only
  by_cases q:bYy ins l=0
  ·obtain⟨q1,q2⟩:=bZB q
   rw[aAc (by simpa using q),if_neg (by simpa using q),cDu hN h c1 l q1 q2]
  ·rw[aAd q,if_pos q]
 ·rw[if_pos c]
  rcases bZe rfl c with⟨c1,e⟩ | ⟨c1,e⟩
  ·rw[if_pos c1,<- e,aAd c]
  ·rw[if_neg (by simpa using c1),<- e,aAd c]
theorem bY8 (hN:1000<=N)(hv:DV ins els nodes rules outs)(k0:Int->Option R)(k1:Option R)(l:List TkT)(hl:l.length<=1000):∀ (r:List TkT) (n i:Nat),l.drop i=r->r.length<n ->
  bW8 N k0 k1 n l i nm ins els nodes rules outs attrs=if cAl ins r=0 then k1 else k0 (cAl ins r)
 | [],n,i,hd,hn=>by
  obtain⟨n,rfl⟩:=sc hn
  rw[bW8,aAc (aAm hd)];rfl
 | x :: r,n,i,hd,hn=>by
  obtain⟨n,rfl⟩:=sc hn
  obtain⟨g1,g2,g3⟩:=aAh hd
  rw[bW8,aAd (by omega),g2,aAe,cAp hN hv,cAl]
  try dsimp only
  by_cases c:tkE ins x.1 x.2=0
  ·rw[aAc (by simpa using c),if_pos c,aAl (by omega)]
   exact bY8 hN hv k0 k1 l hl r n (i+1) g3 (by simp at hn;omega)
  ·rw[aAd c,if_neg c,if_neg c]
theorem bZ9 (hN:1000<=N)(hv:DV ins els nodes rules outs)(l:List TkT)(k:Int->Option R):bXu N nm ins els nodes rules outs attrs l k=k (bYy ins l):=by
 unfold bXu bYy
 by_cases c:(60:Int)<(l.length:Int)
 ·rw[aAd c,if_pos c]
 ·rw[aAc c,if_neg c]
  refine (bY8 hN hv _ _ l (by omega) l N 0 rfl (by omega)).trans ?_
  split
  ·rename_i q;rw[q]
  ·rfl
theorem bYF (hN:1000<=N)(he:els.length<N∧els.length<=1000000)(hv:CV N ins els nodes rules outs)(k0:List (List Int)->Option R)(l:List TkT)(hl:l.length<=1000):∀ (r:List TkT) (n i:Nat) (s:List Int) (o:List (List Int)),l.drop i=r->r.length<n->o.length=i->LV (elW els) s->(∀ x,x∈r->tkE ins x.1 x.2=0) ->
  bXl N k0 n l i nm ins els nodes rules outs attrs (o++[s])=k0 (o++s :: bYx nodes els rules r s)
 | [],n,i,s,o,hd,hn,ho,hs,ht=>by
  obtain⟨n,rfl⟩:=sc hn
  rw[bXl,aAc (aAm hd)];rfl
 | x :: r,n,i,s,o,hd,hn,ho,hs,ht=>by
  obtain⟨n,rfl⟩:=sc hn
  obtain⟨g1,g2,g3⟩:=aAh hd
  have hi:=(bZy (ht x List.mem_cons_self)).2
  have e1:inR (i:Int) (o++[s]).length=true:=by unfold inR;simp;omega
  have e2:(o++[s])[i]? = some s:=by rw[List.getElem?_append_right (by omega),ho,Nat.sub_self];rfl
  rw[bXl,aAd (by omega),g2,aAe,e1,cond_true,Int.toNat_natCast,e2,aAe,cCJ hN he hv x.1 hi hs,aBs (by simp;omega),cond_true,aAl (by omega),bYF hN he hv k0 l hl r n (i+1) _ (o++[s]) g3 (by simp at hn;omega) (by simp[ho]) (bZb hv.dv x.1 hi hs) fun y hy=>ht y (List.mem_cons_of_mem _ hy)]
  rw[List.append_assoc];rfl
theorem cDo (hN:1000<=N)(he:els.length<N∧els.length<=1000000)(hv:CV N ins els nodes rules outs)(l:List TkT)(hl:l.length<=60)(ht:∀ x,x∈l->tkE ins x.1 x.2=0)(k:List (List Int)->Option R) :
  bXE N nm ins els nodes rules outs attrs l k=k (elI els :: bYx nodes els rules l (elI els)):=by
 unfold bXE
 rw[cB5 he.1 he.2]
 exact bYF hN he hv k l (by omega) l N 0 _ [] rfl (by omega) rfl (bXU hv.dv) ht
end
def hdI (w:Nat)(a b:Int):Int:=((bYn w (a.toNat ^^^ b.toNat):Nat):Int)
def stp (e w:Nat):Int->List Int->List (List Int)->Int
 | m,_,[]=>m
 | m,s,t :: r=>stp e w (max m (hdI w (w0 s e) (w0 t e))) t r
theorem cCj {e w:Nat}(hw:w<=16):∀ (r:List (List Int)) (m:Int) (s:List Int),(∀ t,t∈s :: r->0<=w0 t e∧(w0 t e).toNat<2^w)->stp e 16 m s r=stp e w m s r
 | [],m,s,h=>rfl
 | t :: r,m,s,h=>by
  have h1:=(h s List.mem_cons_self).2
  have h2:=(h t (List.mem_cons_of_mem _ List.mem_cons_self)).2
  unfold stp
  rw[cCj hw r _ t fun u hu=>h u (List.mem_cons_of_mem _ hu)]
  unfold hdI
  rw[cCk hw (Nat.xor_lt_two_pow h1 h2)]
theorem cBC (a b:Int)(ha:0<=a)(ha':a.toNat<65536)(hb:0<=b)(hb':b.toNat<65536):IntKind.wrap .u64 (bQA .i64 a b)=((a.toNat ^^^ b.toNat:Nat):Int):=by
 obtain⟨x,rfl⟩:∃ x:Nat,a=x:=⟨a.toNat,by omega⟩
 obtain⟨y,rfl⟩:∃ y:Nat,b=y:=⟨b.toNat,by omega⟩
 rw[Int.toNat_natCast]at *
 rw[Int.toNat_natCast]at *
 have l:x ^^^ y<2^16:=Nat.xor_lt_two_pow ha' hb'
 have e:(BitVec.ofInt 64 (x:Int) ^^^ BitVec.ofInt 64 (y:Int)).toNat=x ^^^ y:=by
  rw[BitVec.toNat_xor,BitVec.ofInt_natCast,BitVec.ofInt_natCast,BitVec.toNat_ofNat,BitVec.toNat_ofNat,Nat.mod_eq_of_lt (by omega),Nat.mod_eq_of_lt (by omega)]
 show IntKind.wrap .u64 (IntKind.wrap .i64 (((BitVec.ofInt 64 (x:Int) ^^^ BitVec.ofInt 64 (y:Int)).toNat:Nat):Int))=_
 rw[e,show IntKind.wrap .i64 ((x ^^^ y:Nat):Int)=((x ^^^ y:Nat):Int)from aDt (by omega) (by omega),bYN (by omega) (by omega)]
def cAq:List Int->List Int->Nat
 | a :: r,b :: q=>(if a=b then 0 else 1)+cAq r q
 | _,_=>0
theorem bZf:∀ (l m:List Int) (a b:Int),l.length=m.length->cAq (l++[a]) (m++[b])=cAq l m+(if a=b then 0 else 1)
 | [],[],a,b,h=>by simp[cAq]
 | [],_ :: _,a,b,h=>by simp at h
 | _ :: _,[],a,b,h=>by simp at h
 | x :: l,y :: m,a,b,h=>by
  show (if x=y then 0 else 1)+cAq (l++[a]) (m++[b])=(if x=y then 0 else 1)+cAq l m+_
  rw[bZf l m a b (by simpa using h)];omega
def bX1:Nat->Nat->List Int
 | 0,_=>[]
 | w+1,n=>bX1 w (n/2)++[((n%2:Nat):Int)]
theorem bXQ:∀ w n,(bX1 w n).length=w
 | 0,_=>rfl
 | w+1,n=>by unfold bX1;simp[bXQ w]
theorem bZD:∀ (w a b:Nat),cAq (bX1 w a) (bX1 w b)=bYn w (a ^^^ b)
 | 0,a,b=>rfl
 | w+1,a,b=>by
  unfold bX1 bYn
  rw[bZf _ _ _ _ (by rw[bXQ,bXQ]),bZD w,Nat.xor_div_two]
  have h:(a ^^^ b)%2=if ((a%2:Nat):Int)=((b%2:Nat):Int)then 0 else 1:=by
   have t:=Nat.xor_mod_two_pow (a:=a) (b:=b) (n:=1)
   rw[Nat.pow_one]at t
   rw[t]
   rcases Nat.mod_two_eq_zero_or_one a with p | p <;> rcases Nat.mod_two_eq_zero_or_one b with q | q <;> rw[p,q] <;> rfl
  rw[h];omega
section
variable {N:Nat} {nm:ByteArray} {ins:List aAp} {els:List aAP} {nodes:List Nd} {rules:List aA1} {outs:List aAp} {attrs:List aCE} {lw:List Int}
theorem bYe (k0:List Int->Option R):∀ (m n x:Nat) (o:List Int),m<n->m<=1000->x<1000000 ->
  bXh N k0 n (x:Int) ((m:Int)-1) (List.replicate m 0++o)=k0 (bX1 m x++o)
 | 0,n,x,o,hn,hm,hx=>by
  obtain⟨n,rfl⟩:∃ m,n=m+1:=⟨n-1,by omega⟩
  rw[bXh,aAc (by omega)];rfl
 | m+1,n,x,o,hn,hm,hx=>by
  obtain⟨n,rfl⟩:∃ m,n=m+1:=⟨n-1,by omega⟩
  have e:List.replicate (m+1) (0:Int)++o=List.replicate m 0++0 :: o:=by rw[List.replicate_succ',List.append_assoc];rfl
  have hp:(List.replicate m (0:Int)).length=m:=by simp
  rw[bXh,aAd (by omega),show ((m+1:Nat):Int)-1=(m:Int) by omega,e,bYw _ o 0 hp,cond_true,Int.toNat_natCast,bYA _ o 0 hp,aAe,bYv _ o 0 _ hp,Int.tdiv_eq_ediv_of_nonneg (by omega),Int.tmod_eq_emod_of_nonneg (by omega),aDt (by omega) (by omega),aDt (by omega) (by omega),<- bXH,show ((x:Nat):Int)/2=((x/2:Nat):Int) by omega,show ((x:Nat):Int)%2=((x%2:Nat):Int) by omega,bYe k0 m n (x/2) _ (by omega) (by omega) (by omega),show bX1 (m+1) x=bX1 m (x/2)++[((x%2:Nat):Int)]from rfl,List.append_assoc]
  rfl
theorem cA0 (hN:1000<=N)(x w:Nat)(hw:w<=16)(hx:x<65536)(k:List Int->Option R):bXt N (x:Int) (w:Int) k=k (bX1 w x):=by
 unfold bXt
 rw[aAd ⟨by omega,by omega⟩,Int.toNat_natCast,aBs (by omega),cond_true,aDt (by omega) (by omega)]
 have:=bYe (N:=N) k w N x [] (by omega) (by omega) (by omega)
 rw[List.append_nil,List.append_nil]at this
 exact this
theorem cA6 (k0:Int->List (List Int)->Int->Int->Int->KD (Option R))(e:Int)(st:List (List Int))(m i:Int)(w:Nat)(hw:w<=16)(y z:List Int):∀ (r q:List Int) (n j c:Nat),y.drop j=r->z.drop j=q->r.length=q.length->j+r.length=w->r.length<n->c<=j ->
  bXe N k0 n e st m i (w:Int) y z (c:Int) (j:Int) nm ins els nodes rules outs attrs=k0 e st m i ((c+cAq r q:Nat):Int) nm ins els nodes rules outs attrs
 | [],q,n,j,c,hy,hz,hl,hj,hn,hc=>by
  obtain⟨n,rfl⟩:=sc hn
  have hj:j=w:=by simpa using hj
  rw[bXe,aAc (by omega)]
  cases q <;> rfl
 | a :: r,[],n,j,c,hy,hz,hl,hj,hn,hc=>by simp at hl
 | a :: r,b :: q,n,j,c,hy,hz,hl,hj,hn,hc=>by
  obtain⟨n,rfl⟩:=sc hn
  obtain⟨g1,g2,g3⟩:=aAh hy
  obtain⟨p1,p2',p3⟩:=aAh hz
  rw[List.length_cons]at hj
  have e1:w64 ((c:Int)+b2i (decide (a≠b)))=((c+(if a=b then 0 else 1):Nat):Int):=by
   unfold b2i
   by_cases h:a=b
   ·rw[if_neg (by simp[h]),if_pos h,aDt (by omega) (by omega)];omega
   ·rw[if_pos (by simp[h]),if_neg h,aDt (by omega) (by omega)];omega
  rw[bXe,aAd (by omega),g2,aAe,p2',aAe,cCY,e1,aAl (by omega),cA6 k0 e st m i w hw y z r q n (j+1) _ g3 p3 (by simpa using hl) (by omega) (by simp at hn;omega) (by split <;> omega)]
  show k0 e st m i _ nm ins els nodes rules outs attrs=k0 e st m i ((c+((if a=b then 0 else 1)+cAq r q):Nat):Int) nm ins els nodes rules outs attrs
  rw[Nat.add_assoc]
theorem cAv (hN:1000<=N)(k0:Int->Option R){e:Nat}{x:aAP}(hx:at? els (e:Int)=some x){w:Nat}(hw:x.2.2.1=(w:Int))(hw2:w<=16)(st:List (List Int))(hst:st.length<=1000)(hv:∀ t,t∈st->at? t (e:Int)=some (w0 t e)∧0<=w0 t e∧(w0 t e).toNat<2^w):∀ (r:List (List Int)) (n i:Nat) (m:Int) (s:List Int),st.drop i=s :: r->r.length<n ->
  bXf N k0 n (e:Int) st m ((i+1:Nat):Int) nm ins els nodes rules outs attrs=k0 (stp e w m s r)
 | [],n,i,m,s,hd,hn=>by
  obtain⟨n,rfl⟩:=sc hn
  obtain⟨g1,g2,g3⟩:=aAh hd
  have:=List.drop_eq_nil_iff.1 g3
  rw[bXf,aAc (by omega)];rfl
 | t :: r,n,i,m,s,hd,hn=>by
  obtain⟨n,rfl⟩:=sc hn
  obtain⟨g1,g2,g3⟩:=aAh hd
  obtain⟨p1,p2',p3⟩:=aAh g3
  have pw:2^w<=65536:=Nat.pow_le_pow_right (n:=2) (by omega) hw2
  have hs:=hv s (List.mem_of_mem_drop (hd▸List.mem_cons_self:s∈st.drop i))
  have ht:=hv t (List.mem_of_mem_drop (g3▸List.mem_cons_self:t∈st.drop (i+1)))
  obtain⟨a,ha⟩:∃ a:Nat,w0 s e=a:=⟨(w0 s e).toNat,by omega⟩
  obtain⟨b,hb⟩:∃ b:Nat,w0 t e=b:=⟨(w0 t e).toNat,by omega⟩
  rw[ha,Int.toNat_natCast]at hs
  rw[hb,Int.toNat_natCast]at ht
  rw[bXf,aAd (by omega),hx,aAe,aDt (by omega) (by omega),show ((i+1:Nat):Int)-1=(i:Int) by omega,g2,aAe,hs.1,aAe,hw,cA0 hN a w hw2 (by omega),p2',aAe,ht.1,aAe,cA0 hN b w hw2 (by omega)]
  refine (cA6 _ (e:Int) st m ((i+1:Nat):Int) w hw2 (bX1 w a) (bX1 w b) (bX1 w a) (bX1 w b) N 0 0 rfl rfl (by rw[bXQ,bXQ]) (by rw[bXQ];omega) (by rw[bXQ];omega) (Nat.le_refl _)).trans ?_
  try dsimp only
  rw[Nat.zero_add,bZD,aAl (by omega),cAv hN k0 hx hw hw2 st hst hv r n (i+1) _ t g3 (by simp at hn;omega)]
  rw[show stp e w m s (t :: r)=stp e w (max m (hdI w (w0 s e) (w0 t e))) t r from rfl,ha,hb]
  unfold hdI
  rw[Int.toNat_natCast,Int.toNat_natCast]
theorem cBa (k0:Int->Option R)(e:Nat)(st:List (List Int))(hst:st.length<=1000)(hv:∀ t,t∈st->at? t (e:Int)=some (w0 t e)∧0<=w0 t e∧(w0 t e).toNat<65536)(L:Nat)(hL:st.length=L+1):∀ (r:List (List Int)) (n i:Nat) (m:Int) (s:List Int),st.drop i=s :: r->r.length<n ->
  bXn N k0 n (e:Int) m st (L:Int) (i:Int)=k0 (stp e 16 m s r)
 | [],n,i,m,s,hd,hn=>by
  obtain⟨n,rfl⟩:=sc hn
  obtain⟨g1,g2,g3⟩:=aAh hd
  have:=List.drop_eq_nil_iff.1 g3
  rw[bXn,aAc (by omega)];rfl
 | t :: r,n,i,m,s,hd,hn=>by
  obtain⟨n,rfl⟩:=sc hn
  obtain⟨g1,g2,g3⟩:=aAh hd
  obtain⟨p1,p2',p3⟩:=aAh g3
  have hs:=hv s (List.mem_of_mem_drop (hd▸List.mem_cons_self:s∈st.drop i))
  have ht:=hv t (List.mem_of_mem_drop (g3▸List.mem_cons_self:t∈st.drop (i+1)))
  have hx:(w0 s e).toNat ^^^ (w0 t e).toNat<2^16:=Nat.xor_lt_two_pow hs.2.2 ht.2.2
  rw[bXn,aAd (by omega),g2,aAe,hs.1,aAe,aAl (by omega),p2',aAe,ht.1,aAe,cBC _ _ hs.2.1 hs.2.2 ht.2.1 ht.2.2,bZr N _ hx]
  try dsimp only
  rw[cBa k0 e st hst hv L hL r n (i+1) _ t g3 (by simp at hn;omega)]
  rfl
end
section
variable {N:Nat}
theorem bYI (k:List TkT->Option R)(l:List TkT)(hl:l.length<=1000000)(ha:∀ x,x∈l->x.2.length<=1000000):∀ (r:List TkT) (n i:Nat) (o:List TkT),l.drop i=r->r.length<n->o.length<=i->bW5 N k n l i o=k (o++r)
 | [],n,i,o,h,hn,ho=>by
  obtain⟨n,rfl⟩:=sc hn
  rw[bW5,aAc (aAm h),List.append_nil]
 | x :: r,n,i,o,h,hn,ho=>by
  obtain⟨n,rfl⟩:=sc hn
  obtain⟨g1,g2,g3⟩:=aAh h
  have hx:=ha x (List.mem_of_mem_drop (h▸List.mem_cons_self:x∈l.drop i))
  rw[bW5,aAd (by omega),g2,aAe,aAe,aK2 N _ hx,aBs (by omega),cond_true,aAl (by omega),bYI k l hl ha r n (i+1) _ g3 (by simp at hn;omega) (by simp;omega),List.append_assoc]
  rfl
theorem cDK (l:List TkT)(hl:l.length<=1000000)(hN:l.length<N)(ha:∀ x,x∈l->x.2.length<=1000000)(k:List TkT->Option R):bW7 N l k=k l:=by
 unfold bW7
 exact (bYI k l hl ha l N 0 [] rfl hN (by simp)).trans (by rw[List.nil_append])
theorem bX5 (k0:Bool->Option R)(k1:List TkT->Option R)(l:List TkT):∀ (m n i:Nat),m+i=70->m<n->bW1 N k0 k1 n l i=k0 false∨(bW1 N k0 k1 n l i=k1 l∧(l.length<=70->∀ x,x∈l.drop i->x.2.length<=8))
 | m,n,i,hm,hn=>by
  obtain⟨n,rfl⟩:∃ m,n=m+1:=⟨n-1,by omega⟩
  rw[bW1]
  by_cases c:i<l.length
  ·rw[aAd (by omega)]
   by_cases c2:i<70
   ·obtain⟨m,rfl⟩:∃ q,m=q+1:=⟨m-1,by omega⟩
    rw[aAd (by omega),aHb c,aAe]
    by_cases c3:l[i].2.length<=8
    ·rw[aAc (by omega),aAl (by omega)]
     rcases bX5 k0 k1 l m n (i+1) (by omega) (by omega)with h | ⟨h,h2⟩
     ·exact .inl h
     ·refine .inr ⟨h,fun hl x hx=>?_⟩
      rw[List.drop_eq_getElem_cons c]at hx
      rcases List.mem_cons.1 hx with rfl | hx
      ·exact c3
      ·exact h2 hl x hx
    ·exact .inl (aAd (by omega))
   ·refine .inr ⟨aAc (by omega),fun hl x hx=>?_⟩
    omega
  ·refine .inr ⟨aAc (by omega),fun hl x hx=>?_⟩
   rw[List.drop_eq_nil_of_le (by omega)]at hx;exact absurd hx (by simp)
theorem cBp (hN:1000<=N)(l:List TkT)(k:Bool->Option R):bXd N l k=k false∨(bXd N l k=k true∧l.length<=70∧∀ x,x∈l->x.2.length<=8):=by
 have key:bW0 N k l=k false∨(bW0 N k l=k true∧l.length<=70∧∀ x,x∈l->x.2.length<=8):=by
  unfold bW0
  have:=bX5 (N:=N) k (fun z3=>k (decide (((z3.length:Nat):Int)<=70))) l 70 N 0 rfl (by omega)
  rw[Int.natCast_zero]at this
  rcases this with h | ⟨h,h2⟩
  ·exact .inl h
  ·rw[h]
   by_cases c:l.length<=70
   ·refine .inr ⟨by rw[decide_eq_true (by omega)],c,h2 c⟩
   ·exact .inl (by rw[decide_eq_false (by omega)])
 unfold bXd
 by_cases c1:(20:Int)<(l.length:Int)
 ·rw[aAd c1]
  by_cases c2:(l.length:Int)<=60
  ·exact .inl (aAd c2)
  ·rw[aAc c2];exact key
 ·rw[aAc c1];exact key
theorem bYs (k0:Bool->Option R)(k1:Option R)(l:List (List Int))(hl:l.length<=1000000)(ha:∀ x,x∈l->x.length<=1000000∧x.length<N):∀ (r:List (List Int)) (n i:Nat),l.drop i=r->r.length<n->aE1 N k0 k1 n l l i=k1
 | [],n,i,h,hn=>by
  obtain⟨n,rfl⟩:=sc hn
  rw[aE1,aAc (aAm h)]
 | x :: r,n,i,h,hn=>by
  obtain⟨n,rfl⟩:=sc hn
  obtain⟨g1,g2,g3⟩:=aAh h
  have hx:=ha x (List.mem_of_mem_drop (h▸List.mem_cons_self:x∈l.drop i))
  rw[aE1,aAd (by omega),g2,aAe,aAe,bDr x hx.1 hx.2,Bool.not_true,cond_false,aAl (by omega)]
  exact bYs k0 k1 l hl ha r n (i+1) g3 (by simp at hn;omega)
theorem cAu (l:List (List Int))(hl:l.length<=1000000)(hN:l.length<N)(ha:∀ x,x∈l->x.length<=1000000∧x.length<N)(k:Bool->Option R):aHt N l l k=k true:=by
 unfold aHt
 rw[aAc (by simp)]
 exact bYs k (k true) l hl ha l N 0 rfl hN
variable {nm:ByteArray} {ins:List aAp} {els:List aAP} {nodes:List Nd} {rules:List aA1} {outs:List aAp} {attrs:List aCE}
theorem bYB (hv:DV ins els nodes rules outs):∀ (l:List TkT) (s:List Int),LV (elW els) s->(∀ x,x∈l->tkE ins x.1 x.2=0)->∀ t,t∈s :: bYx nodes els rules l s->LV (elW els) t
 | [],s,hs,ht,t,h=>by
  rcases List.mem_cons.1 h with rfl | h
  ·exact hs
  ·exact absurd h (by simp[bYx])
 | x :: r,s,hs,ht,t,h=>by
  rcases List.mem_cons.1 h with rfl | h
  ·exact hs
  ·exact bYB hv r _ (bZb hv x.1 (bZy (ht x List.mem_cons_self)).2 hs) (fun y hy=>ht y (List.mem_cons_of_mem _ hy)) t h
theorem cAF (hN:2000<=N)(hd:DH N nm ins els nodes rules outs attrs)(hnn:nodes.length<N)(hc:aHS nm ins els nodes rules outs attrs=0)(hv:CV N ins els nodes rules outs)(he:els.length<=12)(hr:rules.length<=8)(k0:Bool->Option R)(k1:Option R)(l:List TkT)(hl:l.length<=100)(hx:∀ x,x∈l->x.2.length<=8)(st:List (List Int)):∀ (r:List TkT) (n i:Nat) (s:List Int),l.drop i=r->st.drop i=s :: bYx nodes els rules r s->r.length<n->LV (elW els) s->(∀ x,x∈r->tkE ins x.1 x.2=0) ->
  bWX N k0 k1 n l st i nm ins els nodes rules outs attrs=k1
 | [],n,i,s,h,h2,hn,hs,ht=>by
  obtain⟨n,rfl⟩:=sc hn
  rw[bWX,aAc (aAm h)]
 | x :: r,n,i,s,h,h2,hn,hs,ht=>by
  obtain⟨n,rfl⟩:=sc hn
  obtain⟨g1,g2,g3⟩:=aAh h
  obtain⟨p1,p2',p3⟩:=aAh h2
  have h0:=ht x List.mem_cons_self
  have hi:=(bZy h0).2
  have hxl:=hx x (List.mem_of_mem_drop (h▸List.mem_cons_self:x∈l.drop i))
  have hsl:=bYD hs
  have ht2:=bZb hv.dv x.1 hi hs
  have htl:=bYD ht2
  have hf:=cBy nodes els rules x.1 x.2 s
  have hz:f1 (tkE ins x.1 x.2) (bYl (elW els) s)=0:=f1_0.2 ⟨h0,valE_0.2 hs⟩
  rw[bWX,aAd (by omega),aJY nm hd hnn,g2,aAe,aAe,aK2 N _ (by omega),p2',aAe,aK2 N _ (by omega),cCM (by omega) hd,if_neg (by simpa using hc),if_neg (by simpa using hz),aAe,aAe,cCJ (by omega) ⟨hd.els.2.1,hd.els.1⟩ hv x.1 hi hs]
  try dsimp only
  rw[aAc (by simp),bDr _ (by omega) (by omega)]
  try dsimp only
  rw[Bool.not_true,cond_false,bDr _ (by omega) (by omega)]
  try dsimp only
  rw[Bool.not_true,cond_false,aAl (by omega)]
  exact cAF hN hd hnn hc hv he hr k0 k1 l hl hx st r n (i+1) _ g3 p3 (by simp at hn;omega) ht2 fun y hy=>ht y (List.mem_cons_of_mem _ hy)
end
section
variable {N:Nat} {nm:ByteArray} {ins:List aAp} {els:List aAP} {nodes:List Nd} {rules:List aA1} {outs:List aAp} {attrs:List aCE}
theorem bNR (hN:2000<=N)(hb:LB ins els nodes rules outs attrs)(h0:SZ N nm)(h1:∀ x,x∈ins->SZ N x.1)(h2:∀ x,x∈els->SZ N x.1)(h3:∀ x,x∈rules->SZ N x.1)(h4:∀ x,x∈outs->SZ N x.1):DH N nm ins els nodes rules outs attrs:=by
 obtain⟨b1,b2,b3,b4,b5,b6,b7,b8,b9⟩:=hb
 exact⟨h0,⟨by omega,by omega,h1⟩,⟨by omega,by omega,h2⟩,⟨by omega,fun x hx=>⟨by have:=b7 x hx;omega,by have:=b7 x hx;omega⟩⟩,⟨by omega,by omega,fun x hx=>⟨h3 x hx,by have:=b8 x hx;omega,by have:=b8 x hx;omega⟩⟩,⟨by omega,by omega,h4⟩,⟨by omega,by omega,fun x hx=>⟨by have:=b9 x hx;omega,by have:=b9 x hx;omega⟩⟩⟩
end
theorem aJn {α:Type}(f:α->Nat):∀ (l:List α) (x:α),x∈l->f x<=(l.map f).sum
 | [],x,hx=>absurd hx (by simp)
 | y :: r,x,hx=>by
  rw[List.map_cons,List.sum_cons]
  rcases List.mem_cons.1 hx with rfl | hx
  ·omega
  ·have:=aJn f r x hx;omega
def aJG (nm:ByteArray)(ins:List aAp)(els:List aAP)(rules:List aA1)(outs:List aAp):Nat:=nm.size+(ins.map fun x=>x.1.size).sum+(els.map fun x=>x.1.size).sum+(rules.map fun x=>x.1.size).sum+(outs.map fun x=>x.1.size).sum
theorem aXQ (nm:ByteArray)(ins:List aAp)(els:List aAP)(rules:List aA1)(outs:List aAp):nm.size<=aJG nm ins els rules outs∧(∀ x,x∈ins->x.1.size<=aJG nm ins els rules outs)∧(∀ x,x∈els->x.1.size<=aJG nm ins els rules outs)∧(∀ x,x∈rules->x.1.size<=aJG nm ins els rules outs)∧(∀ x,x∈outs->x.1.size<=aJG nm ins els rules outs):=by
 unfold aJG
 refine⟨by omega,fun x hx=>?_,fun x hx=>?_,fun x hx=>?_,fun x hx=>?_⟩
 ·have:=aJn (fun x:aAp=>x.1.size) ins x hx;omega
 ·have:=aJn (fun x:aAP=>x.1.size) els x hx;omega
 ·have:=aJn (fun x:aA1=>x.1.size) rules x hx;omega
 ·have:=aJn (fun x:aAp=>x.1.size) outs x hx;omega
section
variable {N:Nat} {nm:ByteArray} {ins:List aAp} {els:List aAP} {nodes:List Nd} {rules:List aA1} {outs:List aAp} {attrs:List aCE}
theorem cBl (hv:DV ins els nodes rules outs){e:Nat}(he:e<els.length):(els[e].2.2.1=((els[e].2.2.1.toNat:Nat):Int)∧els[e].2.2.1.toNat<=16)∧∀ t,LV (elW els) t->at? t (e:Int)=some (w0 t e)∧0<=w0 t e∧(w0 t e).toNat<2^els[e].2.2.1.toNat:=by
 have hb:=of_decide_eq_true (hv.elsW _ (List.getElem_mem he)).2.1
 refine⟨⟨by omega,by omega⟩,fun t ht=>?_⟩
 have hl:=bYD ht
 have h:=ht.2 e (by unfold elW;simpa using he)
 unfold elW at h
 rw[bYo he]at h
 have h:=of_decide_eq_true h
 have hp:p2 els[e].2.2.1=((2^els[e].2.2.1.toNat:Nat):Int):=by unfold p2;simp
 rw[hp]at h
 exact⟨aLX (by omega),h.1,by omega⟩
def cC3 (els:List aAP)(nodes:List Nd)(rules:List aA1)(l:List TkT)(e:Int):Int:=stp e.toNat 16 0 (elI els) (bYx nodes els rules l (elI els))
theorem bYT (hN:1000<=N)(h:DH N nm ins els nodes rules outs attrs)(e:Int)(l:List TkT)(k:Int->Int->Option R) :
  bXK N nm ins els nodes rules outs attrs e l k=if aHS nm ins els nodes rules outs attrs≠0 then k 0 (aHS nm ins els nodes rules outs attrs)else if f1 (if 0<=e∧e<=(els.length:Int)-1 then 0 else 6) (bYy ins l)≠0 then k 0 (f1 (if 0<=e∧e<=(els.length:Int)-1 then 0 else 6) (bYy ins l))else k (cC3 els nodes rules l e) 0:=by
 have hel:=h.els.1
 unfold bXK
 rw[aY8 hN h]
 by_cases c:aHS nm ins els nodes rules outs attrs=0
 ·obtain⟨c1,c2,hv⟩:=bDM hN h c
  have hw:(if decide (0<=e∧e<=(els.length:Int)-1)=true then (0:Int)else 6)=if 0<=e∧e<=(els.length:Int)-1 then 0 else 6:=by
   by_cases q:0<=e∧e<=(els.length:Int)-1
   ·rw[decide_eq_true q,if_pos rfl,if_pos q]
   ·rw[decide_eq_false q,if_neg (by simp),if_neg q]
  rw[if_neg (by simpa using c1),if_neg (by simpa using c),c2,aAc (by simp),aDt (by omega) (by omega),bY2,bYu,hw,bY7 hN h hv.dv]
  try dsimp only
  rw[bY1 N (by omega)]
  try dsimp only
  by_cases q:f1 (if 0<=e∧e<=(els.length:Int)-1 then 0 else 6) (bYy ins l)=0
  ·obtain⟨q1,q2⟩:=f1_0.1 q
   obtain⟨q3,q4⟩:=bZB q2
   have hb:=if0 (by decide) q1
   rw[aAc (by simpa using q),if_neg (by simpa using q),cDu hN h c1 l q3 q4]
   obtain⟨a,rfl⟩:∃ a:Nat,e=a:=⟨e.toNat,by omega⟩
   obtain⟨v1,v2⟩:=cBl hv.dv (show a<els.length by omega)
   have hrl:=bYb nodes els rules l (elI els)
   refine cBa _ a (elI els :: bYx nodes els rules l (elI els)) (by simp;omega) (fun t ht=>?_) l.length (by simp[hrl]) _ N 0 0 (elI els) rfl (by omega)
   have hL:=bYB hv.dv l (elI els) (bXU hv.dv) q4 t ht
   obtain⟨z1,z2,z3⟩:=v2 t hL
   exact⟨z1,z2,Nat.lt_of_lt_of_le z3 (Nat.pow_le_pow_right (n:=2) (by omega) v1.2)⟩
  ·rw[aAd q,if_pos q]
 ·rw[if_pos c]
  rcases bZe rfl c with⟨c1,e⟩ | ⟨c1,e⟩
  ·rw[if_pos c1,<- e,aAd c]
  ·rw[if_neg (by simpa using c1),<- e,aAd c]
theorem cCx (hN:1000<=N)(he:els.length<N∧els.length<=1000000)(hv:CV N ins els nodes rules outs)(e:Int)(hb:0<=e∧e<=(els.length:Int)-1)(l:List TkT)(hl:l.length<=60)(ht:∀ x,x∈l->tkE ins x.1 x.2=0)(k:Int->Option R):bXG N nm ins els nodes rules outs attrs e l k=k (cC3 els nodes rules l e):=by
 obtain⟨a,rfl⟩:∃ a:Nat,e=a:=⟨e.toNat,by omega⟩
 obtain⟨v1,v2⟩:=cBl hv.dv (show a<els.length by omega)
 have hrl:=bYb nodes els rules l (elI els)
 have hL:=bYB hv.dv l (elI els) (bXU hv.dv) ht
 unfold bXG
 rw[cDo hN he hv l hl ht]
 refine (cAv hN k (aHb (show a<els.length by omega)) v1.1 v1.2 (elI els :: bYx nodes els rules l (elI els)) (by simp;omega) (fun t h=>v2 t (hL t h)) _ N 0 0 (elI els) rfl (by omega)).trans ?_
 unfold cC3
 rw[Int.toNat_natCast,cCj v1.2 _ _ _ fun t h=>(v2 t (hL t h)).2]
theorem cDd (m:Nat)(hm:N=m+2000)(h0:SZ N nm)(h1:∀ x,x∈ins->SZ N x.1)(h2:∀ x,x∈els->SZ N x.1)(h3:∀ x,x∈rules->SZ N x.1)(h4:∀ x,x∈outs->SZ N x.1)(l:List TkT)(e e2:Int)(k:Bool->Option R):bXg N nm ins els nodes rules outs attrs l e e2 k=k true:=by
 have hN:2000<=N:=by omega
 unfold bXg
 rw[hm,aXC,<- hm]
 try dsimp only
 rw[Bool.not_true,cond_false]
 rcases bMy (nm:=nm) (ins:=ins) (els:=els) (nodes:=nodes) (rules:=rules) (outs:=outs) (attrs:=attrs) hN (fun y2=>(bif (!y2)then (k true)else (bXd N l (fun y3=>(bif (!y3)then (k true)else (aA6 N nm ins els nodes rules outs attrs (fun y4 y5 y6 y7 y8 y9 y10=>(bW7 N l (fun y11=>(aKg N y4 y5 y6 y7 y8 y9 y10 y11 (fun y12 y13=>(bWW N k l y12 y13 nm ins els nodes rules outs attrs e e2))))))))))))with q | ⟨q,hb⟩
 ·exact q.trans rfl
 refine q.trans ?_
 try dsimp only
 rw[Bool.not_true,cond_false]
 rcases cBp (N:=N) (by omega) l (fun y3=>(bif (!y3)then (k true)else (aA6 N nm ins els nodes rules outs attrs (fun y4 y5 y6 y7 y8 y9 y10=>(bW7 N l (fun y11=>(aKg N y4 y5 y6 y7 y8 y9 y10 y11 (fun y12 y13=>(bWW N k l y12 y13 nm ins els nodes rules outs attrs e e2)))))))))with q | ⟨q,hl,hx⟩
 ·exact q.trans rfl
 refine q.trans ?_
 try dsimp only
 have hd:=bNR hN hb h0 h1 h2 h3 h4
 have hn:nodes.length<N:=by have:=hb.n;omega
 have hcp:=fun k=>cDK (R:=R) (N:=N) l (by omega) (by omega) (fun x hx'=>by have:=hx x hx';omega) k
 rw[Bool.not_true,cond_false,aJY nm hd hn,hcp,cC6 (by omega) hd]
 have tail:∀ (st:List (List Int)) (er:Int),bWW N k l st er nm ins els nodes rules outs attrs e e2=bXK N nm ins els nodes rules outs attrs e l (fun y9 y10=>bWY N k l st er y9 y10 (aHS nm ins els nodes rules outs attrs) nm ins els nodes rules outs attrs e e2):=by
  intro st er
  unfold bWW
  rw[aJY nm hd hn,hcp]
  unfold bXq
  congr 1
  funext y9 y10
  rw[bAN (by omega) hd]
 rw[tail,tail,tail,bYT (by omega) hd,bYT (by omega) hd,bYT (by omega) hd]
 by_cases c:aHS nm ins els nodes rules outs attrs=0
 rotate_left
 ·rw[if_pos c,if_pos c]
  unfold bWY
  rw[aAd c,aAd rfl,aAd rfl]
  rfl
 obtain⟨c1,c2,hv⟩:=bDM (by omega) hd c
 have c':¬aHS nm ins els nodes rules outs attrs≠0:=by simpa using c
 have hj2:∀ st er y9 y10,bWY N k l st er y9 y10 (aHS nm ins els nodes rules outs attrs) nm ins els nodes rules outs attrs e e2=if bYy ins l≠0 then (bif decide (er=bYy ins l)then (bif decide (((st.length:Nat):Int)=0)then (bif decide (y10=6)then (k (decide (y9=0)))else (bif decide (y10=bYy ins l)then (k (decide (y9=0)))else (k false)))else (k false))else (k false))else bXa N k l st er y9 y10 nm ins els nodes rules outs attrs e e2:=by
  intro st er y9 y10
  unfold bWY
  rw[aAc c']
  unfold bXo
  rw[bZ9 (by omega) hv.dv]
  try dsimp only
  by_cases q:bYy ins l=0
  ·rw[aAc (by simpa using q),if_neg (by simpa using q)]
  ·rw[aAd q,if_pos q]
 rw[if_neg c',if_neg c',if_neg c']
 have hnil:∀ (a b:Option R),(bif decide ((((([]:List (List Int)).length:Nat):Int))=0)then a else b)=a:=fun _ _=>rfl
 by_cases q:bYy ins l=0
 rotate_left
 ·rw[if_pos q]
  by_cases w:0<=e∧e<=(els.length:Int)-1
  ·rw[if_pos w,aGq,if_pos q,hj2,if_pos q,aAd rfl,hnil]
   by_cases q6:bYy ins l=6
   ·rw[aAd q6];rfl
   ·rw[aAc q6,aAd rfl];rfl
  ·rw[if_neg w,aKn (by decide),if_pos (by decide),hj2,if_pos q,aAd rfl,hnil,aAd rfl];rfl
 have q':¬bYy ins l≠0:=by simpa using q
 obtain⟨q3,q4⟩:=bZB q
 have hrl:=bYb nodes els rules l (elI els)
 have hL:=bYB hv.dv l (elI els) (bXU hv.dv) q4
 have hbe:=hb.e
 have hbr:=hb.r
 have hj7:bXb N k l (elI els :: bYx nodes els rules l (elI els)) nm ins els nodes rules outs attrs=k true:=by
  unfold bXb
  exact cAF hN hd hn c hv (by omega) (by omega) k (k true) l (by omega) hx _ l N 0 (elI els) rfl rfl (by omega) (bXU hv.dv) q4
 have hj4:∀ y9 y10,bXa N k l (elI els :: bYx nodes els rules l (elI els)) 0 y9 y10 nm ins els nodes rules outs attrs e e2=bW9 N k l y9 y10 (elI els :: bYx nodes els rules l (elI els)) nm ins els nodes rules outs attrs e e2:=by
  intro y9 y10
  unfold bXa
  rw[cDo (by omega) ⟨hd.els.2.1,hd.els.1⟩ hv l q3 q4]
  unfold bXp
  rw[aAc (by simp),cAu _ (by simp;omega) (by simp;omega) fun t ht=>by have:=bYD (hL t ht);omega]
  rfl
 rw[if_neg q']
 by_cases w:0<=e∧e<=(els.length:Int)-1
 ·rw[if_pos w,aGq,if_neg q',hj2,if_neg q',hj4]
  unfold bW9
  rw[aDt (by omega) (by omega),aD5,decide_eq_true w]
  try dsimp only
  rw[Bool.not_true,cond_false,aAc (by simp),cCx (by omega) ⟨hd.els.2.1,hd.els.1⟩ hv e w l q3 q4,aAc (by simp)]
  exact hj7
 ·rw[if_neg w,aKn (by decide),if_pos (by decide),hj2,if_neg q',hj4]
  unfold bW9
  rw[aDt (by omega) (by omega),aD5,decide_eq_false w]
  try dsimp only
  rw[Bool.not_false,cond_true,aAc (by simp),aAc (by simp)]
  exact hj7
end
theorem bYi:bXR:=by
 intro x0 x1 x2 h _ _
 obtain⟨nm,ins,els,nodes,rules,outs,attrs⟩:=x0
 obtain⟨h0,⟨_,h1⟩,⟨_,h2⟩,_,⟨_,h4⟩,⟨_,h5⟩,_⟩:=h
 have hml:maxLen=9223372036854775807:=by decide
 obtain⟨q0,q1,q2,q4,q5⟩:=aXQ nm ins els rules outs
 have j0:SZ (1+aJG nm ins els rules outs+2000) nm:=⟨by omega,by rw[<- hml];exact h0⟩
 have j1:∀ x,x∈ins->SZ (1+aJG nm ins els rules outs+2000) x.1:=fun x hx=>⟨by have:=q1 x hx;omega,by rw[<- hml];exact (h1 x hx).1⟩
 have j2:∀ x,x∈els->SZ (1+aJG nm ins els rules outs+2000) x.1:=fun x hx=>⟨by have:=q2 x hx;omega,by rw[<- hml];exact (h2 x hx).1⟩
 have j4:∀ x,x∈rules->SZ (1+aJG nm ins els rules outs+2000) x.1:=fun x hx=>⟨by have:=q4 x hx;omega,by rw[<- hml];exact (h4 x hx).1⟩
 have j5:∀ x,x∈outs->SZ (1+aJG nm ins els rules outs+2000) x.1:=fun x hx=>⟨by have:=q5 x hx;omega,by rw[<- hml];exact (h5 x hx).1⟩
 exact⟨1+aJG nm ins els rules outs+2000,fun {R} k=>cDd (1+aJG nm ins els rules outs) rfl j0 j1 j2 j4 j5 x1 x2.1 x2.2 k⟩
end
end Am
end Go.Proofs.YtkmbhgggpfbffaaGreatDoor
