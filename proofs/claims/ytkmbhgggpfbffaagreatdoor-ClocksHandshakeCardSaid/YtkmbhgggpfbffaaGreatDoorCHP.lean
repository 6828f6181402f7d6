/- The statement ClocksHandshake over plain data: the handshake as a design, and what is passed by it, are as the reference says, or the errors; its crossings are guarded, with its data as stable; it holds for all widths and events, without a condition of its own. -/
import Derived.Test.YtkmbhgggpfbffaaGreatDoorCHF
import Derived.Test.YtkmbhgggpfbffaaGreatDoorPu
set_option linter.unusedVariables false
set_option linter.unusedSimpArgs false
set_option linter.constructorNameAsVariable false
set_option maxRecDepth 100000
namespace Go.Proofs.YtkmbhgggpfbffaaGreatDoor
namespace Am
section
variable {R:Type}
theorem sc {k n:Nat}(h:k<n):∃ m,n=m+1:=⟨n-1,by omega⟩
def p2 (n:Int):Int:=2^n.toNat
theorem aQ8 (n:Int):0<p2 n:=by unfold p2;exact Int.pow_pos (by omega)
theorem cEQ (n:Nat):p2 (n:Int)=((2^n:Nat):Int):=by unfold p2;simp
theorem bJV {a b:Int}(h:a<=b):p2 a<=p2 b:=by
 unfold p2
 have:(2:Nat)^a.toNat<=2^b.toNat:=Nat.pow_le_pow_right (by omega) (by omega)
 exact_mod_cast this
theorem bDz {n:Int}(h:n<=16):p2 n<=65536:=bJV h
theorem cBf {a b:Int}(ha:0<=a)(hb:0<=b):p2 (a+b)=p2 a*p2 b:=by
 unfold p2
 rw[show (a+b).toNat=a.toNat+b.toNat by omega,Int.pow_add]
theorem bZv {w:Int}(h:1<=w):p2 w=2*p2 (w-1):=by
 have:=cBf (a:=w-1) (b:=1) (by omega) (by omega)
 rw[show w-1+1=w by omega]at this
 rw[this,Int.mul_comm];rfl
theorem aVr {n:Int}(h0:0<=n)(h:n<=40):aPi .i64 1 n=p2 n:=by
 have h1:p2 n<=p2 40:=bJV h
 have h2:p2 40=1099511627776:=by decide
 have h3:=aQ8 n
 unfold aPi
 have e:min n.toNat (IntKind.bits .i64)=n.toNat:=by
  have:IntKind.bits .i64=64:=rfl
  omega
 rw[e,Int.one_mul]
 exact aDt (x:=p2 n) (by omega) (by omega)
def vok (w n:Int):Bool:=decide (0<=n∧n<=p2 w-1)
theorem bYt (n:Int):(BitVec.ofInt 64 n).toNat=(n%18446744073709551616).toNat:=by
 rw[BitVec.toNat_ofInt];rfl
theorem cBz (n w:Int)(h0:0<=w)(h:w<=16):bLe .i64 n (p2 w-1)=n%p2 w:=by
 have h1:=aQ8 w
 have h2:=bDz h
 have hp:p2 w=((2^w.toNat:Nat):Int):=by
  have:=cEQ w.toNat
  rwa [show ((w.toNat:Nat):Int)=w by omega]at this
 unfold bLe
 have hbits:IntKind.bits .i64=64:=rfl
 have e:(BitVec.ofInt 64 n &&& BitVec.ofInt 64 (p2 w-1)).toNat=(n%p2 w).toNat:=by
  rw[BitVec.toNat_and,bYt,bYt]
  have e1:((p2 w-1)%18446744073709551616).toNat=2^w.toNat-1:=by
   rw[Int.emod_eq_of_lt (by omega) (by omega)];omega
  rw[e1,Nat.and_two_pow_sub_one_eq_mod]
  have hq:(n%18446744073709551616)%p2 w=n%p2 w:=by
   refine Int.emod_emod_of_dvd n ?_
   rw[hp]
   have:(2:Nat)^w.toNat ∣ 2^64:=Nat.pow_dvd_pow 2 (by omega)
   have e64:(18446744073709551616:Int)=((2^64:Nat):Int):=by decide +kernel
   rw[e64]
   exact Int.natCast_dvd_natCast.2 this
  rw[<- hq]
  have h5:0<=n%18446744073709551616:=Int.emod_nonneg n (by omega)
  rw[hp]
  generalize n%18446744073709551616=x at h5
  obtain⟨y,rfl⟩:∃ y:Nat,x=y:=⟨x.toNat,by omega⟩
  rfl
 show IntKind.wrap .i64 (((BitVec.ofInt (IntKind.bits .i64) n &&& BitVec.ofInt (IntKind.bits .i64) (p2 w-1)).toNat:Nat):Int)=_
 rw[show (BitVec.ofInt (IntKind.bits .i64) n &&& BitVec.ofInt (IntKind.bits .i64) (p2 w-1)).toNat=_ from e]
 have h6:=Int.emod_nonneg n (show p2 w≠0 by omega)
 have h7:=Int.emod_lt_of_pos n h1
 rw[Int.toNat_of_nonneg h6]
 exact aDt (x:=n%p2 w) (by omega) (by omega)
theorem cBn {n:Int}(v:Int)(h0:0<=n)(h:n<=40):aLT .i64 v n=v/p2 n:=by
 unfold aLT p2
 have e:min n.toNat (IntKind.bits .i64)=n.toNat:=by
  have:IntKind.bits .i64=64:=rfl
  omega
 rw[e,Int.fdiv_eq_ediv_of_nonneg _ (Int.le_of_lt (Int.pow_pos (by omega)))]
theorem bYF {w:Int}(n:Int):vok w (n%p2 w)=true:=by
 have h:=aQ8 w
 have h1:=Int.emod_nonneg n (show p2 w≠0 by omega)
 have h2:=Int.emod_lt_of_pos n h
 exact decide_eq_true ⟨h1,by omega⟩
def sg (w n:Int):Int:=if p2 (w-1)<=n then n-p2 w else n
def f1 (a b:Int):Int:=if a=0 then b else a
theorem aGq (b:Int):f1 0 b=b:=rfl
theorem aKn {a:Int}(h:a≠0)(b:Int):f1 a b=a:=if_neg h
theorem f1_0 {a b:Int}:f1 a b=0↔a=0∧b=0:=by
 unfold f1;split <;> simp_all
theorem aAh {α:Type}{l:List α}{x:α}{r:List α}{i:Nat}(h:l.drop i=x :: r):i<l.length∧at? l (i:Int)=some x∧l.drop (i+1)=r:=by
 have hl:i<l.length:=by
  rcases Nat.lt_or_ge i l.length with q | q
  ·exact q
  ·rw[List.drop_eq_nil_of_le q]at h;cases h
 rw[aI8 hl]at h
 injection h with h1 h2
 exact⟨hl,by rw[aHb hl,h1],h2⟩
theorem aAm {α:Type}{l:List α}{i:Nat}(h:l.drop i=[]):¬((i:Int)<(l.length:Int)):=by
 have:=List.drop_eq_nil_iff.1 h
 omega
theorem aAl {i:Nat}(h:i<=9223372036854775806):w64 ((i:Int)+1)=((i+1:Nat):Int):=by
 rw[aDt (by omega) (by omega)];omega
theorem aG2 (N:Nat)(a lo hi:Int)(k:Bool->Option R):aAF N a lo hi k=k (decide (lo<=a∧a<=hi)):=by
 unfold aAF
 by_cases h:lo<=a <;> simp[h]
theorem aIK (N:Nat)(a lo hi:Int)(k:Bool->Option R):aC6 N a lo hi k=k (decide (lo<=a∧a<=hi)):=by
 unfold aC6
 by_cases h:lo<=a <;> simp[h]
theorem aCK (N:Nat)(b:Bool)(e:Int)(k:Int->Option R):aAj N b e k=k (if b=true then 0 else e):=by cases b <;> rfl
theorem aCt (N:Nat)(b:Bool)(e:Int)(k:Int->Option R):aAy N b e k=k (if b=true then 0 else e):=by cases b <;> rfl
theorem aIE (N:Nat)(k0:Int->Option R)(k1:Option R)(l:List Int)(hl:l.length<=1000000):∀ (r:List Int) (n i:Nat),l.drop i=r->r.length<n->aDQ N k0 k1 n l l.length i=match r.find? (fun x=>decide (x≠0))with | some x=>k0 x | none=>k1
 | [],n,i,h,hn=>by
  obtain⟨n,rfl⟩:=sc hn
  rw[aDQ,aAc (aAm h)];rfl
 | x :: r,n,i,h,hn=>by
  obtain⟨n,rfl⟩:=sc hn
  obtain⟨h1,h2,h3⟩:=aAh h
  rw[aDQ,aAd (by omega),h2,aAe,List.find?_cons]
  by_cases hx:x=0
  ·rw[aAc (by simp[hx]),aAl (by omega)]
   simp only[hx,ne_eq,not_true,decide_false]
   exact aIE N k0 k1 l hl r n (i+1) h3 (by simp at hn;omega)
  ·rw[aAd hx];simp[hx]
theorem aIN (N:Nat)(k0:Int->Option R)(k1:Option R)(l:List Int)(hl:l.length<=1000000):∀ (r:List Int) (n i:Nat),l.drop i=r->r.length<n->aEh N k0 k1 n l l.length i=match r.find? (fun x=>decide (x≠0))with | some x=>k0 x | none=>k1
 | [],n,i,h,hn=>by
  obtain⟨n,rfl⟩:=sc hn
  rw[aEh,aAc (aAm h)];rfl
 | x :: r,n,i,h,hn=>by
  obtain⟨n,rfl⟩:=sc hn
  obtain⟨h1,h2,h3⟩:=aAh h
  rw[aEh,aAd (by omega),h2,aAe,List.find?_cons]
  by_cases hx:x=0
  ·rw[aAc (by simp[hx]),aAl (by omega)]
   simp only[hx,ne_eq,not_true,decide_false]
   exact aIN N k0 k1 l hl r n (i+1) h3 (by simp at hn;omega)
  ·rw[aAd hx];simp[hx]
theorem aGL (N:Nat)(hN:10<=N)(a b:Int)(k:Int->Option R):aAY N [a,b] k=k (f1 a b):=by
 unfold aAY f1
 have:=aIE N k (k 0) [a,b] (by simp) [a,b] N 0 rfl (by simp;omega)
 rw[Int.natCast_zero]at this
 rw[this]
 by_cases ha:a=0 <;> by_cases hb:b=0 <;> simp[ha,hb]
theorem aM0 (N:Nat)(hN:10<=N)(a b c:Int)(k:Int->Option R):aAY N [a,b,c] k=k (f1 a (f1 b c)):=by
 unfold aAY f1
 have:=aIE N k (k 0) [a,b,c] (by simp) [a,b,c] N 0 rfl (by simp;omega)
 rw[Int.natCast_zero]at this
 rw[this]
 by_cases ha:a=0 <;> by_cases hb:b=0 <;> by_cases hc:c=0 <;> simp[ha,hb,hc]
theorem aUx (N:Nat)(hN:10<=N)(a b:Int)(k:Int->Option R):aC8 N [a,b] k=k (f1 a b):=by
 unfold aC8 f1
 have:=aIN N k (k 0) [a,b] (by simp) [a,b] N 0 rfl (by simp;omega)
 rw[Int.natCast_zero]at this
 rw[this]
 by_cases ha:a=0 <;> by_cases hb:b=0 <;> simp[ha,hb]
theorem bC4 (N:Nat)(hN:10<=N)(a b c:Int)(k:Int->Option R):aC8 N [a,b,c] k=k (f1 a (f1 b c)):=by
 unfold aC8 f1
 have:=aIN N k (k 0) [a,b,c] (by simp) [a,b,c] N 0 rfl (by simp;omega)
 rw[Int.natCast_zero]at this
 rw[this]
 by_cases ha:a=0 <;> by_cases hb:b=0 <;> by_cases hc:c=0 <;> simp[ha,hb,hc]
def Tx (l:List UInt8):ByteArray:=⟨l.toArray⟩
theorem bGb (s:ByteArray):s=Tx s.data.toList:=by unfold Tx;rw[Array.toArray_toList]
theorem aLG (l:List UInt8):(Tx l).size=l.length:=by simp[Tx,ByteArray.size]
theorem aSG {l:List UInt8}{i:Nat}(h:i<l.length):aJd (Tx l) (i:Int)=some (l[i].toNat:Int):=by
 unfold aJd
 rw[dif_pos ⟨by omega,by rw[aLG];simpa using h⟩]
 rfl
def bGz (c:Nat):Bool:=decide ((97<=c∧c<=122)∨(65<=c∧c<=90))
def nmL:Bool->List UInt8->Bool
 | _,[]=>true
 | f,c :: r=>(bGz c.toNat||(!f&&decide (c.toNat=95∨(48<=c.toNat∧c.toNat<=57))))&&nmL false r
theorem aQD (f:Bool)(c:UInt8)(r:List UInt8):nmL f (c :: r)=((bGz c.toNat||(!f&&decide (c.toNat=95∨(48<=c.toNat∧c.toNat<=57))))&&nmL false r):=rfl
def nmB (s:ByteArray):Bool:=nmL true s.data.toList&&decide (1<=s.size∧s.size<=16)
theorem aMA (N:Nat)(k0:Bool->Option R)(k1:ByteArray->Option R)(l:List UInt8)(hl:l.length<=9223372036854775807):∀ (r:List UInt8) (n i:Nat),l.drop i=r->r.length<n->aB3 N k0 k1 n (Tx l) l.length i=if nmL (decide (i=0)) r=true then k1 (Tx l)else k0 false
 | [],n,i,h,hn=>by
  obtain⟨n,rfl⟩:=sc hn
  rw[aB3,aAc (aAm h)];rfl
 | c :: r,n,i,h,hn=>by
  obtain⟨n,rfl⟩:=sc hn
  obtain⟨h1,h2,h3⟩:=aAh h
  have hc:l[i]=c:=by
   rw[aI8 h1]at h
   injection h
  have ih:=aMA N k0 k1 l hl r n (i+1) h3 (by simp at hn;omega)
  rw[show (decide (i+1=0))=false from rfl]at ih
  have hb:=c.toNat_lt
  rw[aB3,aAd (by omega),aSG h1,aAe,hc,aDt (x:=(c.toNat:Int)) (by omega) (by omega),aAl (by omega)]
  simp only[aG2,ih]
  rw[aQD]
  unfold bGz
  generalize nmL false r=z
  generalize c.toNat=m at hb
  by_cases q1:97<=m∧m<=122
  ·have e1:(97:Int)<=(m:Int)∧(m:Int)<=122:=by omega
   simp[q1,e1]
  ·have e1:¬((97:Int)<=(m:Int)∧(m:Int)<=122):=by omega
   by_cases q2:65<=m∧m<=90
   ·have e2:(65:Int)<=(m:Int)∧(m:Int)<=90:=by omega
    rw[decide_eq_false e1,decide_eq_true e2]
    simp[q1,q2]
   ·have e2:¬((65:Int)<=(m:Int)∧(m:Int)<=90):=by omega
    rw[decide_eq_false e1,decide_eq_false e2]
    by_cases q3:i=0
    ·subst q3;simp[q1,q2]
    ·have e3:¬((i:Int)=0):=by omega
     by_cases q4:m=95
     ·subst q4;simp[e3,q3]
     ·have e4:(m:Int)≠95:=by omega
      by_cases q5:48<=m∧m<=57
      ·have e5:(48:Int)<=(m:Int)∧(m:Int)<=57:=by omega
       simp[q1,q2,q3,q4,q5,e3,e4,e5]
      ·have e5:¬((48:Int)<=(m:Int)∧(m:Int)<=57):=by omega
       rw[decide_eq_false e5]
       simp[q1,q2,q3,q4,q5,e3,e4]
theorem bKs (N:Nat)(s:ByteArray)(hN:s.size<N)(hs:s.size<=9223372036854775807)(k:Bool->Option R):aFt N s k=k (nmB s):=by
 have hz:s.size=s.data.toList.length:=by
  have:=aLG s.data.toList
  rw[<- bGb s]at this;exact this
 have:=aMA N k (fun z6=>aAF N ((z6.size:Nat):Int) 1 16 k) s.data.toList (by omega) s.data.toList N 0 rfl (by omega)
 rw[<- bGb s,<- hz,Int.natCast_zero]at this
 unfold aFt nmB
 rw[this,decide_eq_true rfl]
 cases nmL true s.data.toList
 ·rfl
 ·rw[if_pos rfl,aG2,Bool.true_and]
  congr 1
  exact decide_eq_decide.2 (by omega)
def inS (a:ByteArray):List ByteArray->Bool
 | []=>false
 | x :: r=>decide (a=x)||inS a r
abbrev NM:=List (ByteArray×Nat×Bool)
def mxS (a:ByteArray):NM->Option Nat
 | []=>none
 | e :: r=>bif decide (a=e.1)then some 0 else (mxS a r).map (·+1)
theorem aNq (a:ByteArray)(e:ByteArray×Nat×Bool)(r:NM):mxS a (e :: r)=bif decide (a=e.1)then some 0 else (mxS a r).map (·+1):=rfl
theorem aM1 (a x:ByteArray)(r:List ByteArray):inS a (x :: r)=(decide (a=x)||inS a r):=rfl
theorem aTg (a:ByteArray):∀ xs:NM,aLY .s a xs=mxS a xs
 | []=>rfl
 | e :: r=>by
  have ih:=aTg a r
  rw[aNq,<- ih];rfl
def mgS (a:ByteArray)(xs:NM):Bool:=match mxS a xs with
 | none=>false
 | some i=>((xs[i]?).map (·.2.2)).getD false
def mpS (a:ByteArray)(c:Nat)(xs:NM):NM:=match mxS a xs with
 | none=>xs++[(a,c,true)]
 | some i=>xs.modify i fun e=>(a,e.2.1,true)
theorem bH9 (a:ByteArray)(xs:NM):aFh .s a xs false=mgS a xs:=by
 unfold aFh mgS
 rw[aTg];rfl
theorem bKf (a:ByteArray)(c:Nat)(xs:NM):aOS .s a true c xs=mpS a c xs:=by
 unfold aOS mpS
 rw[aTg];rfl
theorem aKU (t:ByteArray)(e:ByteArray×Nat×Bool)(r:NM):mgS t (e :: r)=if t=e.1 then e.2.2 else mgS t r:=by
 unfold mgS
 rw[aNq]
 by_cases h:t=e.1
 ·rw[aAd h,if_pos h];rfl
 ·rw[aAc h,if_neg h]
  cases mxS t r <;> rfl
theorem aY1 (a b:ByteArray)(c:Nat):∀ xs:NM,mgS b (mpS a c xs)=if b=a then true else mgS b xs
 | []=>by
  show mgS b [(a,c,true)]=_
  rw[aKU]
 | e :: r=>by
  have ih:=aY1 a b c r
  unfold mpS
  rw[aNq]
  by_cases h:a=e.1
  ·rw[aAd h]
   show mgS b ((a,e.2.1,true) :: r)=_
   rw[aKU,aKU]
   by_cases q:b=a
   ·simp[q]
   ·simp[q,<- h]
  ·rw[aAc h]
   unfold mpS at ih
   cases hm:mxS a r with
   | none=>
    rw[hm]at ih
    show mgS b (e :: (r++[(a,c,true)]))=_
    rw[aKU,aKU,ih]
    by_cases q:b=e.1
    ·simp[q,Ne.symm h]
    ·simp[q]
   | some i=>
    rw[hm]at ih
    show mgS b (e :: r.modify i _)=_
    rw[aKU,aKU,ih]
    by_cases q:b=e.1
    ·simp[q,Ne.symm h]
    ·simp[q]
def KN (m:NM)(S:List ByteArray):Prop:=∀ a,mgS a m=inS a S
theorem aQN:KN [] []:=fun a=>rfl
theorem aOa {m:NM}{S:List ByteArray}(h:KN m S)(a:ByteArray)(c:Nat):KN (mpS a c m) (a :: S):=fun b=>by
 rw[aY1,h b]
 rw[aM1]
 by_cases q:b=a <;> simp[q]
def aNU (S:List ByteArray)(s:ByteArray):Int:=if nmB s=true then (if inS s S=true then 5 else 0)else 4
theorem aOm (N:Nat)(hN:10<=N)(s:ByteArray)(c:Nat){m:NM}{S:List ByteArray}(hs:s.size<N)(hs2:s.size<=9223372036854775807)(hm:KN m S)(k:Int->Nat->NM->Option R) :
  aCs N s c m k=k (aNU S s) (aGp .s s c m) (mpS s c m):=by
 unfold aCs aNU
 rw[bKs N s hs hs2,aCK,aCK,aGL N hN,bH9,bKf,hm s]
 congr 1
 cases nmB s <;> cases inS s S <;> rfl
abbrev Nd:=Int×Int×List Int×Int
def aKu (nodes:List Nd)(a:Int):Int:=((nodes[a.toNat]?).map (·.2.1)).getD 0
def wOK (n:Int):Bool:=decide (1<=n∧n<=16)
def aOs (op:Int):Int:=if op<=1 then 0 else if op=2∨op=14∨op=15∨op=16 then 1 else if op=12 then 3 else 2
def aJg (leaves:List Int)(op wd v:Int):Int:=if op=0 then (if vok wd v=true then 0 else 2)else if op=1 then (if 0<=v∧v<=(leaves.length:Int)-1 then (if leaves[v.toNat]? = some wd then 0 else 25)else 6)else if op=14 then (if 0<=v∧v<=15 then 0 else 2)else if v=0 then 0 else 3
def w0 (w:List Int)(i:Nat):Int:=(w[i]?).getD 0
def aJ5 (op wd v:Int)(w:List Int):Bool:=if op<=1 then true else if op<=8 then w.all (fun x=>decide (x=wd))else if op<=11 then decide (wd=1∧w0 w 0=w0 w 1)else if op=12 then decide (w0 w 0=1∧w0 w 1=wd∧w0 w 2=wd)else if op=13 then decide (w0 w 0+w0 w 1=wd)else if op=14 then decide (v+wd<=w0 w 0)else if op<=16 then decide (w0 w 0<=wd)else decide (w0 w 0=wd)
def aNS (i:Int)(args:List Int):Bool:=args.any fun a=>!decide (0<=a∧a<=i-1)
def aJQ (leaves:List Int)(nodes:List Nd)(i:Int)(x:Nd):Int:=
 f1 (if 0<=x.1∧x.1<=18 then 0 else 15) (f1 (if wOK x.2.1=true then 0 else 2) (f1 (if (x.2.2.1.length:Int)=aOs x.1 then 0 else 10) (f1 (if aNS i x.2.2.1=true then 9 else 0) (f1 (aJg leaves x.1 x.2.1 x.2.2.2)
  (if aJ5 x.1 x.2.1 x.2.2.2 (x.2.2.1.map (aKu nodes))=true then 0 else 25)))))
theorem aZm (N:Nat)(n:Int)(k:Bool->Option R):aFy N n k=k (wOK n):=by unfold aFy wOK;rw[aIK]
theorem aKT (N:Nat)(k0:Int->Int->Option R)(k1:Option R)(l:List Int)(hl:l.length<=1000000):∀ (r:List Int) (n i:Nat),l.drop i=r->r.length<n ->
  ∃ j:Int,aAT N k0 k1 n l l.length i=if r.all wOK=true then k1 else k0 j 2
 | [],n,i,h,hn=>by
  obtain⟨n,rfl⟩:=sc hn
  exact⟨0,by rw[aAT,aAc (aAm h)];rfl⟩
 | x :: r,n,i,h,hn=>by
  obtain⟨n,rfl⟩:=sc hn
  obtain⟨h1,h2,h3⟩:=aAh h
  obtain⟨j,ih⟩:=aKT N k0 k1 l hl r n (i+1) h3 (by simp at hn;omega)
  rw[aAT,aAd (by omega),h2,aAe]
  unfold aFj
  rw[aZm,aCt,List.all_cons]
  cases hx:wOK x
  ·exact⟨i,rfl⟩
  ·refine⟨j,?_⟩
   rw[if_pos rfl,aAc (by simp),aAl (by omega),ih,Bool.true_and]
theorem aPH (N:Nat)(l:List Int)(hl:l.length<=1000000)(hN:l.length<N)(k:Int->Int->Option R):∃ j:Int,aC4 N l k=if l.all wOK=true then k 0 0 else k j 2:=by
 have:=aKT N k (k 0 0) l hl l N 0 rfl hN
 rwa [Int.natCast_zero]at this
theorem aQU (N:Nat)(k0:Int->Int->Option R)(k1:Int->Option R)(l:List Int)(hl:l.length<=1000000)(m:Int)(hm:0<=m∧m<=1000000):∀ (r:List Int) (n i:Nat),l.drop i=r->r.length<n ->
  ∃ j:Nat,aAn N k0 k1 n l l.length i m=if aNS m r=true then k0 j m else k1 m
 | [],n,i,h,hn=>by
  obtain⟨n,rfl⟩:=sc hn
  exact⟨0,by rw[aAn,aAc (aAm h)];rfl⟩
 | x :: r,n,i,h,hn=>by
  obtain⟨n,rfl⟩:=sc hn
  obtain⟨h1,h2,h3⟩:=aAh h
  obtain⟨j,ih⟩:=aQU N k0 k1 l hl m hm r n (i+1) h3 (by simp at hn;omega)
  rw[aAn,aAd (by omega),h2,aAe]
  unfold aEl
  rw[aIK,aDt (x:=m-1) (by omega) (by omega)]
  unfold aNS at ih ⊢
  rw[List.any_cons]
  cases decide (0<=x∧x<=m-1)
  ·exact⟨i,rfl⟩
  ·refine⟨j,?_⟩
   dsimp only
   rw[Bool.not_true,cond_false,aAl (by omega),ih,Bool.false_or]
theorem bGZ (N:Nat)(l:List Int)(hl:l.length<=1000000)(hN:l.length<N)(m:Int)(hm:0<=m∧m<=1000000)(k:Bool->Int->Option R):aAb N l m k=k (aNS m l) m:=by
 unfold aAb aBf
 obtain⟨j,this⟩:=aQU N (fun y1 y2=>k (decide (0<=y1)) y2) (fun z=>k (decide ((0:Int)<=-1)) z) l hl m hm l N 0 rfl hN
 rw[Int.natCast_zero]at this
 rw[this]
 cases aNS m l
 ·rfl
 ·rw[if_pos rfl,decide_eq_true (by omega)]
theorem aN1 (N:Nat)(k0:Int->Int->Option R)(k1:Int->Option R)(l:List Int)(hl:l.length<=1000000)(m:Int):∀ (r:List Int) (n i:Nat),l.drop i=r->r.length<n ->
  ∃ j:Nat,aAD N k0 k1 n l l.length i m=if r.all (fun x=>decide (x=m))=true then k1 m else k0 j m
 | [],n,i,h,hn=>by
  obtain⟨n,rfl⟩:=sc hn
  exact⟨0,by rw[aAD,aAc (aAm h)];rfl⟩
 | x :: r,n,i,h,hn=>by
  obtain⟨n,rfl⟩:=sc hn
  obtain⟨h1,h2,h3⟩:=aAh h
  obtain⟨j,ih⟩:=aN1 N k0 k1 l hl m r n (i+1) h3 (by simp at hn;omega)
  rw[aAD,aAd (by omega),h2,aAe]
  unfold aHN
  dsimp only
  rw[List.all_cons]
  by_cases hx:x=m
  ·refine⟨j,?_⟩
   rw[aAc (by simp[hx]),aAl (by omega),ih,decide_eq_true hx,Bool.true_and]
  ·exact⟨i,by rw[aAd hx,decide_eq_false hx];rfl⟩
theorem same_eq (N:Nat)(l:List Int)(hl:l.length<=1000000)(hN:l.length<N)(m v:Int)(k:Bool->Option R):aIh N m l v k=k (l.all fun x=>decide (x=m)):=by
 unfold aIh aB0 aCh
 obtain⟨j,this⟩:=aN1 N (fun y1 y2=>k (!decide (0<=y1))) (fun z=>k (!decide ((0:Int)<=-1))) l hl m l N 0 rfl hN
 rw[Int.natCast_zero]at this
 rw[this]
 cases l.all fun x=>decide (x=m)
 ·rw[if_neg (by simp),decide_eq_true (by omega)];rfl
 ·rfl
theorem bN7 (N:Nat)(v w:Int)(h0:1<=w)(h:w<=16)(k:Bool->Option R):aHu N v w k=k (vok w v):=by
 have:=aQ8 w;have:=bDz h
 unfold aHu
 rw[aAd (by omega),aAc (by omega),aVr (by omega) (by omega),aDt (by omega) (by omega),aIK];rfl
theorem aOQ (N:Nat)(leaves:List Int)(hl:leaves.length<=1000000)(op wd:Int)(args:List Int)(v:Int)(nm:ByteArray)(na:Int)(b:Bool)(f g:Nat)(cs:List S)(hw:wOK wd=true)(hb:b=decide (op=0∨op=1∨op=14))(k:Int->Option R) :
  aE8 N leaves op wd args v nm na b f g cs k=k (aJg leaves op wd v):=by
 have hw:=of_decide_eq_true hw
 unfold aE8 aJg
 by_cases c0:op=0
 ·rw[aAd c0,if_pos c0,bN7 N v wd hw.1 hw.2,aCt]
 ·rw[aAc c0,if_neg c0]
  by_cases c1:op=1
  ·rw[aAd c1,if_pos c1,aIK,aDt (by omega) (by omega)]
   by_cases c:0<=v∧v<=(leaves.length:Int)-1
   ·rw[decide_eq_true c,if_pos c,Bool.not_true,cond_false]
    obtain⟨n,rfl⟩:∃ n:Nat,v=n:=⟨v.toNat,by omega⟩
    rw[aHb (show n<leaves.length by omega),aAe,aCt,Int.toNat_natCast,List.getElem?_eq_getElem (show n<leaves.length by omega)]
    by_cases e:leaves[n]'(by omega)=wd <;> simp[e]
   ·rw[decide_eq_false c,if_neg c];rfl
  ·rw[aAc c1,if_neg c1]
   by_cases c2:op=14
   ·rw[aAd c2,if_pos c2,aIK,aCt]
    congr 1;by_cases c:0<=v∧v<=15 <;> simp[c]
   ·rw[aAc c2,if_neg c2,hb,decide_eq_false (by omega),cond_false,aCt]
    congr 1;by_cases c:v=0 <;> simp[c]
theorem aKK (N:Nat)(k0:Int->Int->List Int->Int->ByteArray->Int->Bool->Nat->Nat->List S->List Int->List Int->List Nd->Option R)(l:List Int)(hl:l.length<=3)(nodes:List Nd)(m:Int)(hm:m<=nodes.length)
  (op wd:Int) (args:List Int) (v:Int) (nm:ByteArray) (na:Int) (b:Bool) (f g:Nat) (cs:List S) (lv:List Int):∀ (r:List Int) (n i:Nat) (acc:List Int),l.drop i=r->r.length<n->acc.length<=i->aNS m r=false ->
  aBp N k0 n l l.length i nodes op wd args v nm na b f g cs acc lv=k0 op wd args v nm na b f g cs (acc++r.map (aKu nodes)) lv nodes
 | [],n,i,acc,h,hn,ha,ho=>by
  obtain⟨n,rfl⟩:=sc hn
  rw[aBp,aAc (aAm h),List.map_nil,List.append_nil]
 | x :: r,n,i,acc,h,hn,ha,ho=>by
  obtain⟨n,rfl⟩:=sc hn
  obtain⟨h1,h2,h3⟩:=aAh h
  unfold aNS at ho
  rw[List.any_cons,Bool.or_eq_false_iff]at ho
  have hx:0<=x∧x<=m-1:=by simpa using ho.1
  obtain⟨a,rfl⟩:∃ a:Nat,x=a:=⟨x.toNat,by omega⟩
  have ih:=aKK N k0 l hl nodes m hm op wd args v nm na b f g cs lv r n (i+1) (acc++[nodes[a]'(by omega) |>.2.1]) h3 (by simp at hn;omega) (by simp;omega) ho.2
  rw[aBp,aAd (by omega),h2,aAe,aHb (show a<nodes.length by omega),aAe,aBs (by omega),cond_true,aAl (by omega),ih,List.map_cons,List.append_assoc]
  unfold aKu
  rw[Int.toNat_natCast,List.getElem?_eq_getElem (show a<nodes.length by omega)]
  rfl
def WOK (nodes:List Nd)(i:Int):Prop:=∀ a:Int,0<=a->a<=i-1->wOK (aKu nodes a)=true
theorem bIx (N:Nat)(hN:10<=N)(leaves:List Int)(hl:leaves.length<=1000000)(nodes:List Nd)(m:Int)(hm:m<=nodes.length)(hW:WOK nodes m)(op wd:Int)(args:List Int)(v:Int)(nm:ByteArray)(na:Int)(b:Bool)(f g:Nat)(cs:List S)
  (hw:wOK wd=true) (hb:b=decide (op=0∨op=1∨op=14)) (hna:na=aOs op) (k:Int->List Int->List Nd->Option R) (K:Int->Int->List Int->Int->ByteArray->Int->Bool->Nat->Nat->List S->List Int->List Int->List Nd->Option R)
  (hj:∀ w:List Int,(w.length:Int)=aOs op->(∀ x,x∈w->wOK x=true)->aJg leaves op wd v=0->K op wd args v nm na b f g cs w leaves nodes=k (if aJ5 op wd v w=true then 0 else 25) leaves nodes) :
  (aAy N (decide (((args.length:Nat):Int)=na)) 10 (fun y1=>(aAy N (!(aNS m args)) 9 (fun y2=>(aE8 N leaves op wd args v nm na b f g cs (fun y3=>(aC8 N [y1,y2,y3] (fun y4=>(bif decide (y4≠0)then (k y4 leaves nodes)else (aBp N K N args ((args.length:Nat):Int) 0 nodes op wd args v nm na b f g cs [] leaves)))))))))) =
  k (f1 (if (args.length:Int)=aOs op then 0 else 10) (f1 (if aNS m args=true then 9 else 0) (f1 (aJg leaves op wd v) (if aJ5 op wd v (args.map (aKu nodes))=true then 0 else 25)))) leaves nodes:=by
 rw[aCt,aCt,aOQ N leaves hl op wd args v nm na b f g cs hw hb,bC4 N hN,hna]
 by_cases c1:(args.length:Int)=aOs op
 ·rw[decide_eq_true c1,if_pos rfl,aGq,if_pos c1,aGq]
  have h3:args.length<=3:=by
    unfold aOs at c1
    split at c1
    ·omega
    ·split at c1
     ·omega
     ·split at c1 <;> omega
  cases c2:aNS m args
  · rw[Bool.not_false,if_pos rfl,aGq,if_neg (by simp),aGq]
    by_cases c3:aJg leaves op wd v=0
    ·rw[c3,aAc (by simp),aGq]
     have:=aKK N K args h3 nodes m hm op wd args v nm (aOs op) b f g cs leaves args N 0 [] rfl (by omega) (by simp) c2
     rw[Int.natCast_zero,List.nil_append]at this
     rw[this,<- hna]
     refine hj _ (by rw[List.length_map];exact c1) (fun x hx=>?_) c3
     obtain⟨a,ha,rfl⟩:=List.mem_map.1 hx
     have:=List.any_eq_false.1 c2 a ha
     have:0<=a∧a<=m-1:=by simpa using this
     exact hW a this.1 this.2
    ·rw[aAd c3,aKn c3]
  · rw[if_pos rfl];rfl
 ·rw[decide_eq_false c1,if_neg c1];rfl
theorem aLX {w:List Int}{i:Nat}(h:i<w.length):at? w (i:Int)=some (w0 w i):=by rw[aHb h];unfold w0;rw[List.getElem?_eq_getElem h];rfl
theorem aMJ (N:Nat)(wd v:Int){w:List Int}(h:0<w.length)(k:Bool->Option R):aGI N wd w v k=k (decide (w0 w 0=wd)):=by unfold aGI;rw[show (0:Int)=((0:Nat):Int)from rfl,aLX h];rfl
theorem aK9 (N:Nat)(wd v:Int){w:List Int}(h:0<w.length)(k:Bool->Option R):aF9 N wd w v k=k (decide (w0 w 0<=wd)):=by unfold aF9;rw[show (0:Int)=((0:Nat):Int)from rfl,aLX h];rfl
theorem aIQ (N:Nat)(wd v:Int){w:List Int}(h:1<w.length)(k:Bool->Option R):aF5 N wd w v k=k (decide (wd=1∧w0 w 0=w0 w 1)):=by
 unfold aF5
 by_cases c:wd=1
 ·rw[aAd c,show (0:Int)=((0:Nat):Int)from rfl,aLX (by omega),aAe,show (1:Int)=((1:Nat):Int)from rfl,aLX h,aAe]
  congr 1;exact decide_eq_decide.2 ⟨fun h=>⟨c,h⟩,fun h=>h.2⟩
 ·rw[aAc c,decide_eq_false (fun h=>c h.1)]
theorem bHz (N:Nat)(wd v:Int){w:List Int}(h:2<w.length)(k:Bool->Option R):aDE N wd w v k=k (decide (w0 w 0=1∧w0 w 1=wd∧w0 w 2=wd)):=by
 unfold aDE
 rw[show at? w 0=_ from aLX (i:=0) (by omega),show at? w 1=_ from aLX (i:=1) (by omega),show at? w 2=_ from aLX (i:=2) h]
 simp only[aAe]
 by_cases c:w0 w 0=1
 ·rw[aAd c]
  by_cases c2:w0 w 1=wd
  ·rw[aAd c2];congr 1;exact decide_eq_decide.2 ⟨fun h=>⟨c,c2,h⟩,fun h=>h.2.2⟩
  ·rw[aAc c2,decide_eq_false (fun h=>c2 h.2.1)]
 ·rw[aAc c,decide_eq_false (fun h=>c h.1)]
theorem aU6 {w:List Int}(hw:∀ x,x∈w->wOK x=true){i:Nat}(h:i<w.length):1<=w0 w i∧w0 w i<=16:=by
 unfold w0;rw[List.getElem?_eq_getElem h]
 exact of_decide_eq_true (hw _ (List.getElem_mem h))
theorem bDg (N:Nat)(wd v:Int){w:List Int}(h:1<w.length)(hw:∀ x,x∈w->wOK x=true)(k:Bool->Option R):aDF N wd w v k=k (decide (w0 w 0+w0 w 1=wd)):=by
 have:=aU6 hw h;have:=aU6 hw (show 0<w.length by omega)
 unfold aDF
 rw[show at? w 0=_ from aLX (i:=0) (by omega),aAe,show at? w 1=_ from aLX (i:=1) (by omega),aAe,aDt (by omega) (by omega)]
theorem aYv (N:Nat)(wd v:Int){w:List Int}(h:0<w.length)(h1:0<=wd∧wd<=16)(h2:0<=v∧v<=15)(k:Bool->Option R):aDC N wd w v k=k (decide (v+wd<=w0 w 0)):=by
 unfold aDC
 rw[show at? w 0=_ from aLX (i:=0) (by omega),aAe,aDt (by omega) (by omega)]
theorem bBO (N:Nat)(hN:10<=N)(leaves:List Int)(hl:leaves.length<=1000000)(nodes:List Nd)(hn:nodes.length<=1000000)(m:Nat)(hm:m<=nodes.length)(hW:WOK nodes m)(op wd:Int)(args:List Int)(ha:args.length<=1000000)(haN:args.length<N)(v:Int)(k:Int->List Int->List Nd->Option R) :
  aDZ N m op wd args v leaves nodes k=k (aJQ leaves nodes m (op,wd,args,v)) leaves nodes:=by
 unfold aDZ aJQ
 simp only[aIK,aCt,aZm,aUx N hN,bGZ N args ha haN (m:Int) ⟨by omega,by omega⟩]
 by_cases c0:0<=op∧op<=18
 ·rw[decide_eq_true c0,if_pos rfl,if_pos c0,aGq,aGq]
  by_cases c1:wOK wd=true
  ·have hwd:=of_decide_eq_true c1
   rw[if_pos c1,aAc (by simp),aGq]
   have hop:op=18∨op=17∨op=16∨op=15∨op=14∨op=13∨op=12∨op=11∨op=10∨op=9∨op=8∨op=7∨op=6∨op=5∨op=4∨op=3∨op=2∨op=1∨op=0:=by omega
   rcases hop with rfl | rfl | rfl | rfl | rfl | rfl | rfl | rfl | rfl | rfl | rfl | rfl | rfl | rfl | rfl | rfl | rfl | rfl | rfl
   all_goals
    simp only[Int.reduceEq,decide_true,decide_false,cond_true,cond_false]
    unfold aAg
    refine bIx N hN leaves hl nodes m (by omega) hW _ wd args v _ _ _ _ _ _ c1 (by rfl) (by rfl) k _ fun w hw1 hw2 hw3=>?_
    try dsimp only
    simp only[Nat.reduceEqDiff,decide_true,decide_false,cond_true,cond_false]
   ·rw[aMJ N wd v (by have:(w.length:Int)=2:=hw1;omega),aCt];rfl
   ·rw[aMJ N wd v (by have:(w.length:Int)=2:=hw1;omega),aCt];rfl
   ·rw[aK9 N wd v (by have:(w.length:Int)=1:=hw1;omega),aCt];rfl
   ·rw[aK9 N wd v (by have:(w.length:Int)=1:=hw1;omega),aCt];rfl
   ·have hv:(if 0<=v∧v<=15 then (0:Int)else 2)=0:=hw3
    rw[aYv N wd v (by have:(w.length:Int)=1:=hw1;omega) ⟨by omega,by omega⟩ (by split at hv <;> omega),aCt];rfl
   ·rw[bDg N wd v (by have:(w.length:Int)=2:=hw1;omega) hw2,aCt];rfl
   ·rw[bHz N wd v (by have:(w.length:Int)=3:=hw1;omega),aCt];rfl
   ·rw[aIQ N wd v (by have:(w.length:Int)=2:=hw1;omega),aCt];rfl
   ·rw[aIQ N wd v (by have:(w.length:Int)=2:=hw1;omega),aCt];rfl
   ·rw[aIQ N wd v (by have:(w.length:Int)=2:=hw1;omega),aCt];rfl
   ·have:(w.length:Int)=2:=hw1
    rw[same_eq N w (by omega) (by omega),aCt];rfl
   ·have:(w.length:Int)=2:=hw1
    rw[same_eq N w (by omega) (by omega),aCt];rfl
   ·have:(w.length:Int)=2:=hw1
    rw[same_eq N w (by omega) (by omega),aCt];rfl
   ·have:(w.length:Int)=2:=hw1
    rw[same_eq N w (by omega) (by omega),aCt];rfl
   ·have:(w.length:Int)=2:=hw1
    rw[same_eq N w (by omega) (by omega),aCt];rfl
   ·have:(w.length:Int)=2:=hw1
    rw[same_eq N w (by omega) (by omega),aCt];rfl
   ·have:(w.length:Int)=1:=hw1
    rw[same_eq N w (by omega) (by omega),aCt];rfl
   ·unfold aF6;dsimp only;rw[aCt];rfl
   ·unfold aF6;dsimp only;rw[aCt];rfl
  ·rw[if_neg c1,aAd (by omega)];rfl
 ·rw[decide_eq_false c0,if_neg c0];rfl
def aGZ (leaves:List Int)(nodes:List Nd):Nat->List Nd->Int
 | _,[]=>0
 | i,x :: r=>f1 (aJQ leaves nodes i x) (aGZ leaves nodes (i+1) r)
theorem aIL (leaves:List Int)(nodes:List Nd)(i:Nat)(x:Nd)(r:List Nd):aGZ leaves nodes i (x :: r)=f1 (aJQ leaves nodes i x) (aGZ leaves nodes (i+1) r):=rfl
theorem aPs {leaves:List Int}{nodes:List Nd}{i:Int}{x:Nd}(h:aJQ leaves nodes i x=0):(0<=x.1∧x.1<=18)∧wOK x.2.1=true∧(x.2.2.1.length:Int)=aOs x.1∧aNS i x.2.2.1=false∧aJg leaves x.1 x.2.1 x.2.2.2=0∧aJ5 x.1 x.2.1 x.2.2.2 (x.2.2.1.map (aKu nodes))=true:=by
 unfold aJQ at h
 simp only[f1_0]at h
 obtain⟨h1,h2,h3,h4,h5,h6⟩:=h
 refine⟨?_,?_,?_,?_,h5,?_⟩
 ·split at h1
  ·assumption
  ·cases h1
 ·split at h2
  ·assumption
  ·cases h2
 ·split at h3
  ·assumption
  ·cases h3
 ·split at h4
  ·cases h4
  ·rename_i q;exact Bool.eq_false_iff.2 q
 ·split at h6
  ·assumption
  ·cases h6
theorem aQn {nodes:List Nd}{i:Nat}{x:Nd}{r:List Nd}(h:nodes.drop i=x :: r)(hw:wOK x.2.1=true)(hW:WOK nodes i):WOK nodes ((i+1:Nat):Int):=by
 intro a h0 h1
 by_cases e:a=(i:Int)
 ·subst e
  have hl:=(aAh h).1
  rw[aI8 hl]at h
  injection h with h2 h3
  unfold aKu
  rw[Int.toNat_natCast,List.getElem?_eq_getElem hl,h2]
  exact hw
 ·exact hW a h0 (by omega)
theorem aME (N:Nat)(hN:10<=N)(k0:Int->Int->List Int->List Nd->Option R)(k1:List Int->List Nd->Option R)(leaves:List Int)(hl:leaves.length<=1000000)(nodes:List Nd)(hn:nodes.length<=1000000)(hA:∀ x,x∈nodes->x.2.2.1.length<=1000000∧x.2.2.1.length<N):∀ (r:List Nd) (n i:Nat),nodes.drop i=r->r.length<n->WOK nodes i ->
  ∃ j:Int,aCk N k0 k1 n nodes nodes.length i leaves nodes=if aGZ leaves nodes i r=0 then k1 leaves nodes else k0 j (aGZ leaves nodes i r) leaves nodes
 | [],n,i,h,hn,hW=>by
  obtain⟨n,rfl⟩:=sc hn
  exact⟨0,by rw[aCk,aAc (aAm h)];rfl⟩
 | x :: r,n,i,h,hn,hW=>by
  obtain⟨n,rfl⟩:=sc hn
  obtain⟨h1,h2,h3⟩:=aAh h
  have hx:x∈nodes:=List.mem_of_mem_drop (h▸List.mem_cons_self:x∈nodes.drop i)
  rw[aCk,aAd (by omega),h2,aAe,bBO N hN leaves hl nodes ‹_› i (by omega) hW x.1 x.2.1 x.2.2.1 (hA x hx).1 (hA x hx).2,aIL]
  by_cases c:aJQ leaves nodes i x=0
  ·obtain⟨j,ih⟩:=aME N hN k0 k1 leaves hl nodes ‹_› hA r n (i+1) h3 (by simp at hn;omega) (aQn h (aPs c).2.1 hW)
   refine⟨j,?_⟩
   have c':aJQ leaves nodes i (x.1,x.2.1,x.2.2.1,x.2.2.2)=0:=c
   rw[aAc (by simp[c']),aAl (by omega),ih,c,aGq]
  ·refine⟨i,?_⟩
   have c':aJQ leaves nodes i (x.1,x.2.1,x.2.2.1,x.2.2.2)≠0:=c
   rw[aAd c',aKn c,if_neg c]
def aQR (leaves:List Int)(nodes:List Nd):Int:=if 40<(leaves.length:Int)then 8 else if leaves.all wOK=true then (if 400<(nodes.length:Int)then 8 else aGZ leaves nodes 0 nodes)else 2
theorem aMH (N:Nat)(hN:1000<=N)(leaves:List Int)(nodes:List Nd)(hA:∀ x,x∈nodes->x.2.2.1.length<=1000000∧x.2.2.1.length<N)(k:Int->Int->Option R):∃ j:Int,aD8 N leaves nodes k=k j (aQR leaves nodes):=by
 unfold aD8 aQR
 by_cases c0:40<(leaves.length:Int)
 ·exact⟨0,by rw[aAd c0,if_pos c0]⟩
 ·rw[aAc c0,if_neg c0]
  obtain⟨j,e⟩:=aPH N leaves (by omega) (by omega) (fun y1 y2=>bif decide (y2≠0)then k y1 y2 else bif decide (400<((nodes.length:Nat):Int))then k 0 8 else aFg N (aG4 N nodes leaves nodes fun y3 y4 y5 y6=>k y3 y4))
  rw[e]
  by_cases c1:leaves.all wOK=true
  ·rw[if_pos c1,if_pos c1]
   try dsimp only
   rw[aAc (by simp)]
   by_cases c2:400<(nodes.length:Int)
   ·exact⟨0,by rw[aAd c2,if_pos c2]⟩
   ·rw[aAc c2,if_neg c2]
    obtain⟨j,e⟩:=aME N (by omega) (fun y3 y4 y5 y6=>k y3 y4) (fun z9 z10=>k 0 0) leaves (by omega) nodes (by omega) hA nodes N 0 rfl (by omega) (fun a h0 h1=>by omega)
    rw[Int.natCast_zero]at e
    refine⟨if aGZ leaves nodes 0 nodes=0 then 0 else j,?_⟩
    show aCk N (fun y3 y4 y5 y6=>k y3 y4) (fun z9 z10=>k 0 0) N nodes nodes.length 0 leaves nodes=_
    rw[e]
    by_cases c:aGZ leaves nodes 0 nodes=0
    ·rw[if_pos c,if_pos c,c]
    ·rw[if_neg c,if_neg c]
  ·refine⟨j,?_⟩
   rw[if_neg c1,if_neg c1];rfl
def b2i (b:Bool):Int:=if b=true then 1 else 0
def apS (op wd v:Int)(w a:List Int):Int:=
 if op=0 then v else if op=2 then p2 wd-1-w0 a 0 else if op=3 then bLe .i64 (w0 a 0) (w0 a 1)else if op=4 then orI .i64 (w0 a 0) (w0 a 1)else if op=5 then bQA .i64 (w0 a 0) (w0 a 1)
 else if op=6 then (w0 a 0+w0 a 1)%p2 wd else if op=7 then (w0 a 0-w0 a 1)%p2 wd else if op=8 then (w0 a 0*w0 a 1)%p2 wd else if op=9 then b2i (decide (w0 a 0=w0 a 1))else if op=10 then b2i (decide (w0 a 0<w0 a 1))
 else if op=11 then b2i (decide (sg (w0 w 0) (w0 a 0)<sg (w0 w 0) (w0 a 1)))else if op=12 then (if w0 a 0=1 then w0 a 1 else w0 a 2)else if op=13 then w0 a 0*p2 (w0 w 1)+w0 a 1 else if op=14 then w0 a 0/p2 v%p2 wd
 else if op=15 then w0 a 0 else if op=16 then sg (w0 w 0) (w0 a 0)%p2 wd else if op=17 then (if wd<=w0 a 1 then 0 else w0 a 0*p2 (w0 a 1)%p2 wd)else (if wd<=w0 a 1 then 0 else w0 a 0/p2 (w0 a 1))
theorem bYU {n:Nat}(h:n<18446744073709551616):(BitVec.ofInt 64 (n:Int)).toNat=n:=by
 rw[bYt,Int.emod_eq_of_lt (by omega) (by omega)];omega
theorem bZF {a b:Nat}(ha:a<65536)(hb:b<65536):bLe .i64 a b=((a &&& b:Nat):Int):=by
 have h:a &&& b<2^16:=Nat.and_lt_two_pow a hb
 have e:(BitVec.ofInt 64 (a:Int) &&& BitVec.ofInt 64 (b:Int)).toNat=a &&& b:=by rw[BitVec.toNat_and,bYU (by omega),bYU (by omega)]
 show IntKind.wrap .i64 (((BitVec.ofInt 64 (a:Int) &&& BitVec.ofInt 64 (b:Int)).toNat:Nat):Int)=_
 rw[e];exact aDt (by omega) (by omega)
theorem bZu {a b:Nat}(ha:a<65536)(hb:b<65536):orI .i64 a b=((a ||| b:Nat):Int):=by
 have h:a ||| b<2^16:=Nat.or_lt_two_pow (n:=16) ha hb
 have e:(BitVec.ofInt 64 (a:Int) ||| BitVec.ofInt 64 (b:Int)).toNat=a ||| b:=by rw[BitVec.toNat_or,bYU (by omega),bYU (by omega)]
 show IntKind.wrap .i64 (((BitVec.ofInt 64 (a:Int) ||| BitVec.ofInt 64 (b:Int)).toNat:Nat):Int)=_
 rw[e];exact aDt (by omega) (by omega)
theorem bZM {a b:Nat}(ha:a<65536)(hb:b<65536):bQA .i64 a b=((a ^^^ b:Nat):Int):=by
 have h:a ^^^ b<2^16:=Nat.xor_lt_two_pow (n:=16) ha hb
 have e:(BitVec.ofInt 64 (a:Int) ^^^ BitVec.ofInt 64 (b:Int)).toNat=a ^^^ b:=by rw[BitVec.toNat_xor,bYU (by omega),bYU (by omega)]
 show IntKind.wrap .i64 (((BitVec.ofInt 64 (a:Int) ^^^ BitVec.ofInt 64 (b:Int)).toNat:Nat):Int)=_
 rw[e];exact aDt (by omega) (by omega)
theorem cD1 {a:Int}(h0:0<=a)(h:a<=65536):bQN .i64 a=-1-a:=by
 have e:(BitVec.ofInt 64 (-1) ^^^ BitVec.ofInt 64 a).toNat=18446744073709551615-a.toNat:=by
  have:BitVec.ofInt 64 (-1) ^^^ BitVec.ofInt 64 a = ~~~ (BitVec.ofInt 64 a):=by
   rw[show BitVec.ofInt 64 (-1)=BitVec.allOnes 64 from rfl,BitVec.allOnes_xor]
  rw[this,BitVec.toNat_not,bYt,Int.emod_eq_of_lt (by omega) (by omega)]
 show IntKind.wrap .i64 (((BitVec.ofInt 64 (-1) ^^^ BitVec.ofInt 64 a).toNat:Nat):Int)=_
 rw[e]
 show w64 _=_
 have e2:((18446744073709551615-a.toNat:Nat):Int)=18446744073709551616+(-1-a):=by omega
 rw[e2]
 have:=aDt (x:=-1-a) (by omega) (by omega)
 unfold w64 IntKind.wrap at this ⊢
 rw[show ((18446744073709551616:Int)+(-1-a))%2^IntKind.bits .i64=(-1-a)%2^IntKind.bits .i64 from Int.add_emod_left _ _]
 exact this
theorem bYT (N:Nat)(n w:Int)(h0:0<=w)(h:w<=16)(k:Int->Option R):aDP N n w k=k (n%p2 w):=by
 have:=aQ8 w;have:=bDz h
 unfold aDP
 rw[aAc (by omega),aVr h0 (by omega),aDt (by omega) (by omega),cBz n w h0 h]
theorem bZe {w n:Int}(h:vok w n=true):0<=n∧n<=p2 w-1:=of_decide_eq_true h
theorem bZy {w n:Int}(h:0<=n∧n<=p2 w-1):vok w n=true:=decide_eq_true h
theorem bYm {w n:Int}(hw:w<=16)(h:vok w n=true):0<=n∧n<=65535:=by
 have:=bZe h;have:=bDz hw;omega
theorem cEW {w w' n:Int}(h:vok w n=true)(hw:w<=w'):vok w' n=true:=by
 have:=bZe h;have:=bJV hw;exact bZy (by omega)
theorem cD4 {w v:Int}(h1:1<=w)(hv:vok w v=true):v/p2 (w-1)=if p2 (w-1)<=v then 1 else 0:=by
 have:=bZv h1;have:=aQ8 (w-1)
 have hv:=bZe hv
 split
 ·exact ((Int.ediv_emod_unique (r:=v-p2 (w-1)) (by omega)).2 ⟨by omega,by omega,by omega⟩).1
 ·exact Int.ediv_eq_zero_of_lt (by omega) (by omega)
theorem bZs (N:Nat){w v:Int}(h1:1<=w)(h2:w<=16)(hv:vok w v=true)(k:Int->Option R):aHj N v w k=k (sg w v):=by
 have:=aQ8 w;have:=bDz h2;have hr:=bYm h2 hv
 unfold aHj sg
 rw[aDt (x:=w-1) (by omega) (by omega),aAc (by omega),cBn v (by omega) (by omega),cD4 h1 hv]
 by_cases c:p2 (w-1)<=v
 ·rw[if_pos c,if_pos c,aAd (show bLe .i64 1 1=1 by decide +kernel),aAc (by omega),aVr (by omega) (by omega),aDt (by omega) (by omega)]
 ·rw[if_neg c,if_neg c,aAc (show ¬bLe .i64 0 1=1 by decide +kernel)]
theorem ats {a:List Int}{i:Nat}(h:i<a.length):at? a (i:Int)=some (w0 a i):=aLX h
theorem cA2 (b:Bool):vok 1 (b2i b)=true:=by cases b <;> rfl
theorem cBa (N:Nat)(b:Bool)(k:Int->Option R):aHK N b k=k (b2i b):=by cases b <;> rfl
def VS (w a:List Int):Prop:=w.length=a.length∧∀ i,i<w.length->(1<=w0 w i∧w0 w i<=16)∧vok (w0 w i) (w0 a i)=true
theorem bYn {w n:Int}(h:w<=16)(hv:vok w n=true):∃ m:Nat,n=m∧m<65536∧m<2^w.toNat:=by
 have h1:=bYm h hv
 have h2:=bZe hv
 refine⟨n.toNat,by omega,by omega,?_⟩
 have:p2 w=((2^w.toNat:Nat):Int):=by unfold p2;simp
 omega
theorem bYE {w:Int}{m:Nat}(h:m<2^w.toNat):vok w (m:Int)=true:=by
 have:p2 w=((2^w.toNat:Nat):Int):=by unfold p2;simp
 exact bZy (by omega)
theorem bXJ {wd:Int}{w:List Int}(h:(w.all fun x=>decide (x=wd))=true){i:Nat}(hi:i<w.length):w0 w i=wd:=by
 have:=List.all_eq_true.1 h _ (List.getElem_mem hi)
 unfold w0;rw[List.getElem?_eq_getElem hi];simpa using this
theorem bYA {x y X Y:Int}(h1:0<=x)(h2:x<=X)(h3:0<=y)(h4:y<=Y):0<=x*y∧x*y<=X*Y:=⟨Int.mul_nonneg h1 h3,Int.mul_le_mul h2 h4 h3 (by omega)⟩
theorem cBm {n:Int}(x:Int)(h0:0<=n)(h:n<=16)(hx:0<=x∧x<=65536):aPi .i64 x n=x*p2 n:=by
 have:=bDz h;have:=aQ8 n
 have q:=bYA hx.1 hx.2 (show 0<=p2 n by omega) (show p2 n<=65536 by omega)
 unfold aPi
 have e:min n.toNat (IntKind.bits .i64)=n.toNat:=by
  have:IntKind.bits .i64=64:=rfl
  omega
 rw[e]
 exact aDt (x:=x*p2 n) (by omega) (by omega)
theorem cD0 {x y w:Int}(h0:0<=w)(hw:w<=16)(hx:0<=x)(hxy:x*p2 w<=65535)(hy:vok w y=true):orI .i64 (x*p2 w) y=x*p2 w+y:=by
 obtain⟨m,rfl,hm,hm2⟩:=bYn hw hy
 obtain⟨z,rfl⟩:∃ z:Nat,x=z:=⟨x.toNat,by omega⟩
 have e:p2 w=((2^w.toNat:Nat):Int):=by unfold p2;simp
 rw[e,<- Int.natCast_mul]at hxy ⊢
 rw[bZu (by omega) hm,Nat.mul_comm,<- Nat.two_pow_add_eq_or_of_lt hm2,Int.natCast_add]
theorem cFc (N:Nat){op wd v:Int}{w a:List Int}(h0:0<=op∧op<=18)(h1:op≠1)(hw:wOK wd=true)(hl:(w.length:Int)=aOs op)(hv:aJg [] op wd v=0)(hf:aJ5 op wd v w=true)(hs:VS w a):vok wd (apS op wd v w a)=true:=by
 have hwd:=of_decide_eq_true hw
 have hP:=aQ8 wd
 have hop:op=18∨op=17∨op=16∨op=15∨op=14∨op=13∨op=12∨op=11∨op=10∨op=9∨op=8∨op=7∨op=6∨op=5∨op=4∨op=3∨op=2∨op=0:=by omega
 rcases hop with rfl | rfl | rfl | rfl | rfl | rfl | rfl | rfl | rfl | rfl | rfl | rfl | rfl | rfl | rfl | rfl | rfl | rfl
 ·have hl:(w.length:Int)=2:=hl
  have hf:w0 w 0=wd:=of_decide_eq_true hf
  have h:=(hs.2 0 (by omega)).2
  have h':=bZe (hs.2 1 (by omega)).2
  rw[hf]at h
  have hr:=bZe h
  show vok wd (if wd<=w0 a 1 then 0 else w0 a 0/p2 (w0 a 1))=true
  split
  ·exact bZy (by omega)
  ·have:=aQ8 (w0 a 1)
   have e1:=Int.ediv_nonneg hr.1 (show 0<=p2 (w0 a 1) by omega)
   have e2:=Int.ediv_le_self (p2 (w0 a 1)) hr.1
   exact bZy (by omega)
 ·show vok wd (if wd<=w0 a 1 then 0 else w0 a 0*p2 (w0 a 1)%p2 wd)=true
  split
  ·exact bZy (by omega)
  ·exact bYF _
 ·exact bYF _
 ·have hl:(w.length:Int)=1:=hl
  have hf:w0 w 0<=wd:=of_decide_eq_true hf
  exact cEW (hs.2 0 (by omega)).2 hf
 ·exact bYF _
 ·have hl:(w.length:Int)=2:=hl
  have hf:w0 w 0+w0 w 1=wd:=of_decide_eq_true hf
  have a0:=bZe (hs.2 0 (by omega)).2;have a1:=bZe (hs.2 1 (by omega)).2
  have b0:=(hs.2 0 (by omega)).1;have b1:=(hs.2 1 (by omega)).1
  have hp:=cBf (a:=w0 w 0) (b:=w0 w 1) (by omega) (by omega)
  have q1:=aQ8 (w0 w 1)
  show vok wd (w0 a 0*p2 (w0 w 1)+w0 a 1)=true
  have e:=Int.mul_le_mul_of_nonneg_right a0.2 (show 0<=p2 (w0 w 1) by omega)
  rw[Int.sub_mul,Int.one_mul]at e
  have e2:=Int.mul_nonneg a0.1 (show 0<=p2 (w0 w 1) by omega)
  rw[hf]at hp
  exact bZy (by omega)
 ·have hl:(w.length:Int)=3:=hl
  have hf:w0 w 0=1∧w0 w 1=wd∧w0 w 2=wd:=of_decide_eq_true hf
  have h1:=(hs.2 1 (by omega)).2;have h2:=(hs.2 2 (by omega)).2
  rw[hf.2.1]at h1
  rw[hf.2.2]at h2
  show vok wd (if w0 a 0=1 then w0 a 1 else w0 a 2)=true
  split <;> assumption
 ·have hf:wd=1∧_:=of_decide_eq_true hf
  rw[hf.1];exact cA2 _
 ·have hf:wd=1∧_:=of_decide_eq_true hf
  rw[hf.1];exact cA2 _
 ·have hf:wd=1∧_:=of_decide_eq_true hf
  rw[hf.1];exact cA2 _
 ·exact bYF _
 ·exact bYF _
 ·exact bYF _
 ·have hl:(w.length:Int)=2:=hl
  have e0:=bXJ hf (i:=0) (by omega);have e1:=bXJ hf (i:=1) (by omega)
  obtain⟨x,hx,x1,x2⟩:=bYn (by omega) (e0▸(hs.2 0 (by omega)).2)
  obtain⟨y,hy,y1,y2⟩:=bYn (by omega) (e1▸(hs.2 1 (by omega)).2)
  show vok wd (bQA .i64 (w0 a 0) (w0 a 1))=true
  rw[hx,hy,bZM x1 y1];exact bYE (Nat.xor_lt_two_pow x2 y2)
 ·have hl:(w.length:Int)=2:=hl
  have e0:=bXJ hf (i:=0) (by omega);have e1:=bXJ hf (i:=1) (by omega)
  obtain⟨x,hx,x1,x2⟩:=bYn (by omega) (e0▸(hs.2 0 (by omega)).2)
  obtain⟨y,hy,y1,y2⟩:=bYn (by omega) (e1▸(hs.2 1 (by omega)).2)
  show vok wd (orI .i64 (w0 a 0) (w0 a 1))=true
  rw[hx,hy,bZu x1 y1];exact bYE (Nat.or_lt_two_pow x2 y2)
 ·have hl:(w.length:Int)=2:=hl
  have e0:=bXJ hf (i:=0) (by omega);have e1:=bXJ hf (i:=1) (by omega)
  obtain⟨x,hx,x1,x2⟩:=bYn (by omega) (e0▸(hs.2 0 (by omega)).2)
  obtain⟨y,hy,y1,y2⟩:=bYn (by omega) (e1▸(hs.2 1 (by omega)).2)
  show vok wd (bLe .i64 (w0 a 0) (w0 a 1))=true
  rw[hx,hy,bZF x1 y1];exact bYE (Nat.and_lt_two_pow _ y2)
 ·have hl:(w.length:Int)=1:=hl
  have e0:=bXJ hf (i:=0) (by omega)
  have h:=bZe (e0▸(hs.2 0 (by omega)).2)
  show vok wd (p2 wd-1-w0 a 0)=true
  exact bZy (by omega)
 ·have hv:(if vok wd v=true then (0:Int)else 2)=0:=hv
  show vok wd v=true
  split at hv
  ·assumption
  ·cases hv
theorem bYG (N:Nat)(k0:Int->Int->List Int->Int->List Int->List Int->Option R)(nodes:List Nd)(vals args:List Int)(ha:args.length<=3)(m:Int)(hm:m<=nodes.length)(hv:m<=vals.length)(op wd:Int)(ys:List Int)(v:Int):∀ (r:List Int) (n i:Nat) (w a:List Int),args.drop i=r->r.length<n->w.length<=i->a.length<=i->aNS m r=false ->
  aGs N k0 n nodes vals args args.length i op wd ys v w a=k0 op wd ys v (w++r.map (aKu nodes)) (a++r.map fun x=>w0 vals x.toNat)
 | [],n,i,w,a,h,hn,hw,ha',ho=>by
  obtain⟨n,rfl⟩:=sc hn
  rw[aGs,aAc (aAm h),List.map_nil,List.append_nil,List.map_nil,List.append_nil]
 | x :: r,n,i,w,a,h,hn,hw,ha',ho=>by
  obtain⟨n,rfl⟩:=sc hn
  obtain⟨h1,h2,h3⟩:=aAh h
  unfold aNS at ho
  rw[List.any_cons,Bool.or_eq_false_iff]at ho
  have hx:0<=x∧x<=m-1:=by simpa using ho.1
  obtain⟨b,rfl⟩:∃ b:Nat,x=b:=⟨x.toNat,by omega⟩
  have hb1:b<nodes.length:=by omega
  have hb2:b<vals.length:=by omega
  have ih:=bYG N k0 nodes vals args ha m hm hv op wd ys v r n (i+1) (w++[nodes[b].2.1]) (a++[w0 vals b]) h3 (by simp at hn;omega) (by simp;omega) (by simp;omega) ho.2
  rw[aGs,aAd (by omega),h2,aAe,aHb hb1,aAe,aBs (by omega),cond_true,aLX hb2,aAe,aBs (by omega),cond_true,aAl (by omega),ih,List.map_cons,List.map_cons,List.append_assoc,List.append_assoc]
  unfold aKu
  rw[Int.toNat_natCast,List.getElem?_eq_getElem hb1]
  rfl
theorem aZS (op:Int):aOs op<=3:=by
 unfold aOs
 split
 ·omega
 ·split
  ·omega
  ·split <;> omega
theorem bZN (N:Nat)(hN:10<=N)(nodes:List Nd)(vals:List Int)(m:Int)(hm:m<=nodes.length)(hvl:m<=vals.length){op wd v:Int}{args:List Int}(h0:0<=op∧op<=18)(h1:op≠1)(hw:wOK wd=true)(hl:(args.length:Int)=aOs op)(ho:aNS m args=false)(hv:aJg [] op wd v=0)
  (hf:aJ5 op wd v (args.map (aKu nodes))=true) (hs:VS (args.map (aKu nodes)) (args.map fun x=>w0 vals x.toNat)) (k:Int->Option R) :
  aJA N nodes op wd args v vals k=k (apS op wd v (args.map (aKu nodes)) (args.map fun x=>w0 vals x.toNat)):=by
 have hwd:=of_decide_eq_true hw
 have hP:=aQ8 wd;have hP2:=bDz hwd.2
 have h3:=aZS op
 unfold aJA
 refine (bYG N _ nodes vals args (by omega) m hm hvl op wd args v args N 0 [] [] rfl (by omega) (by simp) (by simp) ho).trans ?_
 rw[List.nil_append,List.nil_append]
 have hlw:((args.map (aKu nodes)).length:Int)=aOs op:=by rw[List.length_map];exact hl
 generalize args.map (aKu nodes)=w at *
 generalize (args.map fun x=>w0 vals x.toNat)=a at *
 have hla:a.length=w.length:=hs.1.symm
 have hop:op=18∨op=17∨op=16∨op=15∨op=14∨op=13∨op=12∨op=11∨op=10∨op=9∨op=8∨op=7∨op=6∨op=5∨op=4∨op=3∨op=2∨op=0:=by omega
 rcases hop with rfl | rfl | rfl | rfl | rfl | rfl | rfl | rfl | rfl | rfl | rfl | rfl | rfl | rfl | rfl | rfl | rfl | rfl
 all_goals simp only[Int.reduceEq,decide_true,decide_false,cond_true,cond_false]
 ·have hlw:(w.length:Int)=2:=hlw
  have hf:w0 w 0=wd:=of_decide_eq_true hf
  have r0:=bZe (hf▸(hs.2 0 (by omega)).2);have r1:=bYm ((hs.2 1 (by omega)).1).2 (hs.2 1 (by omega)).2
  unfold aGB
  rw[show at? a 0=_ from ats (i:=0) (by omega),show at? a 1=_ from ats (i:=1) (by omega),aAe,aAe,aAc (by omega),cBn _ (by omega) (by omega)]
  show _=k (if wd<=w0 a 1 then 0 else w0 a 0/p2 (w0 a 1))
  by_cases c:wd<=w0 a 1
  · rw[if_pos c,Int.min_eq_right c,Int.ediv_eq_zero_of_lt (by omega) (by omega)]
  · rw[if_neg c,Int.min_eq_left (by omega)]
 ·have hlw:(w.length:Int)=2:=hlw
  have hf:w0 w 0=wd:=of_decide_eq_true hf
  have r0:=bYm hwd.2 (hf▸(hs.2 0 (by omega)).2);have r1:=bYm ((hs.2 1 (by omega)).1).2 (hs.2 1 (by omega)).2
  unfold aGC
  rw[show at? a 0=_ from ats (i:=0) (by omega),show at? a 1=_ from ats (i:=1) (by omega),aAe,aAe,aAc (by omega),cBm _ (by omega) (by omega) (by omega),bYT N _ wd (by omega) (by omega)]
  show _=k (if wd<=w0 a 1 then 0 else w0 a 0*p2 (w0 a 1)%p2 wd)
  by_cases c:wd<=w0 a 1
  · rw[if_pos c,Int.min_eq_right c,Int.mul_emod_left]
  · rw[if_neg c,Int.min_eq_left (by omega)]
 ·have hlw:(w.length:Int)=1:=hlw
  have r0:=hs.2 0 (by omega)
  unfold aGE
  rw[show at? a 0=_ from ats (i:=0) (by omega),aAe,show at? w 0=_ from ats (i:=0) (by omega),aAe,bZs N r0.1.1 r0.1.2 r0.2,bYT N _ wd (by omega) (by omega)]
  rfl
 ·have hlw:(w.length:Int)=1:=hlw
  unfold aGv
  rw[show at? a 0=_ from ats (i:=0) (by omega),aAe]
  rfl
 ·have hlw:(w.length:Int)=1:=hlw
  have hv:(if 0<=v∧v<=15 then (0:Int)else 2)=0:=hv
  have hv:0<=v∧v<=15:=by
    split at hv
    ·assumption
    ·cases hv
  unfold aGw
  rw[show at? a 0=_ from ats (i:=0) (by omega),aAe,aAc (by omega),cBn _ (by omega) (by omega),bYT N _ wd (by omega) (by omega)]
  rfl
 ·have hlw:(w.length:Int)=2:=hlw
  have hf:w0 w 0+w0 w 1=wd:=of_decide_eq_true hf
  have r0:=hs.2 0 (by omega);have r1:=hs.2 1 (by omega)
  have s0:=bYm r0.1.2 r0.2
  have hp:=cBf (a:=w0 w 0) (b:=w0 w 1) (by omega) (by omega)
  rw[hf]at hp
  have q1:=aQ8 (w0 w 1)
  have e:=Int.mul_le_mul_of_nonneg_right (bZe r0.2).2 (show 0<=p2 (w0 w 1) by omega)
  rw[Int.sub_mul,Int.one_mul]at e
  unfold aGu
  rw[show at? a 0=_ from ats (i:=0) (by omega),show at? a 1=_ from ats (i:=1) (by omega),aAe,show at? w 1=_ from ats (i:=1) (by omega),aAe,aAc (by omega),aAe,cBm _ (by omega) (by omega) (by omega),cD0 (by omega) (by omega) s0.1 (by omega) r1.2]
  rfl
 ·have hlw:(w.length:Int)=3:=hlw
  unfold aGx
  rw[show at? a 0=_ from ats (i:=0) (by omega),show at? a 1=_ from ats (i:=1) (by omega),show at? a 2=_ from ats (i:=2) (by omega),aAe,aAe,aAe]
  show _=k (if w0 a 0=1 then w0 a 1 else w0 a 2)
  by_cases c:w0 a 0=1
  · rw[aAd c,if_pos c]
  · rw[aAc c,if_neg c]
 ·have hlw:(w.length:Int)=2:=hlw
  have hf:wd=1∧w0 w 0=w0 w 1:=of_decide_eq_true hf
  have r0:=hs.2 0 (by omega);have r1:=hs.2 1 (by omega)
  unfold aDB aGy
  rw[show at? a 0=_ from ats (i:=0) (by omega),show at? a 1=_ from ats (i:=1) (by omega),aAe,aAe,show at? w 0=_ from ats (i:=0) (by omega),aAe,bZs N r0.1.1 r0.1.2 r0.2,bZs N r0.1.1 r0.1.2 (hf.2▸r1.2)]
  exact cBa N _ k
 ·have hlw:(w.length:Int)=2:=hlw
  unfold aDA aGz
  rw[show at? a 0=_ from ats (i:=0) (by omega),show at? a 1=_ from ats (i:=1) (by omega),aAe,aAe,show at? w 0=_ from ats (i:=0) (by omega),aAe]
  exact cBa N _ k
 ·have hlw:(w.length:Int)=2:=hlw
  unfold aDM aGW
  rw[show at? a 0=_ from ats (i:=0) (by omega),show at? a 1=_ from ats (i:=1) (by omega),aAe,aAe,show at? w 0=_ from ats (i:=0) (by omega),aAe]
  exact cBa N _ k
 all_goals
  first
    | have hlw:(w.length:Int)=2:=hlw
    | have hlw:(w.length:Int)=1:=hlw
    | have hlw:(w.length:Int)=0:=hlw
 ·have e0:=bXJ hf (i:=0) (by omega);have e1:=bXJ hf (i:=1) (by omega)
  have r0:=bYm hwd.2 (e0▸(hs.2 0 (by omega)).2);have r1:=bYm hwd.2 (e1▸(hs.2 1 (by omega)).2)
  have q:=bYA r0.1 r0.2 r1.1 r1.2
  unfold aD6 aGS
  rw[show at? a 0=_ from ats (i:=0) (by omega),show at? a 1=_ from ats (i:=1) (by omega),aAe,aAe,aDt (by omega) (by omega)]
  exact bYT N _ wd (by omega) (by omega) k
 ·have e0:=bXJ hf (i:=0) (by omega);have e1:=bXJ hf (i:=1) (by omega)
  have r0:=bYm hwd.2 (e0▸(hs.2 0 (by omega)).2);have r1:=bYm hwd.2 (e1▸(hs.2 1 (by omega)).2)
  unfold aD7 aGU
  rw[show at? a 0=_ from ats (i:=0) (by omega),show at? a 1=_ from ats (i:=1) (by omega),aAe,aAe,aDt (by omega) (by omega)]
  exact bYT N _ wd (by omega) (by omega) k
 ·have e0:=bXJ hf (i:=0) (by omega);have e1:=bXJ hf (i:=1) (by omega)
  have r0:=bYm hwd.2 (e0▸(hs.2 0 (by omega)).2);have r1:=bYm hwd.2 (e1▸(hs.2 1 (by omega)).2)
  unfold aEb aGN
  rw[show at? a 0=_ from ats (i:=0) (by omega),show at? a 1=_ from ats (i:=1) (by omega),aAe,aAe,aDt (by omega) (by omega)]
  exact bYT N _ wd (by omega) (by omega) k
 ·have e0:=bXJ hf (i:=0) (by omega);have e1:=bXJ hf (i:=1) (by omega)
  obtain⟨x,hx,x1,x2⟩:=bYn (by omega) (e0▸(hs.2 0 (by omega)).2)
  obtain⟨y,hy,y1,y2⟩:=bYn (by omega) (e1▸(hs.2 1 (by omega)).2)
  unfold aD9 aG8
  rw[show at? a 0=_ from ats (i:=0) (by omega),show at? a 1=_ from ats (i:=1) (by omega),aAe,aAe]
  show aDP N _ wd k=k (bQA .i64 (w0 a 0) (w0 a 1))
  have q:=bZe (w:=wd) (bYE (Nat.xor_lt_two_pow x2 y2))
  rw[bYT N _ wd (by omega) (by omega),hx,hy,bZM x1 y1,Int.emod_eq_of_lt q.1 (by omega)]
 ·have e0:=bXJ hf (i:=0) (by omega);have e1:=bXJ hf (i:=1) (by omega)
  obtain⟨x,hx,x1,x2⟩:=bYn (by omega) (e0▸(hs.2 0 (by omega)).2)
  obtain⟨y,hy,y1,y2⟩:=bYn (by omega) (e1▸(hs.2 1 (by omega)).2)
  unfold aEd aGV
  rw[show at? a 0=_ from ats (i:=0) (by omega),show at? a 1=_ from ats (i:=1) (by omega),aAe,aAe]
  show aDP N _ wd k=k (orI .i64 (w0 a 0) (w0 a 1))
  have q:=bZe (w:=wd) (bYE (Nat.or_lt_two_pow x2 y2))
  rw[bYT N _ wd (by omega) (by omega),hx,hy,bZu x1 y1,Int.emod_eq_of_lt q.1 (by omega)]
 ·have e0:=bXJ hf (i:=0) (by omega);have e1:=bXJ hf (i:=1) (by omega)
  obtain⟨x,hx,x1,x2⟩:=bYn (by omega) (e0▸(hs.2 0 (by omega)).2)
  obtain⟨y,hy,y1,y2⟩:=bYn (by omega) (e1▸(hs.2 1 (by omega)).2)
  unfold aEa aHd
  rw[show at? a 0=_ from ats (i:=0) (by omega),show at? a 1=_ from ats (i:=1) (by omega),aAe,aAe]
  show aDP N _ wd k=k (bLe .i64 (w0 a 0) (w0 a 1))
  have q:=bZe (w:=wd) (bYE (Nat.and_lt_two_pow x y2))
  rw[bYT N _ wd (by omega) (by omega),hx,hy,bZF x1 y1,Int.emod_eq_of_lt q.1 (by omega)]
 ·have e0:=bXJ hf (i:=0) (by omega)
  have r0:=bZe (e0▸(hs.2 0 (by omega)).2)
  unfold aGM
  rw[show at? a 0=_ from ats (i:=0) (by omega),aAe,bYT N _ wd (by omega) (by omega),cD1 r0.1 (by omega)]
  show k _=k (p2 wd-1-w0 a 0)
  congr 1
  exact ((Int.ediv_emod_unique (q:=-1) (r:=p2 wd-1-w0 a 0) (by omega)).2 ⟨by omega,by omega,by omega⟩).2
 ·rfl
def nv1 (lv:List Int)(nodes:List Nd)(acc:List Int)(x:Nd):Int:=if x.1=1 then w0 lv x.2.2.2.toNat else apS x.1 x.2.1 x.2.2.2 (x.2.2.1.map (aKu nodes)) (x.2.2.1.map fun a=>w0 acc a.toNat)
def nvG (lv:List Int)(nodes:List Nd):List Nd->List Int->List Int
 | [],acc=>acc
 | x :: r,acc=>nvG lv nodes r (acc++[nv1 lv nodes acc x])
theorem bY4 (lv:List Int)(nodes:List Nd)(x:Nd)(r:List Nd)(acc:List Int):nvG lv nodes (x :: r) acc=nvG lv nodes r (acc++[nv1 lv nodes acc x]):=rfl
def LV (lw lv:List Int):Prop:=lv.length=lw.length∧∀ i,i<lw.length->vok (w0 lw i) (w0 lv i)=true
theorem cBF {l:List Int}{i:Nat}(h:i<l.length):w0 l i=l[i]:=by unfold w0;rw[List.getElem?_eq_getElem h];rfl
theorem bZf {α:Type}{l:List α}{f:α->Int}{i:Nat}(h:i<l.length):w0 (l.map f) i=f l[i]:=by rw[cBF (by simpa using h),List.getElem_map]
theorem cEX {l:List Int}{x:Int}{i:Nat}(h:i<l.length):w0 (l++[x]) i=w0 l i:=by unfold w0;rw[List.getElem?_append_left h]
theorem cD7 (l:List Int)(x:Int):w0 (l++[x]) l.length=x:=by unfold w0;rw[List.getElem?_append_right (by omega)];simp
theorem bYP {lw:List Int}{op wd v:Int}(h:op≠1):aJg [] op wd v=aJg lw op wd v:=by
 unfold aJg;rw[if_neg h,if_neg h]
structure VI (lw:List Int) (nodes:List Nd) (i:Nat) (acc:List Int):Prop where
 len:acc.length=i
 wok:WOK nodes i
 fit:∀ j,j<i->vok (aKu nodes j) (w0 acc j)=true
theorem bZn {lw:List Int}{nodes:List Nd}{i:Nat}{acc args:List Int}(h:VI lw nodes i acc)(ho:aNS i args=false):VS (args.map (aKu nodes)) (args.map fun x=>w0 acc x.toNat):=by
 refine⟨by simp,fun j hj=>?_⟩
 have hj:j<args.length:=by simpa using hj
 rw[bZf hj,bZf hj]
 have:=List.any_eq_false.1 ho _ (List.getElem_mem hj)
 have hx:0<=args[j]∧args[j]<=(i:Int)-1:=by simpa using this
 refine⟨of_decide_eq_true (h.wok _ hx.1 hx.2),?_⟩
 have:=h.fit args[j].toNat (by omega)
 rwa [show ((args[j].toNat:Nat):Int)=args[j] by omega]at this
theorem cD8 {nodes:List Nd}{x:Nd}{r:List Nd}{i:Nat}(h:nodes.drop i=x :: r):aKu nodes i=x.2.1:=by
 have hl:=(aAh h).1
 rw[aI8 hl]at h
 injection h with h2 _
 unfold aKu
 rw[Int.toNat_natCast,List.getElem?_eq_getElem hl,h2]
 rfl
theorem cD2 {lw lv:List Int}{nodes:List Nd}{i:Nat}{acc:List Int}(hL:LV lw lv)(h:VI lw nodes i acc){x:Nd}(hc:aJQ lw nodes i x=0):vok x.2.1 (nv1 lv nodes acc x)=true:=by
 obtain⟨h1,h2,h3,h4,h5,h6⟩:=aPs hc
 unfold nv1
 by_cases c:x.1=1
 ·rw[if_pos c]
  rw[c]at h5
  have h5:(if 0<=x.2.2.2∧x.2.2.2<=(lw.length:Int)-1 then (if lw[x.2.2.2.toNat]? = some x.2.1 then (0:Int)else 25)else 6)=0:=h5
  split at h5
  ·rename_i hb
   split at h5
   ·rename_i he
    have:=hL.2 x.2.2.2.toNat (by omega)
    unfold w0 at this ⊢
    rw[he]at this
    exact this
   ·cases h5
  ·cases h5
 ·rw[if_neg c]
  exact cFc 10 h1 c h2 (by rw[List.length_map];exact h3) ((bYP c).trans h5) h6 (bZn h h4)
theorem bZo {lw lv:List Int}{nodes:List Nd}{i:Nat}{acc:List Int}(hL:LV lw lv)(h:VI lw nodes i acc){x:Nd}{r:List Nd}(hd:nodes.drop i=x :: r)(hc:aJQ lw nodes i x=0):VI lw nodes (i+1) (acc++[nv1 lv nodes acc x]):=by
 refine⟨by simp[h.len],aQn hd (aPs hc).2.1 h.wok,fun j hj=>?_⟩
 by_cases e:j=i
 ·subst e
  rw[cD8 hd,<- h.len,cD7]
  exact cD2 hL h hc
 ·rw[cEX (by rw[h.len];omega)]
  exact h.fit j (by omega)
theorem cCJ {lw lv:List Int}{nodes:List Nd}(hL:LV lw lv):∀ (r:List Nd) (i:Nat) (acc:List Int),i<=nodes.length->nodes.drop i=r->VI lw nodes i acc->aGZ lw nodes i r=0->VI lw nodes nodes.length (nvG lv nodes r acc)
 | [],i,acc,hi,hd,h,hc=>by
  have h1:=List.drop_eq_nil_iff.1 hd
  have e:i=nodes.length:=by omega
  unfold nvG
  rw[<- e];exact h
 | x :: r,i,acc,hi,hd,h,hc=>by
  rw[aIL,f1_0]at hc
  rw[bY4]
  exact cCJ hL r (i+1) _ (aAh hd).1 (aAh hd).2.2 (bZo hL h hd hc.1) hc.2
theorem cE9 (lw:List Int)(nodes:List Nd):VI lw nodes 0 []:=⟨rfl,fun a h0 h1=>by omega,fun j hj=>by omega⟩
theorem bYQ (N:Nat)(hN:10<=N)(k:List Int->Option R)(lw lv:List Int)(hL:LV lw lv)(nodes:List Nd)(hn:nodes.length<=1000000):∀ (r:List Nd) (n i:Nat) (acc:List Int),nodes.drop i=r->r.length<n->VI lw nodes i acc->aGZ lw nodes i r=0 ->
  aFC N k n nodes lv nodes nodes.length i acc=k (nvG lv nodes r acc)
 | [],n,i,acc,h,hn,hv,hc=>by
  obtain⟨n,rfl⟩:=sc hn
  rw[aFC,aAc (aAm h)];rfl
 | x :: r,n,i,acc,h,hn,hv,hc=>by
  obtain⟨n,rfl⟩:=sc hn
  obtain⟨h1,h2,h3⟩:=aAh h
  rw[aIL,f1_0]at hc
  obtain⟨q1,q2,q3,q4,q5,q6⟩:=aPs hc.1
  have hl:=hv.len
  have ih:=bYQ N hN k lw lv hL nodes ‹_› r n (i+1) (acc++[nv1 lv nodes acc x]) h3 (by simp at hn;omega) (bZo hL hv h hc.1) hc.2
  rw[aFC,aAd (by omega),h2,aAe,bY4,aAl (by omega)]
  by_cases c:x.1=1
  ·rw[c]at q5
   have q5:(if 0<=x.2.2.2∧x.2.2.2<=(lw.length:Int)-1 then (if lw[x.2.2.2.toNat]? = some x.2.1 then (0:Int)else 25)else 6)=0:=q5
   have hb:0<=x.2.2.2∧x.2.2.2<=(lw.length:Int)-1:=by
    split at q5
    ·assumption
    ·cases q5
   have hlv:=hL.1
   rw[aAd c,show x.2.2.2=((x.2.2.2.toNat:Nat):Int) by omega,aLX (by omega),aAe,aBs (by omega),cond_true,<- ih]
   unfold nv1
   rw[if_pos c]
  ·rw[aAc c,bZN N hN nodes acc i (by omega) (by omega) q1 c q2 q3 q4 ((bYP c).trans q5) q6 (bZn hv q4),aBs (by omega),cond_true,<- ih]
   unfold nv1
   rw[if_neg c]
theorem cBp (N:Nat)(hN:10<=N)(k:List Int->Option R){lw lv:List Int}(hL:LV lw lv){nodes:List Nd}(hn:nodes.length<=1000000)(hnN:nodes.length<N)(hc:aGZ lw nodes 0 nodes=0):aKm N nodes lv k=k (nvG lv nodes nodes []):=
 bYQ N hN k lw lv hL nodes hn nodes N 0 [] rfl hnN (cE9 lw nodes) hc
theorem cEP {lw lv:List Int}(hL:LV lw lv){nodes:List Nd}(hc:aGZ lw nodes 0 nodes=0):(nvG lv nodes nodes []).length=nodes.length∧∀ j,j<nodes.length->vok (aKu nodes j) (w0 (nvG lv nodes nodes []) j)=true:=
 have h:=cCJ hL nodes 0 [] (Nat.zero_le _) rfl (cE9 lw nodes) hc
 ⟨h.len,h.fit⟩
theorem bZd (N:Nat)(k0:Int->Int->List Int->Option R)(k1:List Int->Option R)(lw lv:List Int)(hw:lw.all wOK=true)(hL:LV lw lv)(hl:lw.length<=1000000):∀ (r:List Int) (n i:Nat),lv.drop i=r->r.length<n->aCT N k0 k1 n lv lv.length i lw=k1 lw
 | [],n,i,h,hn=>by
  obtain⟨n,rfl⟩:=sc hn
  rw[aCT,aAc (aAm h)]
 | x :: r,n,i,h,hn=>by
  obtain⟨n,rfl⟩:=sc hn
  obtain⟨h1,h2,h3⟩:=aAh h
  have hlv:=hL.1
  have hi:i<lw.length:=by omega
  have hwi:=of_decide_eq_true (List.all_eq_true.1 hw _ (List.getElem_mem hi))
  have hx:w0 lv i=x:=by
   rw[aI8 h1]at h
   injection h with h _
   rw[cBF h1,h]
  have hv:=hL.2 i hi
  rw[hx,cBF hi]at hv
  rw[aCT,aAd (by omega),h2,aAe]
  unfold aHx
  rw[aHb hi,aAe,bN7 N x _ hwi.1 hwi.2,hv,aCt,if_pos rfl]
  try dsimp only
  rw[aAc (by simp),aAl (by omega)]
  exact bZd N k0 k1 lw lv hw hL hl r n (i+1) h3 (by simp at hn;omega)
theorem aOj {lw:List Int}{nodes:List Nd}(h:aQR lw nodes=0):lw.length<=40∧lw.all wOK=true∧nodes.length<=400∧aGZ lw nodes 0 nodes=0:=by
 unfold aQR at h
 split at h
 ·cases h
 ·split at h
  ·split at h
   ·cases h
   ·exact⟨by omega,by assumption,by omega,h⟩
  ·cases h
theorem bZx (N:Nat)(hN:1000<=N){lw lv:List Int}{nodes:List Nd}(hA:∀ x,x∈nodes->x.2.2.1.length<=1000000∧x.2.2.1.length<N)(hc:aQR lw nodes=0)(hL:LV lw lv)(k:List Int->Int->Option R) :
  aIv N lw nodes lv k=k (nvG lv nodes nodes []) 0:=by
 obtain⟨c1,c2,c3,c4⟩:=aOj hc
 have hlv:=hL.1
 unfold aIv aGa
 obtain⟨j,e⟩:=aMH N hN lw nodes hA (fun y1 y2=>(fun y1=>(aAy N (decide (((lv.length:Nat):Int)=((lw.length:Nat):Int))) 10 (fun y2=>(aC8 N [y1,y2] (fun y3=>(bif decide (y3≠0)then (k [] y3)else (aEW N lv lw (fun y4 y5 y6=>(bif decide (y5≠0)then (k [] y5)else (aKm N nodes lv (fun y7=>(k y7 0)))))))))))) y2)
 rw[e,hc]
 try dsimp only
 rw[aCt,decide_eq_true (by omega),if_pos rfl,aUx N (by omega),aGq,aAc (by simp)]
 unfold aEW
 have:=bZd N (fun y4 y5 y6=>(bif decide (y5≠0)then (k [] y5)else (aKm N nodes lv (fun y7=>(k y7 0))))) (fun z7=>aKm N nodes lv (fun y7=>k y7 0)) lw lv c2 hL (by omega) lv N 0 rfl (by omega)
 rw[Int.natCast_zero]at this
 refine Eq.trans ?_ (this.trans (cBp N (by omega) _ hL (by omega) (by omega) c4))
 rfl
abbrev aAp:=ByteArray×Int
abbrev aAP:=ByteArray×Int×Int×Int×Int
abbrev WrT:=Int×Int×Int
abbrev aA1:=ByteArray×Int×List (Int×Int×Int)
abbrev aCE:=Int×List Int
abbrev KD (X:Type):=ByteArray->List aAp->List aAP->List Nd->List aA1->List aAp->List aCE->X
def SZ (N:Nat)(s:ByteArray):Prop:=s.size<N∧s.size<=9223372036854775807
def aNm (nodes:List Nd)(n:Int):Bool:=decide (0<=n∧n<=(nodes.length:Int)-1)
def aFw (nodes:List Nd)(n:Int):Bool:=aNm nodes n&&decide (aKu nodes n=1)
def ewd (els:List aAP)(e:Int):Int:=((els[e.toNat]?).map (·.2.2.1)).getD 0
def aKd (els:List aAP)(nodes:List Nd)(x:WrT):Int:=f1 (if 0<=x.1∧x.1<=(els.length:Int)-1 then 0 else 6) (f1 (if (aFw nodes x.2.1&&aNm nodes x.2.2)=true then 0 else 9) (if aKu nodes x.2.2=ewd els x.1 then 0 else 25))
def aD3 (els:List aAP)(nodes:List Nd):List WrT->Int
 | []=>0
 | x :: r=>f1 (aKd els nodes x) (aD3 els nodes r)
def aRj (S:List ByteArray)(els:List aAP)(nodes:List Nd)(x:aA1):Int:=f1 (f1 (aNU S x.1) (f1 (if aFw nodes x.2.1=true then 0 else 9) (if x.2.2.length<=16 then 0 else 8))) (aD3 els nodes x.2.2)
def aFP (els:List aAP)(nodes:List Nd):List ByteArray->List aA1->Int
 | _,[]=>0
 | S,x :: r=>f1 (aRj S els nodes x) (aFP els nodes (x.1 :: S) r)
def bIJ (nodes:List Nd)(S:List ByteArray)(x:aAp):Int:=f1 (aNU S x.1) (if aNm nodes x.2=true then 0 else 9)
def aHW (nodes:List Nd):List ByteArray->List aAp->Int
 | _,[]=>0
 | S,x :: r=>f1 (bIJ nodes S x) (aHW nodes (x.1 :: S) r)
def aRg (S:List ByteArray)(x:aAp):Int:=f1 (aNU S x.1) (if wOK x.2=true then 0 else 2)
def aFr:List ByteArray->List aAp->Int
 | _,[]=>0
 | S,x :: r=>f1 (aRg S x) (aFr (x.1 :: S) r)
def aLo:List ByteArray->List aAp->List ByteArray
 | S,[]=>S
 | S,x :: r=>aLo (x.1 :: S) r
def aPr (S:List ByteArray)(x:aAP):Int:=f1 (f1 (aNU S x.1) (f1 (if 0<=x.2.1∧x.2.1<=1 then 0 else 15) (if wOK x.2.2.1=true then 0 else 2))) (if vok x.2.2.1 x.2.2.2.1=true∧(0<=x.2.2.2.2∧x.2.2.2.2<=3)then 0 else 2)
def aFn:List ByteArray->List aAP->Int
 | _,[]=>0
 | S,x :: r=>f1 (aPr S x) (aFn (x.1 :: S) r)
def aHs (nr:Int)(l:List Int):Nat->List Int->Int
 | _,[]=>0
 | i,x :: r=>f1 (f1 (if 0<=x∧x<=nr-1 then 0 else 6) (if (l.take i).contains x=true then 23 else 0)) (aHs nr l (i+1) r)
def aWx (nr:Int)(x:aCE):Int:=f1 (if 0<=x.1∧x.1<=3 then 0 else 15) (f1 (if 1<=x.2.length∧x.2.length<=16 then 0 else 10) (aHs nr x.2 0 x.2))
def aG7 (nr:Int):List aCE->Int
 | []=>0
 | x :: r=>f1 (aWx nr x) (aG7 nr r)
def aIV (ins:List aAp)(els:List aAP):List Int:=ins.map (·.2)++els.map (·.2.2.1)
def le8 (n m:Nat):Int:=if n<=m then 0 else 8
def aHq (nm:ByteArray)(ins:List aAp)(els:List aAP)(nodes:List Nd)(rules:List aA1)(outs:List aAp)(attrs:List aCE):Int:=
 f1 (f1 (if nmB nm=true then 0 else 4) (le8 ins.length 12)) (f1 (aFr [] ins) (f1 (le8 (ins.length+els.length) 40) (f1 (aFn (aLo [] ins) els) (f1 (aQR (aIV ins els) nodes) (f1 (le8 rules.length 16) (f1 (aFP els nodes [] rules) (f1 (le8 outs.length 12) (f1 (aHW nodes [] outs) (f1 (le8 attrs.length 16) (aG7 rules.length attrs))))))))))
theorem bAl (N:Nat)(n:Int)(k:Bool->Option R):aFc N n k=k (wOK n):=by unfold aFc wOK;rw[aG2]
theorem aNL (N:Nat)(nm:ByteArray)(ins:List aAp)(els:List aAP)(nodes:List Nd)(rules:List aA1)(outs:List aAp)(attrs:List aCE)(hn:nodes.length<=1000000)(n:Int)(k:Bool->Option R):aEQ N nm ins els nodes rules outs attrs n k=k (aNm nodes n):=by
 unfold aEQ aNm;rw[aDt (by omega) (by omega),aG2]
theorem aM8 {nodes:List Nd}{n:Int}(h:aNm nodes n=true):∃ x,at? nodes n=some x∧x.2.1=aKu nodes n:=by
 have h:=of_decide_eq_true h
 obtain⟨a,rfl⟩:∃ a:Nat,n=a:=⟨n.toNat,by omega⟩
 have ha:a<nodes.length:=by omega
 refine⟨_,aHb ha,?_⟩
 unfold aKu
 rw[Int.toNat_natCast,List.getElem?_eq_getElem ha];rfl
theorem aSV (N:Nat)(nm:ByteArray)(ins:List aAp)(els:List aAP)(nodes:List Nd)(rules:List aA1)(outs:List aAp)(attrs:List aCE)(hn:nodes.length<=1000000)(n:Int)(k:Bool->Option R):aDv N nm ins els nodes rules outs attrs n k=k (aFw nodes n):=by
 unfold aDv aFw
 rw[aNL N nm ins els nodes rules outs attrs hn]
 cases h:aNm nodes n
 ·rfl
 ·obtain⟨x,h1,h2⟩:=aM8 h
  rw[cond_true,h1,aAe,h2];rfl
theorem bIN (N:Nat)(hN:10<=N)(nm:ByteArray)(ins:List aAp)(els:List aAP)(nodes:List Nd)(rules:List aA1)(outs:List aAp)(attrs:List aCE)(hn:nodes.length<=1000000)(he:els.length<=1000000)(e w v:Int)(k:Int->Option R) :
  aFJ N nm ins els nodes rules outs attrs e w v k=k (aKd els nodes (e,w,v)):=by
 unfold aFJ aKd
 rw[aDt (by omega) (by omega),aG2,aCK,aSV N nm ins els nodes rules outs attrs hn]
 by_cases c0:0<=e∧e<=(els.length:Int)-1
 ·rw[decide_eq_true c0,if_pos rfl,if_pos c0]
  cases c1:aFw nodes w
  ·rw[cond_false,aCK,aGL N hN];rfl
  ·rw[cond_true,aNL N nm ins els nodes rules outs attrs hn,aCK]
   cases c2:aNm nodes v
   ·rw[aGL N hN];rfl
   ·rw[aGL N hN]
    obtain⟨x,h1,h2⟩:=aM8 c2
    obtain⟨a,rfl⟩:∃ a:Nat,e=a:=⟨e.toNat,by omega⟩
    have ha:a<els.length:=by omega
    have:ewd els (a:Int)=els[a].2.2.1:=by
     unfold ewd
     rw[Int.toNat_natCast,List.getElem?_eq_getElem ha];rfl
    rw[if_pos rfl,aGq,aAc (by simp),h1,aAe,aHb ha,aAe,aCK,h2,this]
    show _=k (if aKu nodes v=els[a].2.2.1 then 0 else 25)
    by_cases c3:aKu nodes v=els[a].2.2.1 <;> simp[c3]
 ·rw[decide_eq_false c0,if_neg c0]
  cases c1:aFw nodes w
  ·rw[cond_false,aCK,aGL N hN];rfl
  ·rw[cond_true,aNL N nm ins els nodes rules outs attrs hn,aCK,aGL N hN];rfl
theorem aLB (N:Nat)(hN:10<=N)(k0:Int->Int->KD (Option R))(k1:KD (Option R))(nm:ByteArray)(ins:List aAp)(els:List aAP)(nodes:List Nd)(rules:List aA1)(outs:List aAp)(attrs:List aCE)(hn:nodes.length<=1000000)(he:els.length<=1000000)(l:List WrT)(hl:l.length<=1000000):∀ (r:List WrT) (n i:Nat),l.drop i=r->r.length<n ->
  ∃ j:Int,aAs N k0 k1 n l l.length i nm ins els nodes rules outs attrs=if aD3 els nodes r=0 then k1 nm ins els nodes rules outs attrs else k0 j (aD3 els nodes r) nm ins els nodes rules outs attrs
 | [],n,i,h,hn=>by
  obtain⟨n,rfl⟩:=sc hn
  exact⟨0,by rw[aAs,aAc (aAm h)];rfl⟩
 | x :: r,n,i,h,hr=>by
  obtain⟨n,rfl⟩:=sc hr
  obtain⟨h1,h2,h3⟩:=aAh h
  obtain⟨j,ih⟩:=aLB N hN k0 k1 nm ins els nodes rules outs attrs hn he l hl r n (i+1) h3 (by simp at hr;omega)
  rw[aAs,aAd (by omega),h2,aAe]
  unfold aC7
  rw[bIN N hN nm ins els nodes rules outs attrs hn he,show aD3 els nodes (x :: r)=f1 (aKd els nodes x) (aD3 els nodes r)from rfl]
  dsimp only
  by_cases c:aKd els nodes x=0
  ·refine⟨j,?_⟩
   have c':aKd els nodes (x.1,x.2.1,x.2.2)=0:=c
   rw[aAc (by simp[c']),aAl (by omega),ih,c,aGq]
  ·refine⟨i,?_⟩
   have c':aKd els nodes (x.1,x.2.1,x.2.2)≠0:=c
   rw[aAd c',aKn c,if_neg c]
theorem bPs (N:Nat)(hN:1000<=N)(nm:ByteArray)(ins:List aAp)(els:List aAP)(nodes:List Nd)(rules:List aA1)(outs:List aAp)(attrs:List aCE)(hn:nodes.length<=1000000)(he:els.length<=1000000)(i:Int)(x:aA1)(hx:SZ N x.1)(hw:x.2.2.length<=1000000)(hwN:x.2.2.length<N)(c:Nat){m:NM}{S:List ByteArray}(hm:KN m S)(k:Int->Nat->NM->KD (Option R)) :
  aCN N i x.1 x.2.1 x.2.2 c m nm ins els nodes rules outs attrs k=k (aRj S els nodes x) (aGp .s x.1 c m) (mpS x.1 c m) nm ins els nodes rules outs attrs:=by
 unfold aCN aRj
 rw[aOm N (by omega) x.1 c hx.1 hx.2 hm,aSV N nm ins els nodes rules outs attrs hn,aCK,aCK,aM0 N (by omega)]
 unfold aBI
 obtain⟨j,e⟩:=aLB N (by omega) (fun y8 y9 y10 y11 y12 y13 y14 y15 y16=>aAY N [f1 (aNU S x.1) (f1 (if aFw nodes x.2.1=true then 0 else 9) (if decide (((x.2.2.length:Nat):Int)<=16)=true then 0 else 8)),y9] fun y17=>k y17 (aGp .s x.1 c m) (mpS x.1 c m) y10 y11 y12 y13 y14 y15 y16)
  (fun z19 z20 z21 z22 z23 z24 z25=>aAY N [f1 (aNU S x.1) (f1 (if aFw nodes x.2.1=true then 0 else 9) (if decide (((x.2.2.length:Nat):Int)<=16)=true then 0 else 8)),0] fun y17=>k y17 (aGp .s x.1 c m) (mpS x.1 c m) z19 z20 z21 z22 z23 z24 z25)
  nm ins els nodes rules outs attrs hn he x.2.2 hw x.2.2 N 0 rfl hwN
 rw[Int.natCast_zero]at e
 refine e.trans ?_
 have q:(if decide (((x.2.2.length:Nat):Int)<=16)=true then (0:Int)else 8)=if x.2.2.length<=16 then 0 else 8:=by
  by_cases c:x.2.2.length<=16
  · rw[if_pos c,decide_eq_true (by omega)];rfl
  · rw[if_neg c,decide_eq_false (by omega)];rfl
 rw[q]
 by_cases c:aD3 els nodes x.2.2=0
 ·rw[if_pos c,aGL N (by omega),c]
 ·rw[if_neg c,aGL N (by omega)]
theorem aMb (N:Nat)(hN:1000<=N)(k0:Int->Int->Nat->NM->KD (Option R))(k1:Nat->NM->KD (Option R))(nm:ByteArray)(ins:List aAp)(els:List aAP)(nodes:List Nd)(rules:List aA1)(outs:List aAp)(attrs:List aCE)(hn:nodes.length<=1000000)(he:els.length<=1000000)(l:List aA1)(hl:l.length<=1000000)
  (hs:∀ x,x∈l->SZ N x.1∧x.2.2.length<=1000000∧x.2.2.length<N):∀ (r:List aA1) (n i c:Nat) (m:NM) (S:List ByteArray),l.drop i=r->r.length<n->KN m S ->
  ∃ (j:Int) (c':Nat) (m':NM),aAA N k0 k1 n l l.length i c m nm ins els nodes rules outs attrs=if aFP els nodes S r=0 then k1 c' m' nm ins els nodes rules outs attrs else k0 j (aFP els nodes S r) c' m' nm ins els nodes rules outs attrs
 | [],n,i,c,m,S,h,hn,hm=>by
  obtain⟨n,rfl⟩:=sc hn
  exact⟨0,c,m,by rw[aAA,aAc (aAm h)];rfl⟩
 | x :: r,n,i,c,m,S,h,hr,hm=>by
  obtain⟨n,rfl⟩:=sc hr
  obtain⟨h1,h2,h3⟩:=aAh h
  have hx:=hs x (List.mem_of_mem_drop (h▸List.mem_cons_self:x∈l.drop i))
  obtain⟨j,c',m',ih⟩:=aMb N hN k0 k1 nm ins els nodes rules outs attrs hn he l hl hs r n (i+1) (aGp .s x.1 c m) (mpS x.1 c m) (x.1 :: S) h3 (by simp at hr;omega) (aOa hm x.1 c)
  rw[aAA,aAd (by omega),h2,aAe,bPs N hN nm ins els nodes rules outs attrs hn he i x hx.1 hx.2.1 hx.2.2 c hm,show aFP els nodes S (x :: r)=f1 (aRj S els nodes x) (aFP els nodes (x.1 :: S) r)from rfl]
  by_cases q:aRj S els nodes x=0
  · refine⟨j,c',m',?_⟩
    rw[aAc (by simp[q]),aAl (by omega),ih,q,aGq]
  · refine⟨i,aGp .s x.1 c m,mpS x.1 c m,?_⟩
    rw[aAd q,aKn q,if_neg q]
theorem aO3 (N:Nat)(hN:1000<=N)(k0:Int->Int->Nat->NM->KD (Option R))(k1:Nat->NM->KD (Option R))(nm:ByteArray)(ins:List aAp)(els:List aAP)(nodes:List Nd)(rules:List aA1)(outs:List aAp)(attrs:List aCE)(hn:nodes.length<=1000000)(l:List aAp)(hl:l.length<=1000000)
  (hs:∀ x,x∈l->SZ N x.1):∀ (r:List aAp) (n i c:Nat) (m:NM) (S:List ByteArray),l.drop i=r->r.length<n->KN m S ->
  ∃ (j:Int) (c':Nat) (m':NM),aAw N k0 k1 n l l.length i c m nm ins els nodes rules outs attrs=if aHW nodes S r=0 then k1 c' m' nm ins els nodes rules outs attrs else k0 j (aHW nodes S r) c' m' nm ins els nodes rules outs attrs
 | [],n,i,c,m,S,h,hn,hm=>by
  obtain⟨n,rfl⟩:=sc hn
  exact⟨0,c,m,by rw[aAw,aAc (aAm h)];rfl⟩
 | x :: r,n,i,c,m,S,h,hr,hm=>by
  obtain⟨n,rfl⟩:=sc hr
  obtain⟨h1,h2,h3⟩:=aAh h
  have hx:=hs x (List.mem_of_mem_drop (h▸List.mem_cons_self:x∈l.drop i))
  obtain⟨j,c',m',ih⟩:=aO3 N hN k0 k1 nm ins els nodes rules outs attrs hn l hl hs r n (i+1) (aGp .s x.1 c m) (mpS x.1 c m) (x.1 :: S) h3 (by simp at hr;omega) (aOa hm x.1 c)
  rw[aAw,aAd (by omega),h2,aAe]
  unfold aDR
  rw[aOm N (by omega) x.1 c hx.1 hx.2 hm,aNL N nm ins els nodes rules outs attrs hn,aCK,aGL N (by omega),show aHW nodes S (x :: r)=f1 (bIJ nodes S x) (aHW nodes (x.1 :: S) r)from rfl]
  show ∃ j c' m',(bif decide (bIJ nodes S x≠0)then _ else _)=_
  by_cases q:bIJ nodes S x=0
  · refine⟨j,c',m',?_⟩
    rw[aAc (by simp[q]),aAl (by omega),ih,q,aGq]
  · refine⟨i,aGp .s x.1 c m,mpS x.1 c m,?_⟩
    rw[aAd q,aKn q,if_neg q];rfl
theorem aMa (N:Nat)(hN:1000<=N)(k0:Int->Int->Nat->NM->Nat->NM->Option R)(k1:Nat->NM->Nat->NM->Option R)(l:List aAp)(hl:l.length<=1000000)(hs:∀ x,x∈l->SZ N x.1):∀ (r:List aAp) (n i c c2:Nat) (m m2:NM) (S:List ByteArray),l.drop i=r->r.length<n->KN m S->KN m2 S ->
  ∃ (j:Int) (c' c2':Nat) (m' m2':NM),(aFr S r=0->KN m' (aLo S r))∧aAB N k0 k1 n l l.length i c m c2 m2=if aFr S r=0 then k1 c' m' c2' m2' else k0 j (aFr S r) c' m' c2' m2'
 | [],n,i,c,c2,m,m2,S,h,hn,hm,hm2=>by
  obtain⟨n,rfl⟩:=sc hn
  exact⟨0,c,c2,m,m2,fun _=>hm,by rw[aAB,aAc (aAm h)];rfl⟩
 | x :: r,n,i,c,c2,m,m2,S,h,hr,hm,hm2=>by
  obtain⟨n,rfl⟩:=sc hr
  obtain⟨h1,h2,h3⟩:=aAh h
  have hx:=hs x (List.mem_of_mem_drop (h▸List.mem_cons_self:x∈l.drop i))
  obtain⟨j,c',c2',m',m2',hk,ih⟩:=aMa N hN k0 k1 l hl hs r n (i+1) (aGp .s x.1 c m) (aGp .s x.1 c2 m2) (mpS x.1 c m) (mpS x.1 c2 m2) (x.1 :: S) h3 (by simp at hr;omega) (aOa hm x.1 c) (aOa hm2 x.1 c2)
  rw[aAB,aAd (by omega),h2,aAe]
  unfold aDS
  rw[aOm N (by omega) x.1 c hx.1 hx.2 hm,aOm N (by omega) x.1 c2 hx.1 hx.2 hm2,bAl,aCK,aM0 N (by omega),show aFr S (x :: r)=f1 (aRg S x) (aFr (x.1 :: S) r)from rfl]
  have e:f1 (aNU S x.1) (f1 (aNU S x.1) (if wOK x.2=true then 0 else 2))=aRg S x:=by
   unfold aRg f1;split <;> simp_all
  rw[e]
  try dsimp only
  by_cases q:aRg S x=0
  ·refine⟨j,c',c2',m',m2',fun hq=>hk (by rwa [q,aGq]at hq),?_⟩
   rw[aAc (by simp[q]),aAl (by omega),ih,q,aGq]
  ·refine⟨i,aGp .s x.1 c m,aGp .s x.1 c2 m2,mpS x.1 c m,mpS x.1 c2 m2,fun hq=>absurd (f1_0.1 hq).1 q,?_⟩
   rw[aAd q,aKn q,if_neg q]
theorem bM5 (N:Nat)(v w:Int)(h0:1<=w)(h:w<=16)(k:Bool->Option R):aF4 N v w k=k (vok w v):=by
 have:=aQ8 w;have:=bDz h
 unfold aF4
 rw[aAd (by omega),aAc (by omega),aVr (by omega) (by omega),aDt (by omega) (by omega),aG2];rfl
theorem bNV (N:Nat)(hN:1000<=N)(i:Int)(x:aAP)(hx:SZ N x.1)(c:Nat){m:NM}{S:List ByteArray}(hm:KN m S)(k:Int->Nat->NM->Option R):aCO N i x.1 x.2.1 x.2.2.1 x.2.2.2.1 x.2.2.2.2 c m k=k (aPr S x) (aGp .s x.1 c m) (mpS x.1 c m):=by
 unfold aCO aPr
 rw[aOm N (by omega) x.1 c hx.1 hx.2 hm,aG2,aCK,bAl,aCK,aM0 N (by omega)]
 have e:(if decide (0<=x.2.1∧x.2.1<=1)=true then (0:Int)else 15)=if 0<=x.2.1∧x.2.1<=1 then 0 else 15:=by
  by_cases q:0<=x.2.1∧x.2.1<=1
  ·rw[decide_eq_true q,if_pos rfl,if_pos q]
  ·rw[decide_eq_false q,if_neg q];rfl
 rw[e]
 by_cases q:f1 (aNU S x.1) (f1 (if 0<=x.2.1∧x.2.1<=1 then 0 else 15) (if wOK x.2.2.1=true then 0 else 2))=0
 ·rw[q,aAc (by simp),aGq]
  have hw:wOK x.2.2.1=true:=by
   simp only[f1_0]at q
   have:=q.2.2
   split at this
   ·assumption
   ·cases this
  have hb:=of_decide_eq_true hw
  rw[bM5 N _ _ hb.1 hb.2]
  cases hv:vok x.2.2.1 x.2.2.2.1
  ·rw[cond_false,aCK,if_neg (by simp),if_neg (by simp)]
  ·rw[cond_true,aG2,aCK]
   by_cases q2:0<=x.2.2.2.2∧x.2.2.2.2<=3
   ·rw[decide_eq_true q2,if_pos rfl,if_pos ⟨rfl,q2⟩]
   ·rw[decide_eq_false q2,if_neg (by simp),if_neg (fun h=>q2 h.2)]
 ·rw[aAd q,aKn q]
theorem aMu (N:Nat)(hN:1000<=N)(k0:Int->Int->Nat->NM->Option R)(k1:Nat->NM->Option R)(l:List aAP)(hl:l.length<=1000000)(hs:∀ x,x∈l->SZ N x.1):∀ (r:List aAP) (n i c:Nat) (m:NM) (S:List ByteArray),l.drop i=r->r.length<n->KN m S ->
  ∃ (j:Int) (c':Nat) (m':NM),aAt N k0 k1 n l l.length i c m=if aFn S r=0 then k1 c' m' else k0 j (aFn S r) c' m'
 | [],n,i,c,m,S,h,hn,hm=>by
  obtain⟨n,rfl⟩:=sc hn
  exact⟨0,c,m,by rw[aAt,aAc (aAm h)];rfl⟩
 | x :: r,n,i,c,m,S,h,hr,hm=>by
  obtain⟨n,rfl⟩:=sc hr
  obtain⟨h1,h2,h3⟩:=aAh h
  have hx:=hs x (List.mem_of_mem_drop (h▸List.mem_cons_self:x∈l.drop i))
  obtain⟨j,c',m',ih⟩:=aMu N hN k0 k1 l hl hs r n (i+1) (aGp .s x.1 c m) (mpS x.1 c m) (x.1 :: S) h3 (by simp at hr;omega) (aOa hm x.1 c)
  rw[aAt,aAd (by omega),h2,aAe,bNV N hN i x hx c hm,show aFn S (x :: r)=f1 (aPr S x) (aFn (x.1 :: S) r)from rfl]
  by_cases q:aPr S x=0
  ·refine⟨j,c',m',?_⟩
   rw[aAc (by simp[q]),aAl (by omega),ih,q,aGq]
  ·refine⟨i,aGp .s x.1 c m,mpS x.1 c m,?_⟩
   rw[aAd q,aKn q,if_neg q]
theorem aJt (N:Nat)(k0:Int->Option R)(k1:Option R)(l:List Int)(hl:l.length<=1000000)(v:Int):∀ (r:List Int) (n i:Nat),l.drop i=r->r.length<n ->
  ∃ j:Nat,aBy N k0 k1 n l v l.length i=if r.contains v=true then k0 j else k1
 | [],n,i,h,hn=>by
  obtain⟨n,rfl⟩:=sc hn
  exact⟨0,by rw[aBy,aAc (aAm h)];rfl⟩
 | x :: r,n,i,h,hn=>by
  obtain⟨n,rfl⟩:=sc hn
  obtain⟨h1,h2,h3⟩:=aAh h
  obtain⟨j,ih⟩:=aJt N k0 k1 l hl v r n (i+1) h3 (by simp at hn;omega)
  rw[aBy,aAd (by omega),h2,aAe,List.contains_cons]
  by_cases q:v=x
  ·exact⟨i,by rw[aAd q,if_pos (by simp[q])]⟩
  ·refine⟨j,?_⟩
   rw[aAc q,aAl (by omega),ih]
   simp[q]
theorem aPN (N:Nat)(l:List Int)(hl:l.length<=1000000)(hN:l.length<N)(v:Int)(k:Bool->Option R):aB7 N l v k=k (l.contains v):=by
 unfold aB7 aEz
 obtain⟨j,this⟩:=aJt N (fun y1=>k (decide (0<=y1))) (k (decide ((0:Int)<=-1))) l hl v l N 0 rfl hN
 rw[Int.natCast_zero]at this
 rw[this]
 cases l.contains v
 ·rfl
 ·rw[if_pos rfl,decide_eq_true (by omega)]
theorem aMq (N:Nat)(hN:1000<=N)(k0:Int->Int->KD (Int->List Int->Option R))(k1:KD (Int->List Int->Option R))(nm:ByteArray)(ins:List aAp)(els:List aAP)(nodes:List Nd)(rules:List aA1)(outs:List aAp)(attrs:List aCE)(hr:rules.length<=1000000)(kd:Int)(l:List Int)(hl:l.length<=1000000)(hlN:l.length<N):∀ (r:List Int) (n i:Nat),l.drop i=r->r.length<n ->
  ∃ j:Int,aAu N k0 k1 n l l.length i nm ins els nodes rules outs attrs kd l=if aHs rules.length l i r=0 then k1 nm ins els nodes rules outs attrs kd l else k0 j (aHs rules.length l i r) nm ins els nodes rules outs attrs kd l
 | [],n,i,h,hn=>by
  obtain⟨n,rfl⟩:=sc hn
  exact⟨0,by rw[aAu,aAc (aAm h)];rfl⟩
 | x :: r,n,i,h,hn=>by
  obtain⟨n,rfl⟩:=sc hn
  obtain⟨h1,h2,h3⟩:=aAh h
  obtain⟨j,ih⟩:=aMq N hN k0 k1 nm ins els nodes rules outs attrs hr kd l hl hlN r n (i+1) h3 (by simp at hn;omega)
  have e:(if decide (0<=x∧x<=(rules.length:Int)-1)=true then (0:Int)else 6)=if 0<=x∧x<=(rules.length:Int)-1 then 0 else 6:=by
   by_cases q:0<=x∧x<=(rules.length:Int)-1
   ·rw[decide_eq_true q,if_pos rfl,if_pos q]
   ·rw[decide_eq_false q,if_neg q];rfl
  have e2:(if (!(l.take i).contains x)=true then (0:Int)else 23)=if (l.take i).contains x=true then 23 else 0:=by cases (l.take i).contains x <;> rfl
  rw[aAu,aAd (by omega),h2,aAe]
  unfold aC3
  rw[aDt (by omega) (by omega),aG2,aCK,e,bBp (by omega),cond_true,Int.toNat_natCast,List.drop_zero,aPN N _ (by rw[List.length_take];omega) (by rw[List.length_take];omega),aCK,e2,aGL N (by omega),
   show aHs rules.length l i (x :: r)=f1 (f1 (if 0<=x∧x<=(rules.length:Int)-1 then 0 else 6) (if (l.take i).contains x=true then 23 else 0)) (aHs rules.length l (i+1) r)from rfl]
  generalize f1 (if 0<=x∧x<=(rules.length:Int)-1 then (0:Int)else 6) (if (l.take i).contains x=true then 23 else 0)=z
  try dsimp only
  by_cases q:z=0
  ·refine⟨j,?_⟩
   rw[aAc (by simp[q]),aAl (by omega),ih,q,aGq]
  ·refine⟨i,?_⟩
   rw[aAd q,aKn q,if_neg q]
theorem bO2 (N:Nat)(hN:1000<=N)(nm:ByteArray)(ins:List aAp)(els:List aAP)(nodes:List Nd)(rules:List aA1)(outs:List aAp)(attrs:List aCE)(hr:rules.length<=1000000)(i:Int)(x:aCE)(hl:x.2.length<=1000000)(hlN:x.2.length<N)(k:Int->KD (Option R)) :
  aCF N i x.1 x.2 nm ins els nodes rules outs attrs k=k (aWx rules.length x) nm ins els nodes rules outs attrs:=by
 unfold aCF aBS aWx
 let K:Int->ByteArray->List aAp->List aAP->List Nd->List aA1->List aAp->List aCE->Int->List Int->Option R:=fun y2 y3 y4 y5 y6 y7 y8 y9 y10 y11=>(aAF N y10 0 3 (fun y12=>(aAj N y12 15 (fun y13=>(aAF N ((y11.length:Nat):Int) 1 16 (fun y14=>(aAj N y14 10 (fun y15=>(aAY N [y13,y15,y2] (fun y16=>(k y16 y3 y4 y5 y6 y7 y8 y9)))))))))))
 obtain⟨j,e⟩:=aMq N hN (fun y1=>K) (K 0) nm ins els nodes rules outs attrs hr x.1 x.2 hl hlN x.2 N 0 rfl hlN
 rw[Int.natCast_zero]at e
 refine e.trans ?_
 have hK:∀ z,K z nm ins els nodes rules outs attrs x.1 x.2=k (f1 (if 0<=x.1∧x.1<=3 then 0 else 15) (f1 (if 1<=x.2.length∧x.2.length<=16 then 0 else 10) z)) nm ins els nodes rules outs attrs:=by
  intro z
  show aAF N x.1 0 3 _=_
  rw[aG2,aCK,aG2,aCK,aM0 N (by omega)]
  have e1:(if decide (0<=x.1∧x.1<=3)=true then (0:Int)else 15)=if 0<=x.1∧x.1<=3 then 0 else 15:=by
   by_cases q:0<=x.1∧x.1<=3
   ·rw[decide_eq_true q,if_pos rfl,if_pos q]
   ·rw[decide_eq_false q,if_neg q];rfl
  have e2:(if decide (1<=((x.2.length:Nat):Int)∧((x.2.length:Nat):Int)<=16)=true then (0:Int)else 10)=if 1<=x.2.length∧x.2.length<=16 then 0 else 10:=by
   by_cases q:1<=x.2.length∧x.2.length<=16
   ·rw[decide_eq_true (by omega),if_pos rfl,if_pos q]
   ·rw[decide_eq_false (by omega),if_neg q];rfl
  rw[e1,e2]
 by_cases c:aHs rules.length x.2 0 x.2=0
 ·rw[if_pos c,hK,c]
 ·rw[if_neg c,hK]
theorem aMM (N:Nat)(hN:1000<=N)(k0:Int->Int->KD (Option R))(k1:KD (Option R))(nm:ByteArray)(ins:List aAp)(els:List aAP)(nodes:List Nd)(rules:List aA1)(outs:List aAp)(attrs:List aCE)(hr:rules.length<=1000000)(l:List aCE)(hl:l.length<=1000000)(hs:∀ x,x∈l->x.2.length<=1000000∧x.2.length<N):∀ (r:List aCE) (n i:Nat),l.drop i=r->r.length<n ->
  ∃ j:Int,aAq N k0 k1 n l l.length i nm ins els nodes rules outs attrs=if aG7 rules.length r=0 then k1 nm ins els nodes rules outs attrs else k0 j (aG7 rules.length r) nm ins els nodes rules outs attrs
 | [],n,i,h,hn=>by
  obtain⟨n,rfl⟩:=sc hn
  exact⟨0,by rw[aAq,aAc (aAm h)];rfl⟩
 | x :: r,n,i,h,hn=>by
  obtain⟨n,rfl⟩:=sc hn
  obtain⟨h1,h2,h3⟩:=aAh h
  have hx:=hs x (List.mem_of_mem_drop (h▸List.mem_cons_self:x∈l.drop i))
  obtain⟨j,ih⟩:=aMM N hN k0 k1 nm ins els nodes rules outs attrs hr l hl hs r n (i+1) h3 (by simp at hn;omega)
  rw[aAq,aAd (by omega),h2,aAe,bO2 N hN nm ins els nodes rules outs attrs hr i x hx.1 hx.2,show aG7 rules.length (x :: r)=f1 (aWx rules.length x) (aG7 rules.length r)from rfl]
  by_cases q:aWx rules.length x=0
  ·refine⟨j,?_⟩
   rw[aAc (by simp[q]),aAl (by omega),ih,q,aGq]
  ·refine⟨i,?_⟩
   rw[aAd q,aKn q,if_neg q]
structure DH (N:Nat) (nm:ByteArray) (ins:List aAp) (els:List aAP) (nodes:List Nd) (rules:List aA1) (outs:List aAp) (attrs:List aCE):Prop where
 nm:SZ N nm
 ins:ins.length<=1000000∧ins.length<N∧∀ x,x∈ins->SZ N x.1
 els:els.length<=1000000∧els.length<N∧∀ x,x∈els->SZ N x.1
 nodes:nodes.length<=1000000∧∀ x,x∈nodes->x.2.2.1.length<=1000000∧x.2.2.1.length<N
 rules:rules.length<=1000000∧rules.length<N∧∀ x,x∈rules->SZ N x.1∧x.2.2.length<=1000000∧x.2.2.length<N
 outs:outs.length<=1000000∧outs.length<N∧∀ x,x∈outs->SZ N x.1
 attrs:attrs.length<=1000000∧attrs.length<N∧∀ x,x∈attrs->x.2.length<=1000000∧x.2.length<N
theorem aVk (N:Nat)(k0:KD (List Int->Option R))(nm:ByteArray)(ins:List aAp)(els:List aAP)(nodes:List Nd)(rules:List aA1)(outs:List aAp)(attrs:List aCE)(l:List aAp)(hl:l.length<=1000000):∀ (r:List aAp) (n i:Nat) (acc:List Int),l.drop i=r->r.length<n->acc.length<=i ->
  aDl N k0 n l l.length i nm ins els nodes rules outs attrs acc=k0 nm ins els nodes rules outs attrs (acc++r.map (·.2))
 | [],n,i,acc,h,hn,ha=>by
  obtain⟨n,rfl⟩:=sc hn
  rw[aDl,aAc (aAm h),List.map_nil,List.append_nil]
 | x :: r,n,i,acc,h,hn,ha=>by
  obtain⟨n,rfl⟩:=sc hn
  obtain⟨h1,h2,h3⟩:=aAh h
  rw[aDl,aAd (by omega),h2,aAe,aBs (by omega),cond_true,aAl (by omega),aVk N k0 nm ins els nodes rules outs attrs l hl r n (i+1) (acc++[x.2]) h3 (by simp at hn;omega) (by simp;omega),List.map_cons,List.append_assoc]
  rfl
theorem aXi (N:Nat)(k0:List Int->Option R)(l:List aAP)(hl:l.length<=1000000):∀ (r:List aAP) (n i:Nat) (acc:List Int),l.drop i=r->r.length<n->acc.length+r.length<=3000000 ->
  aDn N k0 n l l.length i acc=k0 (acc++r.map (·.2.2.1))
 | [],n,i,acc,h,hn,ha=>by
  obtain⟨n,rfl⟩:=sc hn
  rw[aDn,aAc (aAm h),List.map_nil,List.append_nil]
 | x :: r,n,i,acc,h,hn,ha=>by
  obtain⟨n,rfl⟩:=sc hn
  obtain⟨h1,h2,h3⟩:=aAh h
  rw[List.length_cons]at ha hn
  rw[aDn,aAd (by omega),h2,aAe,aBs (by omega),cond_true,aAl (by omega),aXi N k0 l hl r n (i+1) (acc++[x.2.2.1]) h3 (by omega) (by rw[List.length_append,List.length_singleton];omega),List.map_cons,List.append_assoc]
  rfl
section
variable {N:Nat} {nm:ByteArray} {ins:List aAp} {els:List aAP} {nodes:List Nd} {rules:List aA1} {outs:List aAp} {attrs:List aCE}
theorem aTh (h:DH N nm ins els nodes rules outs attrs)(k:List Int->Option R):aFI N nm ins els nodes rules outs attrs k=k (aIV ins els):=by
 unfold aFI aIV
 have hi:=h.ins;have he:=h.els
 refine (aVk N _ nm ins els nodes rules outs attrs ins hi.1 ins N 0 [] rfl hi.2.1 (by simp)).trans ?_
 exact aXi N k els he.1 els N 0 _ rfl he.2.1 (by rw[List.nil_append,List.length_map];omega)
theorem aJM {K:Option R}{k0:Int->Int->Option R}{c:Int}{j:Int}:(bif decide (c≠0)then k0 j c else K)=if c=0 then K else k0 j c:=by
 by_cases h:c=0
 ·rw[aAc (by simp[h]),if_pos h]
 ·rw[aAd h,if_neg h]
theorem aOM (n m:Nat)(a b:Int)(ha:a=n)(hb:b=m):(if decide (a<=b)=true then (0:Int)else 8)=le8 n m:=by
 unfold le8
 by_cases h:n<=m
 ·rw[if_pos h,decide_eq_true (by omega)];rfl
 ·rw[if_neg h,decide_eq_false (by omega)];rfl
variable (k0:Int->Int->Option R) (k1:Option R) (M c1 c2 c3 c4:Nat) (m1 m2 m3 m4:NM)
theorem st0 (hN:1000<=N)(h:DH N nm ins els nodes rules outs attrs):aAa N k0 k1 (M+1) 0 nm ins els nodes rules outs attrs c1 m1 c2 m2 c3 m3 c4 m4=if f1 (if nmB nm=true then 0 else 4) (le8 ins.length 12)=0 then aAa N k0 k1 M 1 nm ins els nodes rules outs attrs c1 m1 c2 m2 c3 m3 c4 m4 else k0 0 (f1 (if nmB nm=true then 0 else 4) (le8 ins.length 12)):=by
 rw[aAa]
 simp only[Int.reduceLT,Int.reduceEq,decide_true,decide_false,cond_true,cond_false]
 unfold aEv
 rw[bKs N nm h.nm.1 h.nm.2,aCK,aCK,aOM ins.length 12 _ 12 rfl rfl,aGL N (by omega)]
 exact aJM
theorem st1 (hN:1000<=N)(h:DH N nm ins els nodes rules outs attrs)(hm1:KN m1 [])(hm2:KN m2 []):∃ (j:Int) (c1' c2':Nat) (m1' m2':NM),(aFr [] ins=0->KN m1' (aLo [] ins))∧aAa N k0 k1 (M+1) 1 nm ins els nodes rules outs attrs c1 m1 c2 m2 c3 m3 c4 m4=if aFr [] ins=0 then aAa N k0 k1 M 2 nm ins els nodes rules outs attrs c1' m1' c2' m2' c3 m3 c4 m4 else k0 j (aFr [] ins):=by
 rw[aAa]
 simp only[Int.reduceLT,Int.reduceEq,decide_true,decide_false,cond_true,cond_false]
 unfold aEH aCe
 obtain⟨j,c1',c2',m1',m2',hk,e⟩:=aMa N hN (fun y1 y2 y3 y4 y5 y6=>bif decide (y2≠0)then k0 y1 y2 else aAa N k0 k1 M (w64 (1+1)) nm ins els nodes rules outs attrs y3 y4 y5 y6 c3 m3 c4 m4)
  (fun y3 y4 y5 y6=>aAa N k0 k1 M (w64 (1+1)) nm ins els nodes rules outs attrs y3 y4 y5 y6 c3 m3 c4 m4) ins h.ins.1 h.ins.2.2 ins N 0 c1 c2 m1 m2 [] rfl h.ins.2.1 hm1 hm2
 refine⟨j,c1',c2',m1',m2',hk,e.trans ?_⟩
 by_cases q:aFr [] ins=0
 ·rw[if_pos q,if_pos q];rfl
 ·rw[if_neg q,if_neg q,aAd q]
theorem st2 (hN:1000<=N)(h:DH N nm ins els nodes rules outs attrs):aAa N k0 k1 (M+1) 2 nm ins els nodes rules outs attrs c1 m1 c2 m2 c3 m3 c4 m4=if le8 (ins.length+els.length) 40=0 then aAa N k0 k1 M 3 nm ins els nodes rules outs attrs c1 m1 c2 m2 c3 m3 c4 m4 else k0 0 (le8 (ins.length+els.length) 40):=by
 have hi:=h.ins;have he:=h.els
 rw[aAa]
 simp only[Int.reduceLT,Int.reduceEq,decide_true,decide_false,cond_true,cond_false]
 unfold aEK
 rw[aCK,aOM (ins.length+els.length) 40 _ 40 (by rw[aDt (by omega) (by omega)];omega) rfl]
 exact aJM
theorem st3 (hN:1000<=N)(h:DH N nm ins els nodes rules outs attrs){S:List ByteArray}(hm1:KN m1 S):∃ (j:Int) (c1':Nat) (m1':NM),aAa N k0 k1 (M+1) 3 nm ins els nodes rules outs attrs c1 m1 c2 m2 c3 m3 c4 m4=if aFn S els=0 then aAa N k0 k1 M 4 nm ins els nodes rules outs attrs c1' m1' c2 m2 c3 m3 c4 m4 else k0 j (aFn S els):=by
 rw[aAa]
 simp only[Int.reduceLT,Int.reduceEq,decide_true,decide_false,cond_true,cond_false]
 unfold aEE aBT
 obtain⟨j,c1',m1',e⟩:=aMu N hN (fun y1 y2 y3 y4=>bif decide (y2≠0)then k0 y1 y2 else aAa N k0 k1 M (w64 (3+1)) nm ins els nodes rules outs attrs y3 y4 c2 m2 c3 m3 c4 m4)
  (fun y3 y4=>aAa N k0 k1 M (w64 (3+1)) nm ins els nodes rules outs attrs y3 y4 c2 m2 c3 m3 c4 m4) els h.els.1 h.els.2.2 els N 0 c1 m1 S rfl h.els.2.1 hm1
 refine⟨j,c1',m1',e.trans ?_⟩
 by_cases q:aFn S els=0
 ·rw[if_pos q,if_pos q];rfl
 ·rw[if_neg q,if_neg q,aAd q]
theorem st4 (hN:1000<=N)(h:DH N nm ins els nodes rules outs attrs):∃ (j:Int),aAa N k0 k1 (M+1) 4 nm ins els nodes rules outs attrs c1 m1 c2 m2 c3 m3 c4 m4=if aQR (aIV ins els) nodes=0 then aAa N k0 k1 M 5 nm ins els nodes rules outs attrs c1 m1 c2 m2 c3 m3 c4 m4 else k0 j (aQR (aIV ins els) nodes):=by
 rw[aAa]
 simp only[Int.reduceLT,Int.reduceEq,decide_true,decide_false,cond_true,cond_false]
 unfold aEy
 rw[aTh h]
 obtain⟨j,e⟩:=aMH N hN (aIV ins els) nodes h.nodes.2 (fun y2 y3=>bif decide (y3≠0)then k0 y2 y3 else aAa N k0 k1 M (w64 (4+1)) nm ins els nodes rules outs attrs c1 m1 c2 m2 c3 m3 c4 m4)
 exact⟨j,e.trans aJM⟩
theorem st5 (hN:1000<=N)(h:DH N nm ins els nodes rules outs attrs):aAa N k0 k1 (M+1) 5 nm ins els nodes rules outs attrs c1 m1 c2 m2 c3 m3 c4 m4=if le8 rules.length 16=0 then aAa N k0 k1 M 6 nm ins els nodes rules outs attrs c1 m1 c2 m2 c3 m3 c4 m4 else k0 0 (le8 rules.length 16):=by
 rw[aAa]
 simp only[Int.reduceLT,Int.reduceEq,decide_true,decide_false,cond_true,cond_false]
 unfold aEx
 rw[aCK,aOM rules.length 16 _ 16 rfl rfl]
 exact aJM
theorem st6 (hN:1000<=N)(h:DH N nm ins els nodes rules outs attrs)(hm3:KN m3 []):∃ (j:Int) (c3':Nat) (m3':NM),aAa N k0 k1 (M+1) 6 nm ins els nodes rules outs attrs c1 m1 c2 m2 c3 m3 c4 m4=if aFP els nodes [] rules=0 then aAa N k0 k1 M 7 nm ins els nodes rules outs attrs c1 m1 c2 m2 c3' m3' c4 m4 else k0 j (aFP els nodes [] rules):=by
 rw[aAa]
 simp only[Int.reduceLT,Int.reduceEq,decide_true,decide_false,cond_true,cond_false]
 unfold aED aCf
 obtain⟨j,c3',m3',e⟩:=aMb N hN (fun y1 y2 y3 y4 y5 y6 y7 y8 y9 y10 y11=>bif decide (y2≠0)then k0 y1 y2 else aAa N k0 k1 M (w64 (6+1)) y5 y6 y7 y8 y9 y10 y11 c1 m1 c2 m2 y3 y4 c4 m4)
  (fun y3 y4 y5 y6 y7 y8 y9 y10 y11=>aAa N k0 k1 M (w64 (6+1)) y5 y6 y7 y8 y9 y10 y11 c1 m1 c2 m2 y3 y4 c4 m4) nm ins els nodes rules outs attrs h.nodes.1 h.els.1 rules h.rules.1 h.rules.2.2 rules N 0 c3 m3 [] rfl h.rules.2.1 hm3
 refine⟨j,c3',m3',e.trans ?_⟩
 by_cases q:aFP els nodes [] rules=0
 ·rw[if_pos q,if_pos q];rfl
 ·rw[if_neg q,if_neg q,aAd q]
theorem st7 (hN:1000<=N)(h:DH N nm ins els nodes rules outs attrs):aAa N k0 k1 (M+1) 7 nm ins els nodes rules outs attrs c1 m1 c2 m2 c3 m3 c4 m4=if le8 outs.length 12=0 then aAa N k0 k1 M 8 nm ins els nodes rules outs attrs c1 m1 c2 m2 c3 m3 c4 m4 else k0 0 (le8 outs.length 12):=by
 rw[aAa]
 simp only[Int.reduceLT,Int.reduceEq,decide_true,decide_false,cond_true,cond_false]
 unfold aEC
 rw[aCK,aOM outs.length 12 _ 12 rfl rfl]
 exact aJM
theorem st8 (hN:1000<=N)(h:DH N nm ins els nodes rules outs attrs)(hm4:KN m4 []):∃ (j:Int) (c4':Nat) (m4':NM),aAa N k0 k1 (M+1) 8 nm ins els nodes rules outs attrs c1 m1 c2 m2 c3 m3 c4 m4=if aHW nodes [] outs=0 then aAa N k0 k1 M 9 nm ins els nodes rules outs attrs c1 m1 c2 m2 c3 m3 c4' m4' else k0 j (aHW nodes [] outs):=by
 rw[aAa]
 simp only[Int.reduceLT,Int.reduceEq,decide_true,decide_false,cond_true,cond_false]
 unfold aEF aBZ
 obtain⟨j,c4',m4',e⟩:=aO3 N hN (fun y1 y2 y3 y4 y5 y6 y7 y8 y9 y10 y11=>bif decide (y2≠0)then k0 y1 y2 else aAa N k0 k1 M (w64 (8+1)) y5 y6 y7 y8 y9 y10 y11 c1 m1 c2 m2 c3 m3 y3 y4)
  (fun y3 y4 y5 y6 y7 y8 y9 y10 y11=>aAa N k0 k1 M (w64 (8+1)) y5 y6 y7 y8 y9 y10 y11 c1 m1 c2 m2 c3 m3 y3 y4) nm ins els nodes rules outs attrs h.nodes.1 outs h.outs.1 h.outs.2.2 outs N 0 c4 m4 [] rfl h.outs.2.1 hm4
 refine⟨j,c4',m4',e.trans ?_⟩
 by_cases q:aHW nodes [] outs=0
 ·rw[if_pos q,if_pos q];rfl
 ·rw[if_neg q,if_neg q,aAd q]
theorem st9 (hN:1000<=N)(h:DH N nm ins els nodes rules outs attrs):aAa N k0 k1 (M+1) 9 nm ins els nodes rules outs attrs c1 m1 c2 m2 c3 m3 c4 m4=if le8 attrs.length 16=0 then aAa N k0 k1 M 10 nm ins els nodes rules outs attrs c1 m1 c2 m2 c3 m3 c4 m4 else k0 0 (le8 attrs.length 16):=by
 rw[aAa]
 simp only[Int.reduceLT,Int.reduceEq,decide_true,decide_false,cond_true,cond_false]
 unfold aEm
 rw[aCK,aOM attrs.length 16 _ 16 rfl rfl]
 exact aJM
theorem bVN (hN:1000<=N)(h:DH N nm ins els nodes rules outs attrs):∃ (j:Int),aAa N k0 k1 (M+2) 10 nm ins els nodes rules outs attrs c1 m1 c2 m2 c3 m3 c4 m4=if aG7 rules.length attrs=0 then k1 else k0 j (aG7 rules.length attrs):=by
 rw[aAa]
 simp only[Int.reduceLT,Int.reduceEq,decide_true,decide_false,cond_true,cond_false]
 unfold aEj aBv
 obtain⟨j,e⟩:=aMM N hN (fun y1 y2 y3 y4 y5 y6 y7 y8 y9=>bif decide (y2≠0)then k0 y1 y2 else aAa N k0 k1 (M+1) (w64 (10+1)) y3 y4 y5 y6 y7 y8 y9 c1 m1 c2 m2 c3 m3 c4 m4)
  (fun y3 y4 y5 y6 y7 y8 y9=>aAa N k0 k1 (M+1) (w64 (10+1)) y3 y4 y5 y6 y7 y8 y9 c1 m1 c2 m2 c3 m3 c4 m4) nm ins els nodes rules outs attrs h.rules.1 attrs h.attrs.1 h.attrs.2.2 attrs N 0 rfl h.attrs.2.1
 refine⟨j,e.trans ?_⟩
 by_cases q:aG7 rules.length attrs=0
 ·rw[if_pos q,if_pos q]
  show aAa N k0 k1 (M+1) 11 _ _ _ _ _ _ _ _ _ _ _ _ _ _ _=_
  rw[aAa];rfl
 ·rw[if_neg q,if_neg q,aAd q]
theorem aPK (hN:1000<=N)(h:DH N nm ins els nodes rules outs attrs)(k:Int->Int->Option R):∃ j:Int,aDr N nm ins els nodes rules outs attrs k=k j (aHq nm ins els nodes rules outs attrs):=by
 obtain⟨M,rfl⟩:∃ M,N=M+12:=⟨N-12,by omega⟩
 unfold aDr aHq
 rw[st0 _ _ _ _ _ _ _ _ _ _ _ hN h]
 by_cases q0:f1 (if nmB nm=true then 0 else 4) (le8 ins.length 12)=0
 ·rw[if_pos q0,q0,aGq]
  obtain⟨j,c1',c2',m1',m2',hk,e⟩:=st1 k (k 0 0) (M+10) 0 0 0 0 [] [] [] [] hN h aQN aQN
  rw[e]
  by_cases q1:aFr [] ins=0
  ·rw[if_pos q1,q1,aGq,st2 _ _ _ _ _ _ _ _ _ _ _ hN h]
   by_cases q2:le8 (ins.length+els.length) 40=0
   ·rw[if_pos q2,q2,aGq]
    obtain⟨j,c1'',m1'',e⟩:=st3 k (k 0 0) (M+8) c1' c2' 0 0 m1' m2' [] [] hN h (hk q1)
    rw[e]
    by_cases q3:aFn (aLo [] ins) els=0
    ·rw[if_pos q3,q3,aGq]
     obtain⟨j,e⟩:=st4 k (k 0 0) (M+7) c1'' c2' 0 0 m1'' m2' [] [] hN h
     rw[e]
     by_cases q4:aQR (aIV ins els) nodes=0
     ·rw[if_pos q4,q4,aGq,st5 _ _ _ _ _ _ _ _ _ _ _ hN h]
      by_cases q5:le8 rules.length 16=0
      ·rw[if_pos q5,q5,aGq]
       obtain⟨j,c3',m3',e⟩:=st6 k (k 0 0) (M+5) c1'' c2' 0 0 m1'' m2' [] [] hN h aQN
       rw[e]
       by_cases q6:aFP els nodes [] rules=0
       ·rw[if_pos q6,q6,aGq,st7 _ _ _ _ _ _ _ _ _ _ _ hN h]
        by_cases q7:le8 outs.length 12=0
        ·rw[if_pos q7,q7,aGq]
         obtain⟨j,c4',m4',e⟩:=st8 k (k 0 0) (M+3) c1'' c2' c3' 0 m1'' m2' m3' [] hN h aQN
         rw[e]
         by_cases q8:aHW nodes [] outs=0
         ·rw[if_pos q8,q8,aGq,st9 _ _ _ _ _ _ _ _ _ _ _ hN h]
          by_cases q9:le8 attrs.length 16=0
          ·rw[if_pos q9,q9,aGq]
           obtain⟨j,e⟩:=bVN k (k 0 0) M c1'' c2' c3' c4' m1'' m2' m3' m4' hN h
           rw[e]
           by_cases q10:aG7 rules.length attrs=0
           ·rw[if_pos q10,q10];exact⟨0,rfl⟩
           ·rw[if_neg q10];exact⟨j,rfl⟩
          ·rw[if_neg q9,aKn q9];exact⟨0,rfl⟩
         ·rw[if_neg q8,aKn q8];exact⟨j,rfl⟩
        ·rw[if_neg q7,aKn q7];exact⟨0,rfl⟩
       ·rw[if_neg q6,aKn q6];exact⟨j,rfl⟩
      ·rw[if_neg q5,aKn q5];exact⟨0,rfl⟩
     ·rw[if_neg q4,aKn q4];exact⟨j,rfl⟩
    ·rw[if_neg q3,aKn q3];exact⟨j,rfl⟩
   ·rw[if_neg q2,aKn q2];exact⟨0,rfl⟩
  ·rw[if_neg q1,aKn q1];exact⟨j,rfl⟩
 ·rw[if_neg q0,aKn q0];exact⟨0,rfl⟩
end
theorem if0 {c:Prop} [Decidable c] {e:Int}(he:e≠0)(h:(if c then 0 else e)=0):c:=by
 split at h
 ·assumption
 ·exact absurd h he
theorem aNu:∀ (l:List aAp) (S:List ByteArray),aFr S l=0->∀ x,x∈l->wOK x.2=true
 | [],_,_,x,hx=>by cases hx
 | y :: r,S,h,x,hx=>by
  obtain⟨h1,h2⟩:=f1_0.1 (show f1 (aRg S y) (aFr (y.1 :: S) r)=0 from h)
  rcases List.mem_cons.1 hx with rfl | hx
  ·exact if0 (by decide) (f1_0.1 h1).2
  ·exact aNu r _ h2 x hx
theorem aNd:∀ (l:List aAP) (S:List ByteArray),aFn S l=0->∀ x,x∈l->(0<=x.2.1∧x.2.1<=1)∧wOK x.2.2.1=true∧vok x.2.2.1 x.2.2.2.1=true∧0<=x.2.2.2.2∧x.2.2.2.2<=3
 | [],_,_,x,hx=>by cases hx
 | y :: r,S,h,x,hx=>by
  obtain⟨h1,h2⟩:=f1_0.1 (show f1 (aPr S y) (aFn (y.1 :: S) r)=0 from h)
  rcases List.mem_cons.1 hx with rfl | hx
  ·obtain⟨h3,h4⟩:=f1_0.1 h1
   have h5:=(f1_0.1 (f1_0.1 h3).2)
   exact⟨if0 (by decide) h5.1,if0 (by decide) h5.2,(if0 (by decide) h4).1,(if0 (by decide) h4).2⟩
  ·exact aNd r _ h2 x hx
theorem aSM {nodes:List Nd}:∀ (l:List aAp) (S:List ByteArray),aHW nodes S l=0->∀ x,x∈l->aNm nodes x.2=true
 | [],_,_,x,hx=>by cases hx
 | y :: r,S,h,x,hx=>by
  obtain⟨h1,h2⟩:=f1_0.1 (show f1 (bIJ nodes S y) (aHW nodes (y.1 :: S) r)=0 from h)
  rcases List.mem_cons.1 hx with rfl | hx
  ·exact if0 (by decide) (f1_0.1 h1).2
  ·exact aSM r _ h2 x hx
def bOa (els:List aAP)(nodes:List Nd)(x:WrT):Prop:=(0<=x.1∧x.1<=(els.length:Int)-1)∧aFw nodes x.2.1=true∧aNm nodes x.2.2=true∧aKu nodes x.2.2=ewd els x.1
theorem aOE {els:List aAP}{nodes:List Nd}:∀ (l:List WrT),aD3 els nodes l=0->∀ x,x∈l->bOa els nodes x
 | [],_,x,hx=>by cases hx
 | y :: r,h,x,hx=>by
  obtain⟨h1,h2⟩:=f1_0.1 (show f1 (aKd els nodes y) (aD3 els nodes r)=0 from h)
  rcases List.mem_cons.1 hx with rfl | hx
  ·obtain⟨h3,h4⟩:=f1_0.1 h1
   obtain⟨h5,h6⟩:=f1_0.1 h4
   have h5:=if0 (by decide) h5
   rw[Bool.and_eq_true]at h5
   exact⟨if0 (by decide) h3,h5.1,h5.2,if0 (by decide) h6⟩
  ·exact aOE r h2 x hx
theorem aQG {els:List aAP}{nodes:List Nd}:∀ (l:List aA1) (S:List ByteArray),aFP els nodes S l=0->∀ x,x∈l->aFw nodes x.2.1=true∧x.2.2.length<=16∧∀ y,y∈x.2.2->bOa els nodes y
 | [],_,_,x,hx=>by cases hx
 | y :: r,S,h,x,hx=>by
  obtain⟨h1,h2⟩:=f1_0.1 (show f1 (aRj S els nodes y) (aFP els nodes (y.1 :: S) r)=0 from h)
  rcases List.mem_cons.1 hx with rfl | hx
  ·obtain⟨h3,h4⟩:=f1_0.1 h1
   have h5:=f1_0.1 (f1_0.1 h3).2
   exact⟨if0 (by decide) h5.1,if0 (by decide) h5.2,aOE _ h4⟩
  ·exact aQG r _ h2 x hx
structure DV (ins:List aAp) (els:List aAP) (nodes:List Nd) (rules:List aA1) (outs:List aAp):Prop where
 insW:∀ x,x∈ins->wOK x.2=true
 elsW:∀ x,x∈els->(0<=x.2.1∧x.2.1<=1)∧wOK x.2.2.1=true∧vok x.2.2.1 x.2.2.2.1=true∧0<=x.2.2.2.2∧x.2.2.2.2<=3
 chk:aQR (aIV ins els) nodes=0
 rulesW:∀ x,x∈rules->aFw nodes x.2.1=true∧x.2.2.length<=16∧∀ y,y∈x.2.2->bOa els nodes y
 outsW:∀ x,x∈outs->aNm nodes x.2=true
 nr:rules.length<=16
 no:outs.length<=12
theorem aYI {n m:Nat}(h:le8 n m=0):n<=m:=if0 (by decide) h
theorem bEG {nm:ByteArray}{ins:List aAp}{els:List aAP}{nodes:List Nd}{rules:List aA1}{outs:List aAp}{attrs:List aCE}(h:aHq nm ins els nodes rules outs attrs=0):DV ins els nodes rules outs:=by
 unfold aHq at h
 simp only[f1_0]at h
 obtain⟨_,h1,_,h2,h3,h4,h5,h6,h7,_⟩:=h
 exact⟨aNu _ _ h1,aNd _ _ h2,h3,aQG _ _ h5,aSM _ _ h7,aYI h4,aYI h6⟩
def bYS:List Int->List Int->Bool
 | w :: ws,x :: xs=>vok w x&&bYS ws xs
 | _,_=>true
def cD5 (ws l:List Int):Int:=if l.length=ws.length then (if bYS ws l=true then 0 else 2)else 10
theorem bYJ:∀ (ws l:List Int),l.length=ws.length->(bYS ws l=true↔∀ i,i<ws.length->vok (w0 ws i) (w0 l i)=true)
 | [],l,_=>by simp[bYS]
 | w :: ws,[],h=>by simp at h
 | w :: ws,x :: xs,h=>by
  rw[show bYS (w :: ws) (x :: xs)=(vok w x&&bYS ws xs)from rfl,Bool.and_eq_true,bYJ ws xs (by simpa using h)]
  constructor
  ·rintro ⟨h1,h2⟩ i hi
   cases i with
   | zero=>exact h1
   | succ i=>exact h2 i (by simpa using hi)
  ·intro h2
   exact⟨h2 0 (by simp),fun i hi=>h2 (i+1) (by simpa using hi)⟩
theorem valE_0 {ws l:List Int}:cD5 ws l=0↔LV ws l:=by
 unfold cD5 LV
 by_cases h:l.length=ws.length
 ·rw[if_pos h,<- bYJ ws l h]
  cases bYS ws l <;> simp[h]
 ·rw[if_neg h]
  exact⟨fun h=>(by cases h),fun h'=>absurd h'.1 h⟩
theorem bY8 {a b x y:List Int}(h1:LV a x)(h2:LV b y):LV (a++b) (x++y):=by
 refine⟨by simp[h1.1,h2.1],fun i hi=>?_⟩
 have hl:=h1.1
 by_cases c:i<a.length
 ·have:=h1.2 i c
  unfold w0 at this ⊢
  rwa [List.getElem?_append_left c,List.getElem?_append_left (by omega)]
 ·have:=h2.2 (i-a.length) (by simp at hi;omega)
  unfold w0 at this ⊢
  rwa [List.getElem?_append_right (by omega),List.getElem?_append_right (by omega),hl]
theorem bZI (N:Nat)(k0:Int->Int->KD (Option R))(k1:KD (Option R))(nm:ByteArray)(ins:List aAp)(els:List aAP)(nodes:List Nd)(rules:List aA1)(outs:List aAp)(attrs:List aCE)(hi:ins.length<=1000000)(hw:∀ x,x∈ins->wOK x.2=true)(l:List Int)(hl:l.length=ins.length):∀ (r:List Int) (q:List aAp) (n i:Nat),l.drop i=r->ins.drop i=q->r.length<n ->
  ∃ j:Int,aBE N k0 k1 n l l.length i nm ins els nodes rules outs attrs=if bYS (q.map (·.2)) r=true then k1 nm ins els nodes rules outs attrs else k0 j 2 nm ins els nodes rules outs attrs
 | [],q,n,i,h,hq,hn=>by
  obtain⟨n,rfl⟩:=sc hn
  have:bYS (q.map (·.2)) []=true:=by cases q <;> rfl
  exact⟨0,by rw[aBE,aAc (aAm h),if_pos this]⟩
 | x :: r,[],n,i,h,hq,hn=>by
  have h1:=(aAh h).1
  have:=List.drop_eq_nil_iff.1 hq
  omega
 | x :: r,p :: q,n,i,h,hq,hn=>by
  obtain⟨n,rfl⟩:=sc hn
  obtain⟨h1,h2,h3⟩:=aAh h
  obtain⟨p1,p2,p3⟩:=aAh hq
  have hb:=of_decide_eq_true (hw p (List.mem_of_mem_drop (hq▸List.mem_cons_self:p∈ins.drop i)))
  obtain⟨j,ih⟩:=bZI N k0 k1 nm ins els nodes rules outs attrs hi hw l hl r q n (i+1) h3 p3 (by simp at hn;omega)
  rw[aBE,aAd (by omega),h2,aAe]
  unfold aEB
  rw[p2,aAe,bM5 N x _ hb.1 hb.2,aCK,show bYS ((p :: q).map (·.2)) (x :: r)=(vok p.2 x&&bYS (q.map (·.2)) r)from rfl]
  cases vok p.2 x
  ·exact⟨i,rfl⟩
  ·refine⟨j,?_⟩
   rw[if_pos rfl]
   try dsimp only
   rw[aAc (by simp),aAl (by omega),ih,Bool.true_and]
theorem bZL (N:Nat)(k0:Int->Int->KD (Option R))(k1:KD (Option R))(nm:ByteArray)(ins:List aAp)(els:List aAP)(nodes:List Nd)(rules:List aA1)(outs:List aAp)(attrs:List aCE)(hi:els.length<=1000000)(hw:∀ x,x∈els->wOK x.2.2.1=true)(l:List Int)(hl:l.length=els.length):∀ (r:List Int) (q:List aAP) (n i:Nat),l.drop i=r->els.drop i=q->r.length<n ->
  ∃ j:Int,aBL N k0 k1 n l l.length i nm ins els nodes rules outs attrs=if bYS (q.map (·.2.2.1)) r=true then k1 nm ins els nodes rules outs attrs else k0 j 2 nm ins els nodes rules outs attrs
 | [],q,n,i,h,hq,hn=>by
  obtain⟨n,rfl⟩:=sc hn
  have:bYS (q.map (·.2.2.1)) []=true:=by cases q <;> rfl
  exact⟨0,by rw[aBL,aAc (aAm h),if_pos this]⟩
 | x :: r,[],n,i,h,hq,hn=>by
  have h1:=(aAh h).1
  have:=List.drop_eq_nil_iff.1 hq
  omega
 | x :: r,p :: q,n,i,h,hq,hn=>by
  obtain⟨n,rfl⟩:=sc hn
  obtain⟨h1,h2,h3⟩:=aAh h
  obtain⟨p1,p2,p3⟩:=aAh hq
  have hb:=of_decide_eq_true (hw p (List.mem_of_mem_drop (hq▸List.mem_cons_self:p∈els.drop i)))
  obtain⟨j,ih⟩:=bZL N k0 k1 nm ins els nodes rules outs attrs hi hw l hl r q n (i+1) h3 p3 (by simp at hn;omega)
  rw[aBL,aAd (by omega),h2,aAe]
  unfold aEV
  rw[p2,aAe,bM5 N x _ hb.1 hb.2,aCK,show bYS ((p :: q).map (·.2.2.1)) (x :: r)=(vok p.2.2.1 x&&bYS (q.map (·.2.2.1)) r)from rfl]
  cases vok p.2.2.1 x
  ·exact⟨i,rfl⟩
  ·refine⟨j,?_⟩
   rw[if_pos rfl]
   try dsimp only
   rw[aAc (by simp),aAl (by omega),ih,Bool.true_and]
def inW (ins:List aAp):List Int:=ins.map (·.2)
def elW (els:List aAP):List Int:=els.map (·.2.2.1)
section
variable {N:Nat} {nm:ByteArray} {ins:List aAp} {els:List aAP} {nodes:List Nd} {rules:List aA1} {outs:List aAp} {attrs:List aCE}
theorem cEN (h:DH N nm ins els nodes rules outs attrs)(hv:DV ins els nodes rules outs)(l:List Int)(k:Int->Option R):aFq N nm ins els nodes rules outs attrs l k=k (cD5 (inW ins) l):=by
 unfold aFq cD5 inW
 rw[List.length_map]
 by_cases c:l.length=ins.length
 ·rw[aAc (by omega),if_pos c]
  unfold aC5
  have hi:=h.ins
  obtain⟨j,e⟩:=bZI N (fun y1 y2 y3 y4 y5 y6 y7 y8 y9=>k y2) (fun z19 z20 z21 z22 z23 z24 z25=>k 0) nm ins els nodes rules outs attrs hi.1 hv.insW l c l ins N 0 rfl rfl (by omega)
  refine e.trans ?_
  cases bYS (ins.map (·.2)) l <;> rfl
 ·rw[aAd (by omega),if_neg c]
theorem cET (h:DH N nm ins els nodes rules outs attrs)(hv:DV ins els nodes rules outs)(l:List Int)(k:Int->Option R):aFL N nm ins els nodes rules outs attrs l k=k (cD5 (elW els) l):=by
 unfold aFL cD5 elW
 rw[List.length_map]
 by_cases c:l.length=els.length
 ·rw[aAc (by omega),if_pos c]
  unfold aC9
  have hi:=h.els
  obtain⟨j,e⟩:=bZL N (fun y1 y2 y3 y4 y5 y6 y7 y8 y9=>k y2) (fun z19 z20 z21 z22 z23 z24 z25=>k 0) nm ins els nodes rules outs attrs hi.1 (fun x hx=>(hv.elsW x hx).2.1) l c l els N 0 rfl rfl (by omega)
  refine e.trans ?_
  cases bYS (els.map (·.2.2.1)) l <;> rfl
 ·rw[aAd (by omega),if_neg c]
theorem cDX (hN:1000<=N)(a b:List Int)(ha:a.length<=1000000)(hb:b.length<=1000000)(k:List Int->Option R):aFE N [a,b] k=k (a++b):=by
 obtain⟨M,rfl⟩:∃ M,N=M+3:=⟨N-3,by omega⟩
 have e0:at? [a,b] 0=some a:=rfl
 have e1:at? [a,b] 1=some b:=rfl
 have w1:w64 (0+1)=1:=rfl
 have w2:w64 (1+1)=2:=rfl
 have g:aX8 8 ((a.length:Int)+(b.length:Int))=true:=by
  unfold aX8
  exact decide_eq_true ⟨by omega,by omega,by omega⟩
 unfold aFE
 rw[aDi,aAd (by simp),e0,aAe,aDt (x:=0+((a.length:Nat):Int)) (by omega) (by omega),aAc (by omega),w1,
  aDi,aAd (by simp),e1,aAe,Int.zero_add,aDt (x:=(a.length:Int)+((b.length:Nat):Int)) (by omega) (by omega),aAc (by omega),w2,
  aDi,aAc (by simp)]
 try dsimp only
 rw[g,cond_true,aDh,aAd (by simp),e0,aAe,aBs (by simp;omega),cond_true,w1,
  aDh,aAd (by simp),e1,aAe,aBs (by simp;omega),cond_true,w2,aDh,aAc (by simp)]
 rfl
def dV (nodes:List Nd)(inp s:List Int):List Int:=nvG (inp++s) nodes nodes []
theorem cBq (hN:1000<=N)(h:DH N nm ins els nodes rules outs attrs)(hv:DV ins els nodes rules outs){inp s:List Int}(hi:LV (inW ins) inp)(hs:LV (elW els) s)(k:List Int->Option R) :
  aGh N nm ins els nodes rules outs attrs inp s k=k (dV nodes inp s):=by
 unfold aGh
 have h1:=hi.1;have h2:=hs.1;have h3:=h.ins;have h4:=h.els
 unfold inW at h1
 unfold elW at h2
 rw[List.length_map]at h1 h2
 rw[aTh h,cDX hN inp s (by omega) (by omega),bZx N hN h.nodes.2 hv.chk (bY8 hi hs)]
 rfl
theorem cDY (hv:DV ins els nodes rules outs){inp s:List Int}(hi:LV (inW ins) inp)(hs:LV (elW els) s):(dV nodes inp s).length=nodes.length∧∀ j,j<nodes.length->vok (aKu nodes j) (w0 (dV nodes inp s) j)=true:=
 cEP (bY8 hi hs) (aOj hv.chk).2.2.2
theorem bZr (hv:DV ins els nodes rules outs){inp s:List Int}(hi:LV (inW ins) inp)(hs:LV (elW els) s){n:Int}(hn:aNm nodes n=true):at? (dV nodes inp s) n=some (w0 (dV nodes inp s) n.toNat):=by
 have hn:=of_decide_eq_true hn
 have:=(cDY hv hi hs).1
 obtain⟨a,rfl⟩:∃ a:Nat,n=a:=⟨n.toNat,by omega⟩
 rw[Int.toNat_natCast];exact aLX (by omega)
def elI (els:List aAP):List Int:=els.map (·.2.2.2.1)
theorem bYV (N:Nat)(k0:List Int->Option R)(l:List aAP)(hl:l.length<=1000000):∀ (r:List aAP) (n i:Nat) (acc:List Int),l.drop i=r->r.length<n->acc.length<=i ->
  aDU N k0 n l l.length i acc=k0 (acc++elI r)
 | [],n,i,acc,h,hn,ha=>by
  obtain⟨n,rfl⟩:=sc hn
  rw[aDU,aAc (aAm h)]
  unfold elI
  rw[List.map_nil,List.append_nil]
 | x :: r,n,i,acc,h,hn,ha=>by
  obtain⟨n,rfl⟩:=sc hn
  obtain⟨h1,h2,h3⟩:=aAh h
  rw[aDU,aAd (by omega),h2,aAe,aBs (by omega),cond_true,aAl (by omega),bYV N k0 l hl r n (i+1) (acc++[x.2.2.2.1]) h3 (by simp at hn;omega) (by simp;omega),List.append_assoc]
  rfl
theorem cBe (hN:1000<=N)(h:DH N nm ins els nodes rules outs attrs)(k:KD (Int->Option R)):aIF N nm ins els nodes rules outs attrs k=k nm ins els nodes rules outs attrs (aHq nm ins els nodes rules outs attrs):=by
 unfold aIF
 obtain⟨j,e⟩:=aPK hN h (fun y1 y2=>k nm ins els nodes rules outs attrs y2)
 exact e
theorem bZQ (hN:1000<=N)(h:DH N nm ins els nodes rules outs attrs)(k:List Int->Int->Option R):aIC N nm ins els nodes rules outs attrs k=if aHq nm ins els nodes rules outs attrs=0 then k (elI els) 0 else k [] (aHq nm ins els nodes rules outs attrs):=by
 unfold aIC
 rw[cBe hN h]
 by_cases c:aHq nm ins els nodes rules outs attrs=0
 ·rw[aAc (by simp[c]),if_pos c]
  unfold aGA
  exact bYV N _ els h.els.1 els N 0 [] rfl h.els.2.1 (by simp)
 ·rw[aAd c,if_neg c]
theorem bY5 (hv:DV ins els nodes rules outs):LV (elW els) (elI els):=by
 unfold elW elI
 refine⟨by simp,fun i hi=>?_⟩
 have hi:i<els.length:=by simpa using hi
 rw[bZf hi,bZf hi]
 exact (hv.elsW _ (List.getElem_mem hi)).2.2.1
end
section
variable {N:Nat} {nm:ByteArray} {ins:List aAp} {els:List aAP} {nodes:List Nd} {rules:List aA1} {outs:List aAp} {attrs:List aCE}
def hap (V:List Int):List WrT->List Int->List Int
 | [],s=>s
 | x :: r,s=>hap V r (if w0 V x.2.1.toNat=1 then s.set x.1.toNat (w0 V x.2.2.toNat)else s)
theorem bY3 (N:Nat)(k:List Int->Option R)(V:List Int)(l:List WrT)(hl:l.length<=1000000)(m:Nat)(hV:∀ x,x∈l->(0<=x.1∧x.1<=(m:Int)-1)∧at? V x.2.1=some (w0 V x.2.1.toNat)∧at? V x.2.2=some (w0 V x.2.2.toNat)):∀ (r:List WrT) (n i:Nat) (s:List Int),l.drop i=r->r.length<n->s.length=m ->
  aCu N k n V l l.length i s=k (hap V r s)
 | [],n,i,s,h,hn,ha=>by
  obtain⟨n,rfl⟩:=sc hn
  rw[aCu,aAc (aAm h)];rfl
 | x :: r,n,i,s,h,hn,ha=>by
  obtain⟨n,rfl⟩:=sc hn
  obtain⟨h1,h2,h3⟩:=aAh h
  have hx:=hV x (List.mem_of_mem_drop (h▸List.mem_cons_self:x∈l.drop i))
  rw[aCu,aAd (by omega),h2,aAe,hx.2.1,aAe,aAl (by omega)]
  by_cases c:w0 V x.2.1.toNat=1
  ·rw[aAd c,hx.2.2,aAe,aSL hx.1.1 (by omega),cond_true,List.getElem?_eq_getElem (by omega),aAe,bY3 N k V l hl m hV r n (i+1) _ h3 (by simp at hn;omega) (by simpa using ha)]
   show _=k (hap V r (if _ then _ else _))
   rw[if_pos c]
  ·rw[aAc c,bY3 N k V l hl m hV r n (i+1) _ h3 (by simp at hn;omega) ha]
   show _=k (hap V r (if _ then _ else _))
   rw[if_neg c]
theorem cEY {s:List Int}{i j:Nat}(v:Int)(h:i<s.length):w0 (s.set i v) j=if i=j then v else w0 s j:=by
 unfold w0
 rw[List.getElem?_set]
 by_cases c:i=j
 ·subst c;rw[if_pos rfl,if_pos h,if_pos rfl];rfl
 ·rw[if_neg c,if_neg c]
theorem cBb {els:List aAP}{nodes:List Nd}{V:List Int}(hV:∀ j,j<nodes.length->vok (aKu nodes j) (w0 V j)=true):∀ (l:List WrT) (s:List Int),(∀ x,x∈l->bOa els nodes x)->LV (elW els) s->LV (elW els) (hap V l s)
 | [],s,_,hs=>hs
 | x :: r,s,hl,hs=>by
  show LV (elW els) (hap V r (if _ then _ else _))
  refine cBb hV r _ (fun y hy=>hl y (List.mem_cons_of_mem _ hy)) ?_
  split
  ·obtain⟨h1,h2,h3,h4⟩:=hl x List.mem_cons_self
   have h3:=of_decide_eq_true h3
   have hlen:(elW els).length=els.length:=by unfold elW;simp
   have hsl:=hs.1
   refine⟨by rw[List.length_set];exact hs.1,fun i hi=>?_⟩
   rw[cEY _ (by omega)]
   split
   ·rename_i e
    subst e
    have:=hV x.2.2.toNat (by omega)
    rw[show ((x.2.2.toNat:Nat):Int)=x.2.2 by omega,h4]at this
    have he:w0 (elW els) x.1.toNat=ewd els x.1:=by
     unfold elW ewd
     rw[bZf (by omega),List.getElem?_eq_getElem (by omega)];rfl
    rw[he];exact this
   ·exact hs.2 i hi
  ·exact hs
theorem bY9 (hN:1000<=N)(h:DH N nm ins els nodes rules outs attrs)(hc:aHq nm ins els nodes rules outs attrs=0){inp s:List Int}(hi:LV (inW ins) inp)(hs:LV (elW els) s){a:Nat}(ha:a<rules.length)(k:Int->List Int->Option R) :
  aH3 N nm ins els nodes rules outs attrs a inp s k=if w0 (dV nodes inp s) rules[a].2.1.toNat=1 then k 0 (hap (dV nodes inp s) rules[a].2.2 s)else k 24 []:=by
 have hv:=bEG hc
 have hr:=hv.nr
 have hx:=hv.rulesW _ (List.getElem_mem ha)
 have hg:=hx.1
 unfold aFw at hg
 rw[Bool.and_eq_true]at hg
 have hsl:=hs.1
 have he:=h.els
 unfold elW at hsl
 rw[List.length_map]at hsl
 unfold aH3
 rw[cBe hN h,hc]
 try dsimp only
 rw[aAd rfl]
 unfold aFR
 rw[aDt (by omega) (by omega),aG2,aCK,decide_eq_true (by omega),if_pos rfl,cEN h hv,cET h hv,valE_0.2 hi,valE_0.2 hs,aM0 N (by omega),aGq,aGq]
 unfold aFz
 rw[aAc (by simp),cBq hN h hv hi hs]
 unfold aFm
 rw[aHb ha,aAe,bZr hv hi hs hg.1,aAe]
 by_cases c:w0 (dV nodes inp s) rules[a].2.1.toNat=1
 ·rw[decide_eq_true c,if_pos c]
  try dsimp only
  rw[Bool.not_true,cond_false]
  unfold aFv
  rw[aBs (by omega),cond_true,aHb ha,aAe]
  exact bY3 N _ _ _ (by omega) els.length (fun y hy=>by
   obtain⟨q1,q2,q3,q4⟩:=hx.2.2 y hy
   unfold aFw at q2
   rw[Bool.and_eq_true]at q2
   exact⟨q1,bZr hv hi hs q2.1,bZr hv hi hs q3⟩) _ N 0 s rfl (by omega) hsl
 ·rw[decide_eq_false c,if_neg c];rfl
theorem bYN (hv:DV ins els nodes rules outs){inp s:List Int}(hi:LV (inW ins) inp)(hs:LV (elW els) s){a:Nat}(ha:a<rules.length):LV (elW els) (hap (dV nodes inp s) rules[a].2.2 s):=
 cBb (cDY hv hi hs).2 _ s (hv.rulesW _ (List.getElem_mem ha)).2.2 hs
end
theorem aD5 (N:Nat)(a lo hi:Int)(k:Bool->Option R):aAz N a lo hi k=k (decide (lo<=a∧a<=hi)):=by
 unfold aAz
 by_cases h:lo<=a <;> simp[h]
theorem aYr (N:Nat){n:Int}(h0:0<=n)(h:n<=40)(k:Int->Option R):aEO N n k=k (p2 n):=by
 unfold aEO;rw[aAc (by omega),aVr h0 h]
theorem aSq (N:Nat)(n:Int){w:Int}(h0:0<=w)(h:w<=16)(k:Bool->Option R):aEg N n w k=k (vok w n):=by
 have:=aQ8 w;have:=bDz h
 unfold aEg vok;rw[aYr N h0 (by omega),aD5,aDt (by omega) (by omega)]
theorem cBC {w n:Int}(hw:1<=w)(h:vok w n=true):- p2 (w-1)<=sg w n∧sg w n<=p2 (w-1)-1:=by
 have:=of_decide_eq_true h
 have h1:=bZv hw
 unfold sg;split <;> omega
theorem bYK (N:Nat){w:Int}(n:Int)(h0:1<=w)(h:w<=16)(hn:0<=n∧n<=65536)(k:Int->Option R):bXF N n w k=k (sg w n):=by
 have h1:=bZv h0
 have h2:=bDz h
 have h3:=aQ8 (w-1)
 unfold bXF sg
 rw[aDt (x:=w-1) (by omega) (by omega),aYr N (by omega) (by omega)]
 by_cases c:p2 (w-1)<=n
 ·rw[aAd c,aYr N (by omega) (by omega),if_pos c,aDt (by omega) (by omega)]
 ·rw[aAc c,if_neg c]
theorem aK2 (N:Nat)(l:List Int)(hl:l.length<=1000000)(k:List Int->Option R):aCX N l k=k l:=by
 unfold aCX;rw[aBs (by omega)];rfl
theorem cBE {n d:Int}(hd:0<d):n%d=if Int.tmod n d<0 then Int.tmod n d+d else Int.tmod n d:=by
 have h1:=Int.mul_tdiv_add_tmod n d
 have h2:Int.tmod n d<d:=Int.tmod_lt_of_pos n hd
 have h3:-d<Int.tmod n d:=Int.lt_tmod_of_pos n hd
 split
 ·exact ((Int.ediv_emod_unique (q:=Int.tdiv n d-1) (r:=Int.tmod n d+d) hd).2 ⟨by rw[Int.mul_sub,Int.mul_one];omega,by omega,by omega⟩).2
 ·exact ((Int.ediv_emod_unique (q:=Int.tdiv n d) (r:=Int.tmod n d) hd).2 ⟨by omega,by omega,by omega⟩).2
theorem cEz (N:Nat)(n d:Int)(hd:0<d)(hd2:d<=4294967296)(k:Int->Option R):bYh N n d k=k (n%d):=by
 have hf:=cBE (n:=n) hd
 have h3:=Int.emod_nonneg n (show d≠0 by omega)
 have h4:=Int.emod_lt_of_pos n hd
 unfold bYh
 rw[aAc (by omega)]
 by_cases c:Int.tmod n d<0
 ·rw[if_pos c]at hf;rw[aAd c,aDt (by omega) (by omega),hf]
 ·rw[if_neg c]at hf;rw[aAc c,hf]
theorem cEO {S:List ByteArray}{s:ByteArray}(h:aNU S s=0):nmB s=true∧inS s S=false:=by
 unfold aNU at h
 split at h
 ·split at h
  ·cases h
  ·rename_i h1 h2;exact⟨h1,Bool.eq_false_iff.2 h2⟩
 ·cases h
theorem bK5 {w:List Int}(h:(w.length:Int)=1):∃ a,w=[a]:=by
 match w,h with
 | [a],_=>exact⟨a,rfl⟩
 | [],h=>cases h
 | _ :: _ :: _,h=>simp at h;omega
theorem aRX {w:List Int}(h:(w.length:Int)=2):∃ a b,w=[a,b]:=by
 match w,h with
 | [a,b],_=>exact⟨a,b,rfl⟩
 | [],h=>cases h
 | [_],h=>cases h
 | _ :: _ :: _ :: _,h=>simp at h;omega
theorem bVT {w:List Int}(h:(w.length:Int)=3):∃ a b c,w=[a,b,c]:=by
 match w,h with
 | [a,b,c],_=>exact⟨a,b,c,rfl⟩
 | [],h=>cases h
 | [_],h=>cases h
 | [_,_],h=>cases h
 | _ :: _ :: _ :: _ :: _,h=>simp at h;omega
section
variable {N:Nat} (nm:ByteArray) (ins:List aAp) {els:List aAP} {nodes:List Nd} (l:List aA1) (outs:List aAp) (attrs:List aCE)
end
theorem cB5 (N:Nat)(b:Bool)(k:Int->Option R):bXi N b k=k (b2i b):=by cases b <;> rfl
theorem bZR {n:Int}(P:Int)(h:0<=n):Int.tmod n P=n%P:=Int.tmod_eq_emod_of_nonneg h
theorem cEV {n:Int}(P:Int)(h:0<=n):Int.tdiv n P=n/P:=Int.tdiv_eq_ediv_of_nonneg h
theorem VS1 {a b:Int}(h:VS [a] [b]):(1<=a∧a<=16)∧vok a b=true:=h.2 0 (by simp)
theorem VS2 {a b x y:Int}(h:VS [a,b] [x,y]):((1<=a∧a<=16)∧vok a x=true)∧(1<=b∧b<=16)∧vok b y=true:=⟨h.2 0 (by simp),h.2 1 (by simp)⟩
theorem cBy {w a:List Int}(hl:(w.length:Int)=1)(h:VS w a):∃ p x,w=[p]∧a=[x]:=by
 obtain⟨p,rfl⟩:=bK5 hl
 obtain⟨x,rfl⟩:=bK5 (w:=a) (by rw[<- h.1];rfl)
 exact⟨p,x,rfl,rfl⟩
theorem bYI {w a:List Int}(hl:(w.length:Int)=2)(h:VS w a):∃ p q x y,w=[p,q]∧a=[x,y]:=by
 obtain⟨p,q,rfl⟩:=aRX hl
 obtain⟨x,y,rfl⟩:=aRX (w:=a) (by rw[<- h.1];rfl)
 exact⟨p,q,x,y,rfl,rfl⟩
theorem cFa {w a:List Int}(hl:(w.length:Int)=3)(h:VS w a):∃ p q r x y z,w=[p,q,r]∧a=[x,y,z]:=by
 obtain⟨p,q,r,rfl⟩:=bVT hl
 obtain⟨x,y,z,rfl⟩:=bVT (w:=a) (by rw[<- h.1];rfl)
 exact⟨p,q,r,x,y,z,rfl,rfl⟩
theorem a0 (x:Int)(l:List Int):at? (x :: l) 0=some x:=rfl
theorem a1 (x y:Int)(l:List Int):at? (x :: y :: l) 1=some y:=rfl
theorem a2 (x y z:Int)(l:List Int):at? (x :: y :: z :: l) 2=some z:=rfl
theorem cEA (N:Nat)(args lv:List Int){op wd v:Int}{w a:List Int}(h0:0<=op∧op<=18)(h1:op≠1)(hw:wOK wd=true)(hl:(w.length:Int)=aOs op)(hv:aJg [] op wd v=0)(hf:aJ5 op wd v w=true)(hs:VS w a)(k:Int->Option R) :
  bXV N op wd args v a w lv k=k (apS op wd v w a):=by
 have hwd:=of_decide_eq_true hw
 have hP:=aQ8 wd;have hP2:=bDz hwd.2
 unfold bXV
 rw[aYr N (by omega) (by omega)]
 have hop:op=18∨op=17∨op=16∨op=15∨op=14∨op=13∨op=12∨op=11∨op=10∨op=9∨op=8∨op=7∨op=6∨op=5∨op=4∨op=3∨op=2∨op=0:=by omega
 rcases hop with rfl | rfl | rfl | rfl | rfl | rfl | rfl | rfl | rfl | rfl | rfl | rfl | rfl | rfl | rfl | rfl | rfl | rfl
 all_goals simp only[Int.reduceEq,decide_true,decide_false,cond_true,cond_false]
 ·obtain⟨p,q,x,y,rfl,rfl⟩:=bYI hl hs
  obtain⟨s1,s2⟩:=VS2 hs
  have r1:=bYm s1.1.2 s1.2;have r2:=bYm s2.1.2 s2.2
  have hy:=aQ8 y
  rw[a1,aAe,a0,aAe,aAe]
  show _=k (if wd<=y then 0 else x/p2 y)
  by_cases c:wd<=y
  ·rw[aAd c,if_pos c]
  ·have e1:=Int.ediv_nonneg r1.1 (show 0<=p2 y by omega)
   have e2:=Int.ediv_le_self (p2 y) r1.1
   rw[aAc c,if_neg c,aYr N (by omega) (by omega),aAc (by omega),cEV _ r1.1,aDt (by omega) (by omega)]
 ·obtain⟨p,q,x,y,rfl,rfl⟩:=bYI hl hs
  obtain⟨s1,s2⟩:=VS2 hs
  have r1:=bYm s1.1.2 s1.2;have r2:=bYm s2.1.2 s2.2
  have hy:=aQ8 y
  rw[a1,aAe,a0,aAe,aAe]
  show _=k (if wd<=y then 0 else x*p2 y%p2 wd)
  by_cases c:wd<=y
  ·rw[aAd c,if_pos c]
  ·have hy2:=bDz (n:=y) (by omega)
   have e:=bYA r1.1 r1.2 (show 0<=p2 y by omega) hy2
   rw[aAc c,if_neg c,aYr N (by omega) (by omega),aAc (by omega),aDt (by omega) (by omega),bZR _ e.1]
 ·obtain⟨p,x,rfl,rfl⟩:=cBy hl hs
  have s1:=VS1 hs
  have r1:=bYm s1.1.2 s1.2
  have hf:p<=wd:=of_decide_eq_true hf
  have g:=cBC s1.1.1 s1.2
  have g2:=bJV (show p-1<=wd by omega)
  rw[a0,aAe,a0,aAe,bYK N x s1.1.1 s1.1.2 (by omega),aAc (by omega),aDt (by omega) (by omega),bZR _ (by omega),Int.add_emod_right]
  rfl
 ·obtain⟨p,x,rfl,rfl⟩:=cBy hl hs
  rfl
 ·obtain⟨p,x,rfl,rfl⟩:=cBy hl hs
  have s1:=VS1 hs
  have r1:=bYm s1.1.2 s1.2
  have hv:0<=v∧v<=15:=if0 (by decide) (show (if 0<=v∧v<=15 then (0:Int)else 2)=0 from hv)
  have hy:=aQ8 v
  have e1:=Int.ediv_nonneg r1.1 (show 0<=p2 v by omega)
  have e2:=Int.ediv_le_self (p2 v) r1.1
  rw[a0,aAe,aYr N (by omega) (by omega),aAc (by omega),aAc (by omega),cEV _ r1.1,aDt (by omega) (by omega),bZR _ e1]
  rfl
 ·obtain⟨p,q,x,y,rfl,rfl⟩:=bYI hl hs
  obtain⟨s1,s2⟩:=VS2 hs
  have r1:=bYm s1.1.2 s1.2;have r2:=bYm s2.1.2 s2.2
  have hq:=aQ8 q;have hq2:=bDz s2.1.2
  have e:=bYA r1.1 r1.2 (show 0<=p2 q by omega) hq2
  rw[a0,aAe,a1,aAe,aYr N (by omega) (by omega),a1,aAe,aDt (x:=x*p2 q) (by omega) (by omega),aDt (by omega) (by omega)]
  rfl
 ·obtain⟨p,q,r,x,y,z,rfl,rfl⟩:=cFa hl hs
  rw[a0,aAe,a1,aAe,a2,aAe]
  show _=k (if x=1 then y else z)
  by_cases c:x=1
  ·rw[aAd c,if_pos c]
  ·rw[aAc c,if_neg c]
 ·obtain⟨p,q,x,y,rfl,rfl⟩:=bYI hl hs
  obtain⟨s1,s2⟩:=VS2 hs
  have r1:=bYm s1.1.2 s1.2;have r2:=bYm s2.1.2 s2.2
  have hf:wd=1∧p=q:=of_decide_eq_true hf
  rw[a0,aAe,a0,aAe,bYK N x s1.1.1 s1.1.2 (by omega),a1,aAe,a1,aAe,bYK N y s2.1.1 s2.1.2 (by omega),cB5,<- hf.2]
  rfl
 ·obtain⟨p,q,x,y,rfl,rfl⟩:=bYI hl hs
  rw[a0,aAe,a1,aAe,cB5];rfl
 ·obtain⟨p,q,x,y,rfl,rfl⟩:=bYI hl hs
  rw[a0,aAe,a1,aAe,cB5];rfl
 ·obtain⟨p,q,x,y,rfl,rfl⟩:=bYI hl hs
  obtain⟨s1,s2⟩:=VS2 hs
  have r1:=bYm s1.1.2 s1.2;have r2:=bYm s2.1.2 s2.2
  have e:=bYA r1.1 r1.2 r2.1 r2.2
  rw[a0,aAe,a1,aAe,aAc (by omega),aDt (by omega) (by omega),bZR _ e.1];rfl
 ·obtain⟨p,q,x,y,rfl,rfl⟩:=bYI hl hs
  obtain⟨s1,s2⟩:=VS2 hs
  have r1:=bYm s1.1.2 s1.2
  have e1:q=wd:=bXJ hf (i:=1) (by simp)
  rw[e1]at s2
  have r2:=bZe s2.2
  rw[a0,aAe,a1,aAe,aAc (by omega),aDt (x:=x-y) (by omega) (by omega),aDt (by omega) (by omega),bZR _ (by omega),Int.add_emod_right];rfl
 ·obtain⟨p,q,x,y,rfl,rfl⟩:=bYI hl hs
  obtain⟨s1,s2⟩:=VS2 hs
  have r1:=bYm s1.1.2 s1.2;have r2:=bYm s2.1.2 s2.2
  rw[a0,aAe,a1,aAe,aAc (by omega),aDt (by omega) (by omega),bZR _ (by omega)];rfl
 ·obtain⟨p,q,x,y,rfl,rfl⟩:=bYI hl hs
  rfl
 ·obtain⟨p,q,x,y,rfl,rfl⟩:=bYI hl hs
  rfl
 ·obtain⟨p,q,x,y,rfl,rfl⟩:=bYI hl hs
  rfl
 ·obtain⟨p,x,rfl,rfl⟩:=cBy hl hs
  have s1:=VS1 hs
  have e1:p=wd:=bXJ hf (i:=0) (by simp)
  rw[e1]at s1
  have r1:=bZe s1.2
  rw[a0,aAe,aDt (x:=p2 wd-1) (by omega) (by omega),aDt (by omega) (by omega)];rfl
 ·rfl
theorem cB6 (N:Nat)(k0:List Nd->List Int->Int->List Int->List Int->List Int->Option R)(nodes:List Nd)(lv out:List Int){i:Nat}{x:Nd}(hx:at? nodes (i:Int)=some x)(hi:i<nodes.length)(ho:i<=out.length)(ha:x.2.2.1.length<=3):∀ (r:List Int) (n j:Nat) (a w:List Int),x.2.2.1.drop j=r->r.length<n->a.length<=j->w.length<=j->aNS i r=false ->
  bXa N k0 n nodes lv i j out a w=k0 nodes lv i out (a++r.map fun y=>w0 out y.toNat) (w++r.map (aKu nodes))
 | [],n,j,a,w,h,hn,h1,h2,hod=>by
  obtain⟨n,rfl⟩:=sc hn
  rw[bXa,hx,aAe,aAc (aAm h),List.map_nil,List.append_nil,List.map_nil,List.append_nil]
 | y :: r,n,j,a,w,h,hn,h1,h2,hod=>by
  obtain⟨n,rfl⟩:=sc hn
  obtain⟨q1,q2,q3⟩:=aAh h
  unfold aNS at hod
  rw[List.any_cons,Bool.or_eq_false_iff]at hod
  have hy:0<=y∧y<=(i:Int)-1:=by simpa using hod.1
  obtain⟨b,rfl⟩:∃ b:Nat,y=b:=⟨y.toNat,by omega⟩
  have hb1:b<nodes.length:=by omega
  have hb2:b<out.length:=by omega
  rw[bXa]
  simp only[hx,aAe,q2]
  rw[aAd (by omega),aSL (by omega) (by omega),cond_true,Int.toNat_natCast,List.getElem?_eq_getElem hb2,aAe,aBs (by omega),cond_true,aHb hb1,aAe,aBs (by omega),cond_true,aAl (by omega)]
  refine (cB6 N k0 nodes lv out hx hi ho ha r n (j+1) _ _ q3 (by simp at hn;omega) (by simp;omega) (by simp;omega) hod.2).trans ?_
  rw[List.map_cons,List.map_cons,List.append_assoc,List.append_assoc,Int.toNat_natCast,cBF hb2]
  unfold aKu
  rw[Int.toNat_natCast,List.getElem?_eq_getElem hb1]
  rfl
theorem cD6 {l m:List Int}{i:Nat}(h:i<l.length):w0 (l++m) i=w0 l i:=by unfold w0;rw[List.getElem?_append_left h]
theorem bZG (N:Nat)(hN:1000<=N)(k:List Int->Option R){lw lv:List Int}(hL:LV lw lv){nodes:List Nd}(hn:nodes.length<=1000000):∀ (r:List Nd) (n i:Nat) (acc:List Int),nodes.drop i=r->r.length<n->VI lw nodes i acc->aGZ lw nodes i r=0 ->
  bW0 N k n nodes lv i (acc++List.replicate r.length 0)=k (nvG lv nodes r acc)
 | [],n,i,acc,h,hr,hv,hc=>by
  obtain⟨n,rfl⟩:=sc hr
  rw[bW0,aAc (aAm h)]
  show k (acc++[])=k acc
  rw[List.append_nil]
 | x :: r,n,i,acc,h,hr,hv,hc=>by
  obtain⟨n,rfl⟩:=sc hr
  obtain⟨h1,h2,h3⟩:=aAh h
  rw[aIL,f1_0]at hc
  obtain⟨g1,g2,g3,g4,g5,g6⟩:=aPs hc.1
  have hlen:=hv.len
  have ha:=aZS x.1
  rw[bW0,aAd (by omega)]
  refine (cB6 N _ nodes lv _ h2 h1 (by simp;omega) (by omega) x.2.2.1 N 0 [] [] rfl (by omega) (by simp) (by simp) g4).trans ?_
  try dsimp only
  rw[List.nil_append,List.nil_append,h2,aAe]
  have em:(x.2.2.1.map fun y=>w0 (acc++List.replicate (x :: r).length 0) y.toNat)=x.2.2.1.map fun y=>w0 acc y.toNat:=by
   refine List.map_congr_left fun y hy=>?_
   have:=List.any_eq_false.1 g4 y hy
   have:0<=y∧y<=(i:Int)-1:=by simpa using this
   exact cD6 (by omega)
  have fin:∀ z,z=nv1 lv nodes acc x->(bif inR (i:Int) (acc++List.replicate (x :: r).length 0).length then (((acc++List.replicate (x :: r).length 0)[((i:Int)).toNat]?).bind fun x16=>(bW0 N k n nodes lv (w64 ((i:Int)+1)) (List.set (acc++List.replicate (x :: r).length 0) ((i:Int)).toNat z)))else none)=k (nvG lv nodes (x :: r) acc):=by
   rintro z rfl
   have hl:i<(acc++List.replicate (x :: r).length 0).length:=by simp;omega
   rw[aSL (by omega) (by omega),cond_true,Int.toNat_natCast,List.getElem?_eq_getElem hl,aAe,aAl (by omega),bY4,<- bZG N hN k hL hn r n (i+1) _ h3 (by simp at hr;omega) (bZo hL hv h hc.1) hc.2]
   congr 1
   rw[List.set_append_right _ _ (by omega),hlen,Nat.sub_self,List.append_assoc]
   rfl
  by_cases c:x.1=1
  ·have hw:=of_decide_eq_true g2
   unfold bXV
   rw[aYr N (by omega) (by omega),c]
   simp only[Int.reduceEq,decide_true,decide_false,cond_true,cond_false]
   rw[c]at g5
   have h5:(if 0<=x.2.2.2∧x.2.2.2<=(lw.length:Int)-1 then (if lw[x.2.2.2.toNat]? = some x.2.1 then (0:Int)else 25)else 6)=0:=g5
   have hb:0<=x.2.2.2∧x.2.2.2<=(lw.length:Int)-1:=by
    split at h5
    ·assumption
    ·cases h5
   have hll:=hL.1
   obtain⟨b,hb2⟩:∃ b:Nat,x.2.2.2=b:=⟨x.2.2.2.toNat,by omega⟩
   rw[hb2,aLX (w:=lv) (by omega),aAe]
   refine fin _ ?_
   unfold nv1
   rw[if_pos c,hb2,Int.toNat_natCast]
  ·rw[em,cEA N _ lv g1 c g2 (by rw[List.length_map];exact g3) ((bYP c).trans g5) g6 (bZn hv g4)]
   refine fin _ ?_
   unfold nv1
   rw[if_neg c]
theorem bZq {N:Nat}(hN:1000<=N){lw lv:List Int}(hL:LV lw lv){nodes:List Nd}(hc:aQR lw nodes=0)(k:List Int->Option R):bXg N nodes lv k=k (nvG lv nodes nodes []):=by
 obtain⟨h1,h2,h3,h4⟩:=aOj hc
 unfold bXg
 rw[aAd (by omega),aBs (by omega),cond_true]
 exact bZG N hN k hL (by omega) nodes N 0 [] rfl (by omega) (cE9 lw nodes) h4
section
variable {N:Nat} {nm:ByteArray} {ins:List aAp} {els:List aAP} {nodes:List Nd} {rules:List aA1} {outs:List aAp} {attrs:List aCE}
theorem bYH (k:List Int->Option R)(hl:els.length<=1000000):∀ (r:List aAP) (n i:Nat) (acc:List Int),els.drop i=r->r.length<n->acc.length=i ->
  bXk N k n i nm ins els nodes rules outs attrs (acc++List.replicate r.length 0)=k (acc++elI r)
 | [],n,i,acc,h,hr,ha=>by
  obtain⟨n,rfl⟩:=sc hr
  rw[bXk,aAc (aAm h)];rfl
 | x :: r,n,i,acc,h,hr,ha=>by
  obtain⟨n,rfl⟩:=sc hr
  obtain⟨h1,h2,h3⟩:=aAh h
  have hl':i<(acc++List.replicate (x :: r).length 0).length:=by simp;omega
  rw[bXk,aAd (by omega),h2,aAe,aSL (by omega) (by omega),cond_true,Int.toNat_natCast,List.getElem?_eq_getElem hl',aAe,aAl (by omega),List.set_append_right _ _ (by omega),ha,Nat.sub_self]
  have:=bYH k hl r n (i+1) (acc++[x.2.2.2.1]) h3 (by simp at hr;omega) (by simp[ha])
  rw[List.append_assoc,List.append_assoc]at this
  exact this
theorem cDW (hN:els.length<N)(hl:els.length<=1000000)(k:List Int->Option R):bX3 N nm ins els nodes rules outs attrs k=k (elI els):=by
 unfold bX3
 rw[aAd (by omega),aBs (by omega),cond_true]
 exact bYH k hl els N 0 [] rfl (by omega) rfl
theorem cA4 {a b:List Int}(ha:a.length<=1000)(hb:b.length<=1000)(k:List Int->Option R):bXf N a b k=k (a++b):=by
 unfold bXf
 rw[aK2 N a (by omega),aBs (by omega),cond_true]
theorem bZt (hv:DV ins els nodes rules outs){inp s:List Int}(hi:LV (inW ins) inp)(hs:LV (elW els) s):inp.length<=1000∧s.length<=1000:=by
 have h1:=hi.1;have h2:=hs.1;have h3:=(aOj hv.chk).1
 unfold aIV at h3
 unfold inW at h1
 unfold elW at h2
 rw[List.length_append,<- h1,<- h2]at h3
 omega
theorem cBA (hN:1000<=N)(hv:DV ins els nodes rules outs){inp s:List Int}(hi:LV (inW ins) inp)(hs:LV (elW els) s){a:Nat}(ha:a<rules.length)(k:Bool->Option R) :
  bXY N nm ins els nodes rules outs attrs a inp s k=k (decide (w0 (dV nodes inp s) rules[a].2.1.toNat=1)):=by
 obtain⟨l1,l2⟩:=bZt hv hi hs
 have hg:=(hv.rulesW _ (List.getElem_mem ha)).1
 unfold aFw at hg
 rw[Bool.and_eq_true]at hg
 unfold bXY
 rw[cA4 l1 l2,bZq hN (bY8 hi hs) hv.chk,aHb ha,aAe,show nvG (inp++s) nodes nodes []=dV nodes inp s from rfl,bZr hv hi hs hg.1,aAe]
theorem bYL (k:List Int->Option R)(V:List Int)(l:List WrT)(hl:l.length<=1000000)(m:Nat)(hV:∀ x,x∈l->(0<=x.1∧x.1<=(m:Int)-1)∧at? V x.2.1=some (w0 V x.2.1.toNat)∧at? V x.2.2=some (w0 V x.2.2.toNat)):∀ (r:List WrT) (n i:Nat) (s:List Int),l.drop i=r->r.length<n->s.length=m ->
  bW9 N k n V l i s=k (hap V r s)
 | [],n,i,s,h,hn,ha=>by
  obtain⟨n,rfl⟩:=sc hn
  rw[bW9,aAc (aAm h)];rfl
 | x :: r,n,i,s,h,hn,ha=>by
  obtain⟨n,rfl⟩:=sc hn
  obtain⟨h1,h2,h3⟩:=aAh h
  have hx:=hV x (List.mem_of_mem_drop (h▸List.mem_cons_self:x∈l.drop i))
  rw[bW9,aAd (by omega)]
  simp only[h2,aAe,hx.2.1,hx.2.2]
  rw[aAl (by omega)]
  by_cases c:w0 V x.2.1.toNat=1
  ·rw[aAd c,aSL hx.1.1 (by omega),cond_true,List.getElem?_eq_getElem (by omega),aAe,bYL k V l hl m hV r n (i+1) _ h3 (by simp at hn;omega) (by simpa using ha)]
   show _=k (hap V r (if _ then _ else _))
   rw[if_pos c]
  ·rw[aAc c,bYL k V l hl m hV r n (i+1) _ h3 (by simp at hn;omega) ha]
   show _=k (hap V r (if _ then _ else _))
   rw[if_neg c]
theorem cA3 (hN:1000<=N)(hv:DV ins els nodes rules outs){inp s:List Int}(hi:LV (inW ins) inp)(hs:LV (elW els) s){a:Nat}(ha:a<rules.length)(k:List Int->Option R) :
  bXT N nm ins els nodes rules outs attrs a inp s k=k (hap (dV nodes inp s) rules[a].2.2 s):=by
 obtain⟨l1,l2⟩:=bZt hv hi hs
 have hx:=hv.rulesW _ (List.getElem_mem ha)
 have hsl:=hs.1
 unfold elW at hsl
 rw[List.length_map]at hsl
 unfold bXT
 rw[cA4 l1 l2,bZq hN (bY8 hi hs) hv.chk,aK2 N s (by omega),aHb ha,aAe,show nvG (inp++s) nodes nodes []=dV nodes inp s from rfl]
 refine bYL k _ _ (by omega) els.length (fun y hy=>?_) _ N 0 s rfl (by omega) hsl
 obtain⟨q1,q2,q3,q4⟩:=hx.2.2 y hy
 unfold aFw at q2
 rw[Bool.and_eq_true]at q2
 exact⟨q1,bZr hv hi hs q2.1,bZr hv hi hs q3⟩
end
section
variable {N:Nat} (nm:ByteArray) (ins:List aAp) {els:List aAP} {nodes:List Nd} (l:List aA1) (outs:List aAp) (attrs:List aCE)
end
section
variable {N:Nat} (nm:ByteArray) (ins:List aAp) {els:List aAP} {nodes:List Nd} (rules:List aA1) (outs:List aAp) (attrs:List aCE)
end
def aKw (els:List aAP)(i:Int):Int:=((els[i.toNat]?).map (·.2.2.2.2)).getD 0
def aNQ (els:List aAP)(wr:List WrT):Int:=match wr with
 | []=>-1
 | y :: _=>aKw els y.1
def aHz (els:List aAP)(wr:List WrT):Bool:=wr.any fun w=>decide (aKw els w.1≠aNQ els wr)
def aDI (els:List aAP)(rules:List aA1):Int:=if (rules.any fun x=>aHz els x.2.2)=true then 30 else 0
theorem aLM {els:List aAP}{i:Int}(h0:0<=i)(h1:i<=(els.length:Int)-1):∃ e,e∈els∧at? els i=some e∧e.2.2.2.2=aKw els i:=by
 obtain⟨a,rfl⟩:∃ a:Nat,i=a:=⟨i.toNat,by omega⟩
 have ha:a<els.length:=by omega
 refine⟨els[a],List.getElem_mem _,aHb ha,?_⟩
 unfold aKw
 rw[Int.toNat_natCast,List.getElem?_eq_getElem ha];rfl
def WIn (els:List aAP)(wr:List WrT):Prop:=∀ x,x∈wr->0<=x.1∧x.1<=(els.length:Int)-1
section
variable (N:Nat) {nm:ByteArray} {ins:List aAp} {els:List aAP} {nodes:List Nd} {rules:List aA1} {outs:List aAp} {attrs:List aCE} {lw:List Int}
theorem bQz {i:Int}(h0:0<=i)(h1:i<=(els.length:Int)-1)(k:Int->KD (List Int->Option R)):aCY N i nm ins els nodes rules outs attrs lw k=k (aKw els i) nm ins els nodes rules outs attrs lw:=by
 obtain⟨e,_,h2,h3⟩:=aLM h0 h1
 unfold aCY
 rw[h2,aAe,h3]
theorem bIj {i:Int}(h0:0<=i)(h1:i<=(els.length:Int)-1)(k:Int->Option R):aAQ N nm ins els nodes rules outs attrs lw i k=k (aKw els i):=by
 obtain⟨e,_,h2,h3⟩:=aLM h0 h1
 unfold aAQ
 rw[h2,aAe,h3]
theorem bKO (k0:Int->KD (List Int->ByteArray->Int->List WrT->Option R))(k1:KD (List Int->ByteArray->Int->List WrT->Option R))(s:ByteArray)(g:Int)(wr:List WrT)(hl:wr.length<=1000000)(hW:WIn els wr)(y:WrT)(hy:at? wr 0=some y)(hd:aNQ els wr=aKw els y.1)(hyW:0<=y.1∧y.1<=(els.length:Int)-1):∀ (r:List WrT) (n i:Nat),wr.drop i=r->r.length<n->(∀ x,x∈r->x∈wr) ->
  ∃ j:Nat,aAk N k0 k1 n wr wr.length i nm ins els nodes rules outs attrs lw s g wr=if (r.any fun w=>decide (aKw els w.1≠aNQ els wr))=true then k0 j nm ins els nodes rules outs attrs lw s g wr else k1 nm ins els nodes rules outs attrs lw s g wr
 | [],n,i,h,hn,hm=>by
  obtain⟨n,rfl⟩:=sc hn
  exact⟨0,by rw[aAk,aAc (aAm h)];rfl⟩
 | x :: r,n,i,h,hn,hm=>by
  obtain⟨n,rfl⟩:=sc hn
  obtain⟨g1,g2,g3⟩:=aAh h
  have hx:=hW x (hm x List.mem_cons_self)
  rw[aAk,aAd (by omega),g2,aAe,aFl,bQz N hx.1 hx.2,hy,aAe,bQz N hyW.1 hyW.2,<- hd]
  by_cases c:aKw els x.1≠aNQ els wr
  ·exact⟨i,by rw[aAd c,List.any_cons,decide_eq_true c,Bool.true_or,if_pos rfl]⟩
  ·rw[aAc c,List.any_cons,decide_eq_false c,Bool.false_or,aAl (by omega)]
   exact bKO k0 k1 s g wr hl hW y hy hd hyW r n (i+1) g3 (by simp at hn;omega) fun z hz=>hm z (List.mem_cons_of_mem _ hz)
theorem bJB {wr:List WrT}(hl:wr.length<=1000000)(hN:wr.length<N)(hW:WIn els wr)(i:Int)(s:ByteArray)(g:Int)(k:Int->KD (List Int->Option R)):aFe N i s g wr nm ins els nodes rules outs attrs lw k=k (if aHz els wr=true then 30 else 0) nm ins els nodes rules outs attrs lw:=by
 have key:aAO N wr nm ins els nodes rules outs attrs lw s g wr (fun y1 y2 y3 y4 y5 y6 y7 y8 y9 y10 y11 y12=>(aA8 N (!y1) 30 (fun y13=>(k y13 y2 y3 y4 y5 y6 y7 y8 y9))))=aA8 N (!aHz els wr) 30 (fun y13=>k y13 nm ins els nodes rules outs attrs lw):=by
  unfold aAO aBn
  cases wr with
  | nil=>
   obtain⟨n,rfl⟩:∃ m,N=m+1:=⟨N-1,by simp at hN;omega⟩
   rw[aAk,aAc (by simp)]
   rfl
  | cons y t=>
   obtain⟨j,e⟩:=bKO (nm:=nm) (ins:=ins) (nodes:=nodes) (rules:=rules) (outs:=outs) (attrs:=attrs) (lw:=lw) N (fun y1 y2 y3 y4 y5 y6 y7 y8 y9 y10 y11 y12=>(aA8 N (!decide (0<=y1)) 30 (fun y13=>(k y13 y2 y3 y4 y5 y6 y7 y8 y9)))) (fun z26 z27 z28 z29 z30 z31 z32 z33 z34 z35 z36=>(aA8 N (!decide ((0:Int)<=-1)) 30 (fun y13=>(k y13 z26 z27 z28 z29 z30 z31 z32 z33)))) s g (y :: t) hl hW y rfl rfl (hW y List.mem_cons_self) (y :: t) N 0 rfl hN (fun x hx=>hx)
   refine e.trans ?_
   show _=aA8 N (!((y :: t).any fun w=>decide (aKw els w.1≠aNQ els (y :: t)))) 30 _
   cases c:((y :: t).any fun w=>decide (aKw els w.1≠aNQ els (y :: t)))
   ·rw[if_neg (by simp)];rfl
   ·rw[if_pos rfl,decide_eq_true (by omega)]
 unfold aFe
 rw[key]
 unfold aA8
 cases aHz els wr <;> rfl
theorem aZi (k0:Int->KD (List Int->Option R))(k1:KD (List Int->Option R))(l:List aA1)(hl:l.length<=1000000)(hW:∀ x,x∈l->x.2.2.length<=1000000∧x.2.2.length<N∧WIn els x.2.2):∀ (r:List aA1) (n i:Nat),l.drop i=r->r.length<n ->
  aA2 N k0 k1 n l l.length i nm ins els nodes rules outs attrs lw=if aDI els r=0 then k1 nm ins els nodes rules outs attrs lw else k0 (aDI els r) nm ins els nodes rules outs attrs lw
 | [],n,i,h,hn=>by
  obtain⟨n,rfl⟩:=sc hn
  rw[aA2,aAc (aAm h)];rfl
 | x :: r,n,i,h,hn=>by
  obtain⟨n,rfl⟩:=sc hn
  obtain⟨g1,g2,g3⟩:=aAh h
  have hx:l[i]? = some x:=by rw[<- g2];unfold at?;simp
  obtain⟨q1,q2,q3⟩:=hW x (List.mem_of_getElem? hx)
  rw[aA2,aAd (by omega),g2,aAe,bJB N q1 q2 q3]
  cases c:aHz els x.2.2
  ·rw[if_neg (by simp),aAc (by simp),aAl (by omega),aZi k0 k1 l hl hW r n (i+1) g3 (by simp at hn;omega)]
   unfold aDI
   rw[List.any_cons,c,Bool.false_or]
  ·rw[if_pos rfl,aAd (by decide)]
   unfold aDI
   rw[List.any_cons,c,Bool.true_or,if_pos rfl,if_neg (by decide)]
end
theorem aLw:∀ {l:List aAP} {S:List ByteArray},aFn S l=0->∀ x,x∈l->0<=x.2.2.2.2∧x.2.2.2.2<=3
 | [],S,_,x,hx=>absurd hx (by simp)
 | y :: r,S,h,x,hx=>by
  obtain⟨c1,c2⟩:=f1_0.1 (show f1 (aPr S y) (aFn (y.1 :: S) r)=0 from h)
  rcases List.mem_cons.1 hx with rfl | hx
  ·obtain⟨_,c4⟩:=f1_0.1 (show f1 _ _=0 from c1)
   exact (if0 (by decide) c4).2
  ·exact aLw c2 x hx
def aHS (nm:ByteArray)(ins:List aAp)(els:List aAP)(nodes:List Nd)(rules:List aA1)(outs:List aAp)(attrs:List aCE):Int:=
 if aHq nm ins els nodes rules outs attrs≠0 then aHq nm ins els nodes rules outs attrs else aDI els rules
theorem aI6 {ins:List aAp}{els:List aAP}{nodes:List Nd}{rules:List aA1}{outs:List aAp}(hv:DV ins els nodes rules outs){x:aA1}(hx:x∈rules):x.2.2.length<=16∧WIn els x.2.2:=
 ⟨(hv.rulesW x hx).2.1,fun y hy=>((hv.rulesW x hx).2.2 y hy).1⟩
section
variable {N:Nat} {nm:ByteArray} {ins:List aAp} {els:List aAP} {nodes:List Nd} {rules:List aA1} {outs:List aAp} {attrs:List aCE}
theorem opA (k0:KD (KD (List Int->Option R)))(nm2:ByteArray)(l ins2:List aAp)(els2:List aAP)(nodes2:List Nd)(rules2:List aA1)(outs2:List aAp)(attrs2:List aCE)(hl:l.length<=1000000):∀ (r:List aAp) (n i:Nat) (acc:List Int),l.drop i=r->r.length<n->acc.length<=i ->
  aCV N k0 n l l.length i nm ins els nodes rules outs attrs nm2 ins2 els2 nodes2 rules2 outs2 attrs2 acc=k0 nm ins els nodes rules outs attrs nm2 ins2 els2 nodes2 rules2 outs2 attrs2 (acc++r.map (·.2))
 | [],n,i,acc,h,hn,ha=>by
  obtain⟨n,rfl⟩:=sc hn
  rw[aCV,aAc (aAm h)];simp
 | x :: r,n,i,acc,h,hn,ha=>by
  obtain⟨n,rfl⟩:=sc hn
  obtain⟨g1,g2,g3⟩:=aAh h
  rw[aCV,aAd (by omega),g2,aAe,aBs (by omega),cond_true,aAl (by omega),opA k0 nm2 l ins2 els2 nodes2 rules2 outs2 attrs2 hl r n (i+1) _ g3 (by simp at hn;omega) (by simp;omega)]
  simp
theorem opB (k0:KD (KD (List Int->Option R)))(nm2:ByteArray)(ins2:List aAp)(l els2:List aAP)(nodes2:List Nd)(rules2:List aA1)(outs2:List aAp)(attrs2:List aCE)(hl:l.length<=1000000)(c:Nat)(hc:c<=1000000):∀ (r:List aAP) (n i:Nat) (acc:List Int),l.drop i=r->r.length<n->acc.length<=i+c ->
  aCW N k0 n l l.length i nm ins els nodes rules outs attrs nm2 ins2 els2 nodes2 rules2 outs2 attrs2 acc=k0 nm ins els nodes rules outs attrs nm2 ins2 els2 nodes2 rules2 outs2 attrs2 (acc++r.map (·.2.2.1))
 | [],n,i,acc,h,hn,ha=>by
  obtain⟨n,rfl⟩:=sc hn
  rw[aCW,aAc (aAm h)];simp
 | x :: r,n,i,acc,h,hn,ha=>by
  obtain⟨n,rfl⟩:=sc hn
  obtain⟨g1,g2,g3⟩:=aAh h
  rw[aCW,aAd (by omega),g2,aAe,aBs (by omega),cond_true,aAl (by omega),opB k0 nm2 ins2 l els2 nodes2 rules2 outs2 attrs2 hl c hc r n (i+1) _ g3 (by simp at hn;omega) (by simp;omega)]
  simp
theorem aY8 (hN:1000<=N)(h:DH N nm ins els nodes rules outs attrs)(k0:Int->Option R)(k1:KD (List Int->Int->Option R)) :
  aDo N nm ins els nodes rules outs attrs k0 k1=if aHq nm ins els nodes rules outs attrs≠0 then k0 (aHq nm ins els nodes rules outs attrs)else k1 nm ins els nodes rules outs attrs (aIV ins els) (aDI els rules):=by
 unfold aDo
 obtain⟨j,e⟩:=aPK hN h (fun y1 y2=>(bif decide (y2≠0)then (k0 y2)else (aCV N (fun z3 z4 z5 z6 z7 z8 z9 z10 z11 z12 z13 z14 z15 z16 z17=>(aCW N (fun z18 z19 z20 z21 z22 z23 z24 z25 z26 z27 z28 z29 z30 z31 z32=>(aCv N z22 z25 z26 z27 z28 z29 z30 z31 z32 (fun y33 y34 y35 y36 y37 y38 y39 y40 y41=>(k1 y34 y35 y36 y37 y38 y39 y40 y41 y33)))) N z5 ((z5.length:Nat):Int) 0 z3 z4 z5 z6 z7 z8 z9 z10 z11 z12 z13 z14 z15 z16 z17)) N ins ((ins.length:Nat):Int) 0 nm ins els nodes rules outs attrs nm ins els nodes rules outs attrs [])))
 refine e.trans ?_
 try dsimp only
 by_cases c:aHq nm ins els nodes rules outs attrs=0
 rotate_left
 ·rw[aAd c,if_pos c]
 rw[aAc (by simpa using c),if_neg (by simpa using c)]
 have hv:=bEG c
 have h1:=h.ins;have h2:=h.els;have h4:=h.rules
 refine (opA _ nm ins ins els nodes rules outs attrs h1.1 ins N 0 [] rfl h1.2.1 (by simp)).trans ?_
 try dsimp only
 refine (opB _ nm ins els els nodes rules outs attrs h2.1 ins.length h1.1 els N 0 _ rfl h2.2.1 (by simp)).trans ?_
 try dsimp only
 unfold aCv
 rw[List.nil_append,show ins.map (·.2)++els.map (·.2.2.1)=aIV ins els from rfl]
 refine (aZi N _ _ rules h4.1 (fun x hx=>⟨by have:=(aI6 hv hx).1;omega,by have:=(aI6 hv hx).1;omega,(aI6 hv hx).2⟩) rules N 0 rfl h4.2.1).trans ?_
 split
 ·rename_i q;rw[q]
 ·rfl
end
def bC5:Int->List Int->Option Int
 | d,[]=>some d
 | d,c :: r=>if d≠-1∧c≠d then none else bC5 c r
theorem aSx:∀ (r:List Int) (d:Int),0<=d->bC5 d r=if (r.any fun c=>decide (c≠d))=true then none else some d
 | [],d,h=>rfl
 | c :: r,d,h=>by
  unfold bC5
  rw[List.any_cons]
  by_cases q:c=d
  ·subst q
   rw[if_neg (by simp),aSx r c h]
   simp
  ·rw[if_pos ⟨by omega,q⟩,decide_eq_true q,Bool.true_or,if_pos rfl]
def CLK (els:List aAP):Prop:=∀ e,e∈els->0<=e.2.2.2.2∧e.2.2.2.2<=3
theorem aYq {els:List aAP}(hC:CLK els){i:Int}(h0:0<=i)(h1:i<=(els.length:Int)-1):0<=aKw els i∧aKw els i<=3:=by
 obtain⟨e,h2,_,h3⟩:=aLM h0 h1
 rw[<- h3];exact hC e h2
theorem bKP {els:List aAP}(hC:CLK els){wr:List WrT}(hW:WIn els wr):bC5 (-1) (wr.map fun w=>aKw els w.1)=if aHz els wr=true then none else some (aNQ els wr):=by
 cases wr with
 | nil=>rfl
 | cons y t=>
  have hy:=hW y List.mem_cons_self
  have:=aYq hC hy.1 hy.2
  rw[List.map_cons,bC5,if_neg (by simp),aSx _ _ this.1]
  unfold aHz aNQ
  rw[List.any_cons,List.any_map,decide_eq_false (show ¬(aKw els y.1≠aKw els y.1) by simp),Bool.false_or]
  rfl
section
variable {N:Nat} {nm:ByteArray} {ins:List aAp} {els:List aAP} {nodes:List Nd} {rules:List aA1} {outs:List aAp} {attrs:List aCE}
theorem aK6 (k0:Int->Bool->Option R)(k1:Int->Option R){i:Int}{x:aA1}(hx:at? rules i=some x)(hl:x.2.2.length<=1000000)(hW:WIn els x.2.2):∀ (r:List WrT) (n j:Nat) (d:Int),x.2.2.drop j=r->r.length<n ->
  aBm N k0 k1 n i d j nm ins els nodes rules outs attrs=match bC5 d (r.map fun w=>aKw els w.1)with | none=>k0 0 false | some e=>k1 e
 | [],n,j,d,h,hn=>by
  obtain⟨n,rfl⟩:=sc hn
  rw[aBm,hx,aAe,aAc (aAm h)];rfl
 | y :: r,n,j,d,h,hn=>by
  obtain⟨n,rfl⟩:=sc hn
  obtain⟨g1,g2,g3⟩:=aAh h
  have hy:x.2.2[j]? = some y:=by rw[<- g2];unfold at?;simp
  have hw:=hW y (List.mem_of_getElem? hy)
  obtain⟨e,_,q2,q3⟩:=aLM hw.1 hw.2
  rw[aBm,hx,aAe,aAd (by omega),aAe,g2,aAe,q2,aAe,q3,aAl (by omega),aK6 k0 k1 hx hl hW r n (j+1) _ g3 (by simp at hn;omega),List.map_cons,bC5]
  by_cases c1:d=-1
  ·rw[aAc (by simpa using c1),if_neg (by simp[c1])]
  ·rw[aAd c1]
   by_cases c2:aKw els y.1=d
   ·rw[aAc (by simpa using c2),if_neg (by simp[c2])]
   ·rw[aAd c2,if_pos ⟨c1,c2⟩]
theorem bAc (hC:CLK els){i:Int}{x:aA1}(hx:at? rules i=some x)(hl:x.2.2.length<=1000000)(hN:x.2.2.length<N)(hW:WIn els x.2.2)(k:Int->Bool->Option R):aDb N nm ins els nodes rules outs attrs i k=if aHz els x.2.2=true then k 0 false else k (aNQ els x.2.2) true:=by
 unfold aDb
 refine (aK6 k _ hx hl hW x.2.2 N 0 (-1) rfl hN).trans ?_
 rw[bKP hC hW]
 split <;> rename_i q <;> split at q <;> simp_all
theorem bJH {r:List aA1}(h:aDI els r=0):∀ x,x∈r->aHz els x.2.2=false:=by
 intro x hx
 cases c:aHz els x.2.2
 ·rfl
 ·unfold aDI at h
  rw[if_pos (List.any_eq_true.2 ⟨x,hx,c⟩)]at h
  exact absurd h (by decide)
end
section
variable {N:Nat} {nm:ByteArray} {ins:List aAp} {els:List aAP} {nodes:List Nd} {rules:List aA1} {outs:List aAp} {attrs:List aCE} {lw:List Int}
theorem bII {x:aA1}(hW:WIn els x.2.2)(k:Int->Option R):aDk N nm ins els nodes rules outs attrs lw x.1 x.2.1 x.2.2 k=k (aNQ els x.2.2):=by
 unfold aDk
 obtain⟨s,g,wr⟩:=x
 cases wr with
 | nil=>rfl
 | cons y t=>
  have hy:=hW y List.mem_cons_self
  show (bif decide ((((y :: t).length:Nat):Int)=0)then _ else _)=_
  rw[aAc (by simp;omega),show at? (y :: t) 0=some y from rfl,aAe,bIj N hy.1 hy.2]
  rfl
structure CV (N:Nat) (ins:List aAp) (els:List aAP) (nodes:List Nd) (rules:List aA1) (outs:List aAp):Prop where
 dv:DV ins els nodes rules outs
 clk:CLK els
 len:rules.length<=1000000∧rules.length<N
 wr:∀ x,x∈rules->x.2.2.length<=1000000∧x.2.2.length<N∧WIn els x.2.2
 cr:∀ x,x∈rules->aHz els x.2.2=false
theorem bDM (hN:1000<=N)(h:DH N nm ins els nodes rules outs attrs)(hc:aHS nm ins els nodes rules outs attrs=0):aHq nm ins els nodes rules outs attrs=0∧aDI els rules=0∧CV N ins els nodes rules outs:=by
 unfold aHS at hc
 by_cases c:aHq nm ins els nodes rules outs attrs=0
 ·rw[if_neg (by simpa using c)]at hc
  have hv:=bEG c
  refine⟨c,hc,hv,fun e he=>?_,⟨h.rules.1,h.rules.2.1⟩,fun x hx=>⟨by have:=(aI6 hv hx).1;omega,by have:=(aI6 hv hx).1;omega,(aI6 hv hx).2⟩,bJH hc⟩
  unfold aHq at c
  simp only[f1_0]at c
  exact aLw c.2.2.2.1 e he
 ·rw[if_pos c]at hc;exact absurd hc c
end
theorem aQj {lw:List Int}{all:List Nd}:∀ {r:List Nd} {i:Nat},aGZ lw all i r=0->∀ (j:Nat) (x:Nd),r[j]? = some x->aJQ lw all ((i+j:Nat):Int) x=0
 | [],i,_,j,x,hx=>by simp at hx
 | y :: r,i,h,j,x,hx=>by
  rw[aIL]at h
  obtain⟨h1,h2⟩:=f1_0.1 h
  cases j with
  | zero=>
    obtain rfl:y=x:=by simpa using hx
    exact h1
  | succ j=>
   have:=aQj h2 j x (by simpa using hx)
   rwa [show i+1+j=i+(j+1) by omega]at this
structure NB (nl:Nat) (nodes:List Nd):Prop where
 len:nodes.length<=400
 args:∀ x,x∈nodes->x.2.2.1.length<=3∧∀ a,a∈x.2.2.1->0<=a∧a<(nodes.length:Int)
 leaf:∀ x,x∈nodes->x.1=1->0<=x.2.2.2∧x.2.2.2<(nl:Int)
theorem bCC {op:Int}:aOs op<=3:=by unfold aOs;split <;> (try split) <;> (try split) <;> omega
theorem bKC {lw:List Int}{nodes:List Nd}(h:aQR lw nodes=0):NB lw.length nodes:=by
 obtain⟨_,_,h3,h4⟩:=aOj h
 refine⟨h3,fun x hx=>?_,fun x hx hop=>?_⟩
 all_goals
  obtain⟨j,hj,e⟩:=List.getElem_of_mem hx
  have q:=aQj h4 j x (by rw[List.getElem?_eq_getElem hj,e])
  obtain⟨q1,q2,q3,q4,q5,q6⟩:=aPs q
 ·refine⟨by have:=bCC (op:=x.1);omega,fun a ha=>?_⟩
  unfold aNS at q4
  have:=List.any_eq_false.1 q4 a ha
  simp only[Bool.not_eq_true',decide_eq_false_iff_not,Classical.not_not]at this
  omega
 ·unfold aJg at q5
  rw[hop,if_neg (by decide),if_pos rfl]at q5
  by_cases c:0<=x.2.2.2∧x.2.2.2<=(lw.length:Int)-1
  ·omega
  ·rw[if_neg c]at q5;exact absurd q5 (by decide)
theorem aKC (k:Nat):∀ (l:List Int) (o:List Bool),(∀ a,a∈l->0<=a∧a<(o.length:Int))->aFM k o l=if (o[k]?).getD false=true then aGR o l else o
 | [],o,h=>by unfold aFM aGR;simp
 | a :: r,o,h=>by
  have ha:=h a List.mem_cons_self
  unfold aFM
  by_cases c:(o[k]?).getD false=true
  ·rw[c,Bool.or_true,aKC k r _ fun b hb=>by rw[List.length_set];exact h b (List.mem_cons_of_mem _ hb),if_pos rfl,if_pos,aGR]
   rw[List.getElem?_set]
   split
   ·split
    ·rfl
    ·rename_i q1 q2;subst q1;rw[List.getElem?_eq_none (by omega)]at c;exact absurd c (by simp)
   ·exact c
  ·have e:o.set a.toNat ((o[a.toNat]?).getD false||(o[k]?).getD false)=o:=by
    have c':(o[k]?).getD false=false:=by simpa using c
    rw[c',Bool.or_false,List.getElem?_eq_getElem (show a.toNat<o.length by omega)]
    simp
   rw[e,aKC k r o fun b hb=>h b (List.mem_cons_of_mem _ hb),if_neg c,if_neg c]
theorem aLt {a:Int}{n:Nat}(h0:0<=a)(h:a<(n:Int)):inR a n=true:=by unfold inR;simp;omega
section
variable {N:Nat}
theorem bAo (nodes:List Nd)(k0:List Nd->List Bool->Option R)(l:List Int)(hl:l.length<=1000000)(m:Nat)(ha:∀ a,a∈l->0<=a∧a<(m:Int)):∀ (r:List Int) (n i:Nat) (o:List Bool),l.drop i=r->r.length<n->o.length=m ->
  aCn N k0 n nodes l i o=k0 nodes (aGR o r)
 | [],n,i,o,h,hn,ho=>by
  obtain⟨n,rfl⟩:=sc hn
  rw[aCn,aAc (aAm h)];rfl
 | x :: r,n,i,o,h,hn,ho=>by
  obtain⟨n,rfl⟩:=sc hn
  obtain⟨g1,g2,g3⟩:=aAh h
  have hx:l[i]? = some x:=by rw[<- g2];unfold at?;simp
  have hb:=ha x (List.mem_of_getElem? hx)
  rw[aCn,aAd (by omega),g2,aAe,aLt hb.1 (by omega),cond_true,List.getElem?_eq_getElem (show x.toNat<o.length by omega),aAe,aAl (by omega),bAo nodes k0 l hl m ha r n (i+1) _ g3 (by simp at hn;omega) (by simpa using ho)]
  rfl
theorem aZy (nodes:List Nd)(k0:List Nd->Int->List Bool->Option R){i:Nat}{x:Nd}(hx:at? nodes (i:Int)=some x)(hl:x.2.2.1.length<=3)(ha:∀ a,a∈x.2.2.1->0<=a∧a<(nodes.length:Int)):∀ (r:List Int) (n j:Nat) (o:List Bool),x.2.2.1.drop j=r->r.length<n->o.length=nodes.length->i<nodes.length ->
  aCo N k0 n nodes i j o=k0 nodes i (aFM i o r)
 | [],n,j,o,h,hn,ho,hi=>by
  obtain⟨n,rfl⟩:=sc hn
  rw[aCo,aLt (by omega) (by omega),cond_true,Int.toNat_natCast,List.getElem?_eq_getElem (show i<o.length by omega),aAe]
  cases o[i]
  ·rfl
  ·rw[cond_true,hx,aAe,aAc (aAm h)];rfl
 | a :: r,n,j,o,h,hn,ho,hi=>by
  obtain⟨n,rfl⟩:=sc hn
  obtain⟨g1,g2,g3⟩:=aAh h
  have hm:∀ b,b∈a :: r->0<=b∧b<(o.length:Int):=fun b hb=>by rw[ho];exact ha b (List.mem_of_mem_drop (h▸hb))
  have hb:=hm a List.mem_cons_self
  rw[aCo,aLt (by omega) (by omega),cond_true,Int.toNat_natCast,List.getElem?_eq_getElem (show i<o.length by omega),aAe,aKC i _ o hm,List.getElem?_eq_getElem (show i<o.length by omega),Option.getD_some]
  cases c:o[i]
  ·rw[cond_false,if_neg (by simp)]
  ·rw[cond_true,hx,aAe,aAd (by omega),aAe,g2,aAe,aLt hb.1 hb.2,cond_true,List.getElem?_eq_getElem (show a.toNat<o.length by omega),aAe,aAl (by omega),aZy nodes k0 hx hl ha r n (j+1) _ g3 (by simp at hn;omega) (by simpa using ho) hi,if_pos rfl,aKC i r _ fun b hb=>by rw[List.length_set];exact hm b (List.mem_cons_of_mem _ hb)]
   rw[if_pos]
   ·rfl
   ·rw[List.getElem?_set]
    split
    ·split
     ·rfl
     ·omega
    ·rw[List.getElem?_eq_getElem (show i<o.length by omega),c];rfl
theorem bAA {nl:Nat}(hN:1000<=N){nodes:List Nd}(hb:NB nl nodes)(k0:List Bool->Option R):∀ (m n:Nat) (o:List Bool),m<=nodes.length->m<n->o.length=nodes.length->aCq N k0 n nodes ((m:Int)-1) o=k0 (aXu (aEr nodes) m o)
 | 0,n,o,hm,hn,ho=>by
  obtain⟨n,rfl⟩:∃ m,n=m+1:=⟨n-1,by omega⟩
  rw[aCq,aAc (by omega)];rfl
 | m+1,n,o,hm,hn,ho=>by
  obtain⟨n,rfl⟩:∃ m,n=m+1:=⟨n-1,by omega⟩
  have hl:=hb.len
  obtain⟨h1,h2⟩:=hb.args nodes[m] (List.getElem_mem _)
  rw[aCq,aAd (by omega),show ((m+1:Nat):Int)-1=(m:Int) by omega]
  refine (aZy nodes _ (aHb (show m<nodes.length by omega)) h1 h2 nodes[m].2.2.1 N 0 o rfl (by omega) ho (by omega)).trans ?_
  rw[aDt (by omega) (by omega),bAA hN hb k0 m n _ (by omega) (by omega) (by rw[aH7];exact ho),aXu]
  have e:((aEr nodes)[m]?).getD []=nodes[m].2.2.1:=by unfold aEr;rw[List.getElem?_map,List.getElem?_eq_getElem (show m<nodes.length by omega)];rfl
  rw[e]
def BL (nodes:List Nd)(l:List Int):Prop:=l.length<=1000∧∀ a,a∈l->0<=a∧a<(nodes.length:Int)
theorem bPx {nl:Nat}(hN:2000<=N){nodes:List Nd}(hb:NB nl nodes){l:List Int}(hl:BL nodes l)(k:List Bool->Option R):aEM N nodes l k=k (aOd (aEr nodes) l):=by
 have h1:=hb.len;have h2:=hl.1
 unfold aEM aOd
 rw[aAd (by omega),aBs (by omega),cond_true]
 refine (bAo nodes _ l (by omega) nodes.length hl.2 l N 0 _ rfl (by omega) (by simp)).trans ?_
 try dsimp only
 rw[aDt (by omega) (by omega)]
 refine (bAA (by omega) hb k nodes.length N _ (Nat.le_refl _) (by omega) (by rw[aHC];simp)).trans ?_
 rw[show (aEr nodes).length=nodes.length by unfold aEr;simp]
end
section
variable {N:Nat}
end
section
variable {N:Nat} {nm:ByteArray} {ins:List aAp} {els:List aAP} {nodes:List Nd} {rules:List aA1} {outs:List aAp} {attrs:List aCE} {lw:List Int}
end
theorem aXC (m:Nat)(k:Bool->Option R):aFB (m+2000) k=k true:=by kernel_rfl
section
variable {N:Nat}
theorem aPa (k0:Bool->Option R)(k1:Option R)(l:List Int)(hl:l.length<=1000000):∀ (r:List Int) (n i:Nat),l.drop i=r->r.length<n->aCA N k0 k1 n l l i=k1
 | [],n,i,h,hn=>by
  obtain⟨n,rfl⟩:=sc hn
  rw[aCA,aAc (aAm h)]
 | x :: r,n,i,h,hn=>by
  obtain⟨n,rfl⟩:=sc hn
  obtain⟨g1,g2,g3⟩:=aAh h
  rw[aCA,aAd (by omega),g2,aAe,aAe,aAc (by simp),aAl (by omega)]
  exact aPa k0 k1 l hl r n (i+1) g3 (by simp at hn;omega)
theorem bDr (l:List Int)(hl:l.length<=1000000)(hN:l.length<N)(k:Bool->Option R):aCr N l l k=k true:=by
 unfold aCr
 rw[aAc (by simp)]
 exact aPa k (k true) l hl l N 0 rfl hN
end
def rsl (f:aAP->Bool):List aAP->List Int->List Int
 | e :: r,x :: s=>(bif f e then e.2.2.2.1 else x) :: rsl f r s
 | _,s=>s
theorem cBj (f:aAP->Bool):∀ (l:List aAP) (s:List Int),(rsl f l s).length=s.length
 | [],s=>by rw[rsl];intros;simp_all
 | e :: r,[]=>by rw[rsl];intros;simp_all
 | e :: r,x :: s=>by rw[rsl,List.length_cons,List.length_cons,cBj f r s]
theorem bZw (f:aAP->Bool)(s:List Int):rsl f [] s=s:=by unfold rsl;rfl
theorem bY6 (f:aAP->Bool)(e:aAP)(r:List aAP)(x:Int)(s:List Int):rsl f (e :: r) (x :: s)=(bif f e then e.2.2.2.1 else x) :: rsl f r s:=rfl
theorem LV_fit {ws l:List Int}:LV ws l↔l.length=ws.length∧bYS ws l=true:=by
 constructor
 ·intro h
  exact⟨h.1,(bYJ ws l h.1).2 h.2⟩
 ·rintro ⟨h1,h2⟩
  exact⟨h1,(bYJ ws l h1).1 h2⟩
theorem cBi (f:aAP->Bool):∀ (l:List aAP) (s:List Int),(∀ x,x∈l->vok x.2.2.1 x.2.2.2.1=true)->s.length=l.length->bYS (elW l) s=true->bYS (elW l) (rsl f l s)=true
 | [],s,_,hl,h=>by rw[bZw];exact h
 | e :: r,[],_,hl,h=>by simp at hl
 | e :: r,x :: s,hv,hl,h=>by
  have h':(vok e.2.2.1 x&&bYS (elW r) s)=true:=h
  rw[Bool.and_eq_true]at h'
  have ih:=cBi f r s (fun y hy=>hv y (List.mem_cons_of_mem _ hy)) (by simpa using hl) h'.2
  rw[bY6]
  show (vok e.2.2.1 _&&bYS (elW r) _)=true
  rw[ih,Bool.and_true]
  cases f e
  ·exact h'.1
  ·exact hv e List.mem_cons_self
theorem bZK (f:aAP->Bool){ins:List aAp}{els:List aAP}{nodes:List Nd}{rules:List aA1}{outs:List aAp}(hv:DV ins els nodes rules outs){s:List Int}(hs:LV (elW els) s):LV (elW els) (rsl f els s):=by
 rw[LV_fit]at hs ⊢
 have hw:(elW els).length=els.length:=by unfold elW;simp
 exact⟨by rw[cBj];exact hs.1,cBi f els s (fun x hx=>(hv.elsW x hx).2.2.1) (by omega) hs.2⟩
def bZP (dom:Int)(e:aAP):Bool:=decide (e.2.1=1)&&decide (e.2.2.2.2=dom)
def tkL (nodes:List Nd)(els:List aAP)(dom:Int)(inp:List Int):Nat->List aA1->List Int->List Int->List Int×List Int
 | _,[],s,o=>(s,o)
 | i,x :: r,s,o=>if aNQ els x.2.2=dom∧w0 (dV nodes inp s) x.2.1.toNat=1 then tkL nodes els dom inp (i+1) r (hap (dV nodes inp s) x.2.2 s) (o++[(i:Int)])else tkL nodes els dom inp (i+1) r s o
theorem bZc {ins:List aAp}{els:List aAP}{nodes:List Nd}{rules:List aA1}{outs:List aAp}(hv:DV ins els nodes rules outs)(dom:Int){inp:List Int}(hi:LV (inW ins) inp):∀ (r:List aA1) (i:Nat) (s o:List Int),(∀ x,x∈r->x∈rules)->LV (elW els) s->LV (elW els) (tkL nodes els dom inp i r s o).1
 | [],i,s,o,hm,hs=>hs
 | x :: r,i,s,o,hm,hs=>by
  rw[tkL]
  split
  ·exact bZc hv dom hi r _ _ _ (fun y hy=>hm y (List.mem_cons_of_mem _ hy)) (cBb (cDY hv hi hs).2 _ s (hv.rulesW _ (hm x List.mem_cons_self)).2.2 hs)
  ·exact bZc hv dom hi r _ _ _ (fun y hy=>hm y (List.mem_cons_of_mem _ hy)) hs
def tkS (nodes:List Nd)(els:List aAP)(rules:List aA1)(dom:Int)(inp s:List Int):List Int×List Int:=
 (rsl (bZP dom) els (tkL nodes els dom inp 0 rules (rsl (bZP dom) els s) []).1,(tkL nodes els dom inp 0 rules (rsl (bZP dom) els s) []).2)
theorem cBo {ins:List aAp}{els:List aAP}{nodes:List Nd}{rules:List aA1}{outs:List aAp}(hv:DV ins els nodes rules outs)(dom:Int){inp s:List Int}(hi:LV (inW ins) inp)(hs:LV (elW els) s):LV (elW els) (tkS nodes els rules dom inp s).1:=
 bZK _ hv (bZc hv dom hi rules 0 _ [] (fun x hx=>hx) (bZK _ hv hs))
def tkE (ins:List aAp)(dom:Int)(inp:List Int):Int:=if 0<=dom∧dom<=3 then cD5 (inW ins) inp else 2
theorem cFw {ins:List aAp}{dom:Int}{inp:List Int}(h:tkE ins dom inp=0):(0<=dom∧dom<=3)∧LV (inW ins) inp:=by
 unfold tkE at h
 split at h
 ·exact⟨‹_›,valE_0.1 h⟩
 ·exact absurd h (by decide)
section
variable {N:Nat} {nm:ByteArray} {ins:List aAp} {els:List aAP} {nodes:List Nd} {rules:List aA1} {outs:List aAp} {attrs:List aCE} {lw:List Int}
theorem bYM (N:Nat)(a lo hi:Int)(k:Bool->Option R):aCm N a lo hi k=k (decide (lo<=a∧a<=hi)):=by
 unfold aCm
 by_cases h:lo<=a <;> simp[h]
theorem bY2 (N:Nat)(b:Bool)(e:Int)(k:Int->Option R):aA8 N b e k=k (if b=true then 0 else e):=by cases b <;> rfl
theorem cA5 (N:Nat)(hN:10<=N)(a b:Int)(k:Int->Option R):aHk N [a,b] k=k (f1 a b):=by
 obtain⟨M,rfl⟩:∃ M,N=M+3:=⟨N-3,by omega⟩
 have e0:at? [a,b] 0=some a:=rfl
 have e1:at? [a,b] 1=some b:=rfl
 have w1:w64 (0+1)=1:=rfl
 have w2:w64 (1+1)=2:=rfl
 unfold aHk f1
 rw[aG0,aAd (by simp),e0,aAe,w1]
 by_cases ha:a=0
 ·subst ha
  rw[aAc (by simp),if_pos rfl,aG0,aAd (by simp),e1,aAe,w2]
  by_cases hb:b=0
  ·subst hb;rw[aAc (by simp),aG0,aAc (by simp)]
  ·rw[aAd hb]
 ·rw[aAd ha,if_neg ha]
theorem bYq (p s:List Int)(x:Int):p++x :: s=(p++[x])++s:=by rw[List.append_assoc];rfl
theorem cBl (p s:List Int)(x v:Int){i:Nat}(h:p.length=i):(p++x :: s).set i v=(p++[v])++s:=by
 subst h
 rw[List.set_append_right _ _ (Nat.le_refl _),Nat.sub_self,<- bYq];rfl
theorem cA9 (p s:List Int)(x:Int){i:Nat}(h:p.length=i):(p++x :: s)[i]? = some x:=by
 subst h
 rw[List.getElem?_append_right (Nat.le_refl _),Nat.sub_self];rfl
theorem cBd (p s:List Int)(x:Int){i:Nat}(h:p.length=i):inR (i:Int) (p++x :: s).length=true:=by
 unfold inR;simp;omega
theorem cBD (N:Nat)(x:aAP)(d:Int)(inp:List Int)(k:Bool->Int->List Int->Option R):aGf N x.1 x.2.1 x.2.2.1 x.2.2.2.1 x.2.2.2.2 d inp k=k (bZP d x) d inp:=by
 unfold aGf bZP
 by_cases h:x.2.1=1
 ·rw[aAd h,decide_eq_true h,Bool.true_and]
 ·rw[aAc h,decide_eq_false h,Bool.false_and]
theorem bYy (k0:List Int->Int->List Int->Option R)(l:List aAP)(hl:l.length<=1000000)(d:Int)(inp:List Int):∀ (r:List aAP) (n i:Nat) (p s:List Int),l.drop i=r->r.length<n->p.length=i->s.length=r.length ->
  aA7 N k0 n l l.length i (p++s) d inp=k0 (p++rsl (bZP d) r s) d inp
 | [],n,i,p,s,h,hn,hp,hs=>by
  obtain⟨n,rfl⟩:=sc hn
  rw[aA7,aAc (aAm h),bZw]
 | x :: r,n,i,p,[],h,hn,hp,hs=>by simp at hs
 | x :: r,n,i,p,y :: s,h,hn,hp,hs=>by
  obtain⟨n,rfl⟩:=sc hn
  obtain⟨g1,g2,g3⟩:=aAh h
  rw[aA7,aAd (by omega),g2,aAe,cBD,bY6]
  cases bZP d x
  ·rw[cond_false,cond_false,aAl (by omega),bYq,bYy k0 l hl d inp r n (i+1) (p++[y]) s g3 (by simp at hn;omega) (by simp[hp]) (by simpa using hs),<- bYq]
  ·rw[cond_true,cond_true,cBd p s y hp,cond_true,Int.toNat_natCast,cA9 p s y hp,aAe,cBl p s y _ hp,aAl (by omega),bYy k0 l hl d inp r n (i+1) (p++[x.2.2.2.1]) s g3 (by simp at hn;omega) (by simp[hp]) (by simpa using hs),<- bYq]
theorem cCM (hl:els.length<=1000000)(hN:els.length<N){s:List Int}(hs:s.length=els.length)(d:Int)(inp:List Int)(k:List Int->Int->List Int->Option R):aCg N nm ins els nodes rules outs attrs lw s d inp k=k (rsl (bZP d) els s) d inp:=by
 unfold aCg
 exact bYy k els hl d inp els N 0 [] s rfl hN rfl hs
theorem cBr {s:List Int}(hs:LV (elW els) s):s.length=els.length:=by have:=hs.1;unfold elW at this;simpa using this
theorem bYw (hN:1000<=N)(h:DH N nm ins els nodes rules outs attrs)(hc:aHq nm ins els nodes rules outs attrs=0){d:Int}{inp:List Int}(hi:LV (inW ins) inp)(k0:KD (List Int->List Int->Int->List Int->List Int->Option R)):∀ (r:List aA1) (n i:Nat) (s o:List Int),rules.drop i=r->r.length<n->o.length<=i->LV (elW els) s ->
  aCH N k0 n nm ins els nodes rules outs attrs lw rules rules.length i d inp s o=k0 nm ins els nodes rules outs attrs lw (tkL nodes els d inp i r s o).1 d inp (tkL nodes els d inp i r s o).2
 | [],n,i,s,o,hd,hn,ho,hs=>by
  obtain⟨n,rfl⟩:=sc hn
  rw[aCH,aAc (aAm hd)];rfl
 | x :: r,n,i,s,o,hd,hn,ho,hs=>by
  obtain⟨n,rfl⟩:=sc hn
  obtain⟨g1,g2,g3⟩:=aAh hd
  have hv:=bEG hc
  have hx:rules[i]? = some x:=by rw[<- g2];unfold at?;simp
  have e:rules[i]=x:=by rw[List.getElem?_eq_getElem g1]at hx;exact Option.some.inj hx
  have hr:=h.rules.1
  rw[aCH,aAd (by omega),g2,aAe,bII (aI6 hv (List.mem_of_getElem? hx)).2,tkL]
  by_cases q:aNQ els x.2.2=d
  ·have hl:=bYN hv hi hs g1
   rw[aAc (by simpa using q),bY9 hN h hc hi hs g1,e]
   rw[e]at hl
   by_cases c:w0 (dV nodes inp s) x.2.1.toNat=1
   ·rw[if_pos c,if_pos ⟨q,c⟩,aAd rfl,aBs (by omega),cond_true,aAl (by omega),bYw hN h hc hi k0 r n (i+1) _ _ g3 (by simp at hn;omega) (by simp;omega) hl]
   ·rw[if_neg c,if_neg (fun z=>c z.2),aAc (by decide),aAl (by omega),bYw hN h hc hi k0 r n (i+1) _ _ g3 (by simp at hn;omega) (by omega) hs]
  ·rw[aAd q,if_neg (fun z=>q z.1),aAl (by omega),bYw hN h hc hi k0 r n (i+1) _ _ g3 (by simp at hn;omega) (by omega) hs]
theorem cEU (hN:1000<=N)(h:DH N nm ins els nodes rules outs attrs)(hc:aHq nm ins els nodes rules outs attrs=0)(d:Int){inp s:List Int}(hi:LV (inW ins) inp)(hs:LV (elW els) s)(k:List Int->List Int->Option R) :
  aFF N nm ins els nodes rules outs attrs lw d inp s k=k (tkS nodes els rules d inp s).1 (tkS nodes els rules d inp s).2:=by
 have hv:=bEG hc
 have he:=h.els
 have hl:=cBr hs
 unfold aFF
 rw[aBs (by omega),cond_true,cCM he.1 he.2.1 hl]
 have hs2:=bZK (bZP d) hv hs
 refine (bYw hN h hc hi _ rules N 0 _ [] rfl h.rules.2.1 (by simp) hs2).trans ?_
 try dsimp only
 rw[cCM he.1 he.2.1 (cBr (bZc hv d hi rules 0 _ [] (fun x hx=>hx) hs2))]
 rfl
end
section
variable {N:Nat} {nm:ByteArray} {ins:List aAp} {els:List aAP} {nodes:List Nd} {rules:List aA1} {outs:List aAp} {attrs:List aCE} {lw:List Int}
theorem bYO (k0:List Int->Option R)(hl:els.length<=1000000)(d:Int):∀ (r:List aAP) (n i:Nat) (p s:List Int),els.drop i=r->r.length<n->p.length=i->s.length=r.length ->
  bW8 N k0 n d i nm ins els nodes rules outs attrs (p++s)=k0 (p++rsl (bZP d) r s)
 | [],n,i,p,s,h,hn,hp,hs=>by
  obtain⟨n,rfl⟩:=sc hn
  rw[bW8,aAc (aAm h),bZw]
 | x :: r,n,i,p,[],h,hn,hp,hs=>by simp at hs
 | x :: r,n,i,p,y :: s,h,hn,hp,hs=>by
  obtain⟨n,rfl⟩:=sc hn
  obtain⟨g1,g2,g3⟩:=aAh h
  have ih:=fun v=>bYO k0 hl d r n (i+1) (p++[v]) s g3 (by simp at hn;omega) (by simp[hp]) (by simpa using hs)
  rw[bW8,aAd (by omega),g2,aAe,bY6]
  unfold bZP
  by_cases c:x.2.1=1
  ·rw[aAd c,decide_eq_true c,Bool.true_and,aAe]
   by_cases c2:x.2.2.2.2=d
   ·rw[aAd c2,decide_eq_true c2,cond_true,aAe,cBd p s y hp,cond_true,Int.toNat_natCast,cA9 p s y hp,aAe,cBl p s y _ hp,aAl (by omega),ih,<- bYq];rfl
   ·rw[aAc c2,decide_eq_false c2,cond_false,aAl (by omega),bYq,ih,<- bYq];rfl
  ·rw[aAc c,decide_eq_false c,Bool.false_and,cond_false,aAl (by omega),bYq,ih,<- bYq];rfl
theorem cCL (hl:els.length<=1000000)(hN:els.length<N){s:List Int}(hs:s.length=els.length)(d:Int)(k:List Int->Option R):bXM N nm ins els nodes rules outs attrs d s k=k (rsl (bZP d) els s):=by
 unfold bXM
 rw[aK2 N s (by omega)]
 exact bYO k hl d els N 0 [] s rfl hN rfl hs
theorem bYv (hN:1000<=N)(hv:CV N ins els nodes rules outs){d:Int}{inp:List Int}(hi:LV (inW ins) inp)(k0:List Int->KD (Int->List Int->List Int->Option R)):∀ (r:List aA1) (n i:Nat) (s o:List Int),rules.drop i=r->r.length<n->o.length<=i->LV (elW els) s ->
  bXb N k0 n s i nm ins els nodes rules outs attrs d inp o=k0 (tkL nodes els d inp i r s o).1 nm ins els nodes rules outs attrs d inp (tkL nodes els d inp i r s o).2
 | [],n,i,s,o,hd,hn,ho,hs=>by
  obtain⟨n,rfl⟩:=sc hn
  rw[bXb,aAc (aAm hd)];rfl
 | x :: r,n,i,s,o,hd,hn,ho,hs=>by
  obtain⟨n,rfl⟩:=sc hn
  obtain⟨g1,g2,g3⟩:=aAh hd
  have hx:rules[i]? = some x:=by rw[<- g2];unfold at?;simp
  have hm:=List.mem_of_getElem? hx
  have e:rules[i]=x:=by rw[List.getElem?_eq_getElem g1]at hx;exact Option.some.inj hx
  have hr:=hv.len.1
  obtain⟨q1,q2,q3⟩:=hv.wr x hm
  rw[bXb,aAd (by omega),bAc hv.clk g2 q1 q2 q3,hv.cr x hm,if_neg (by simp),tkL]
  by_cases q:aNQ els x.2.2=d
  ·have hl:=bYN hv.dv hi hs g1
   rw[aAd q,cBA hN hv.dv hi hs g1,e]
   rw[e]at hl
   by_cases c:w0 (dV nodes inp s) x.2.1.toNat=1
   ·rw[decide_eq_true c,cond_true,if_pos ⟨q,c⟩,cA3 hN hv.dv hi hs g1,e,aBs (by omega),cond_true,aAl (by omega),bYv hN hv hi k0 r n (i+1) _ _ g3 (by simp at hn;omega) (by simp;omega) hl]
   ·rw[decide_eq_false c,cond_false,if_neg (fun z=>c z.2),aAl (by omega),bYv hN hv hi k0 r n (i+1) _ _ g3 (by simp at hn;omega) (by omega) hs]
  ·rw[aAc q,if_neg (fun z=>q z.1),aAl (by omega),bYv hN hv hi k0 r n (i+1) _ _ g3 (by simp at hn;omega) (by omega) hs]
theorem cFt (hN:1000<=N)(he:els.length<N∧els.length<=1000000)(hv:CV N ins els nodes rules outs)(d:Int){inp s:List Int}(hi:LV (inW ins) inp)(hs:LV (elW els) s)(k:List Int->List Int->Option R) :
  bYa N nm ins els nodes rules outs attrs d inp s k=k (tkS nodes els rules d inp s).1 (tkS nodes els rules d inp s).2:=by
 have hl:=cBr hs
 have hs2:=bZK (bZP d) hv.dv hs
 unfold bYa
 rw[cCL he.2 he.1 hl]
 refine (bYv hN hv hi _ rules N 0 _ [] rfl hv.len.2 (by simp) hs2).trans ?_
 try dsimp only
 rw[cCL he.2 he.1 (cBr (bZc hv.dv d hi rules 0 _ [] (fun x hx=>hx) hs2))]
 rfl
end
abbrev TkT:=Int×List Int
def cES (nodes:List Nd)(els:List aAP)(rules:List aA1):List TkT->List Int->List (List Int)
 | [],_=>[]
 | x :: r,s=>(tkS nodes els rules x.1 x.2 s).1 :: cES nodes els rules r (tkS nodes els rules x.1 x.2 s).1
section
variable {N:Nat} {nm:ByteArray} {ins:List aAp} {els:List aAP} {nodes:List Nd} {rules:List aA1} {outs:List aAp} {attrs:List aCE} {lw:List Int}
theorem bZb (hN:1000<=N)(h:DH N nm ins els nodes rules outs attrs)(hc:aHq nm ins els nodes rules outs attrs=0)(k0:List (List Int)->Option R)(l:List TkT)(hl:l.length<=1000):∀ (r:List TkT) (n i:Nat) (s:List Int) (o:List (List Int)),l.drop i=r->r.length<n->o.length<=i+1->LV (elW els) s->(∀ x,x∈r->tkE ins x.1 x.2=0) ->
  aDW N k0 n nm ins els nodes rules outs attrs lw s l l.length i o=k0 (o++cES nodes els rules r s)
 | [],n,i,s,o,hd,hn,ho,hs,ht=>by
  obtain⟨n,rfl⟩:=sc hn
  rw[aDW,aAc (aAm hd)];simp[cES]
 | x :: r,n,i,s,o,hd,hn,ho,hs,ht=>by
  obtain⟨n,rfl⟩:=sc hn
  obtain⟨g1,g2,g3⟩:=aAh hd
  have hi:=(cFw (ht x List.mem_cons_self)).2
  rw[aDW,aAd (by omega),g2,aAe,cEU hN h hc x.1 hi hs,aBs (by omega),cond_true,aAl (by omega),bZb hN h hc k0 l hl r n (i+1) _ _ g3 (by simp at hn;omega) (by simp;omega) (cBo (bEG hc) x.1 hi hs) fun y hy=>ht y (List.mem_cons_of_mem _ hy)]
  simp[cES]
theorem cGx (hN:1000<=N)(h:DH N nm ins els nodes rules outs attrs)(hc:aHq nm ins els nodes rules outs attrs=0)(l:List TkT)(hl:l.length<=60)(ht:∀ x,x∈l->tkE ins x.1 x.2=0)(k:List (List Int)->Option R) :
  aEZ N nm ins els nodes rules outs attrs lw l k=k (elI els :: cES nodes els rules l (elI els)):=by
 unfold aEZ
 rw[bZQ hN h,if_pos hc]
 exact bZb hN h hc k l (by omega) l N 0 _ [elI els] rfl (by omega) (by simp) (bY5 (bEG hc)) ht
end
theorem cE2 {S:List ByteArray}{s:ByteArray}(h:aNU S s=0):s.size<=16:=by
 have:=(cEO h).1
 unfold nmB at this
 rw[Bool.and_eq_true]at this
 exact (of_decide_eq_true this.2).2
theorem cBh:∀ (l:List aAp) (S:List ByteArray),aFr S l=0->∀ x,x∈l->x.1.size<=16
 | [],_,_,x,hx=>by cases hx
 | y :: r,S,h,x,hx=>by
  obtain⟨h1,h2⟩:=f1_0.1 (show f1 (aRg S y) (aFr (y.1 :: S) r)=0 from h)
  rcases List.mem_cons.1 hx with rfl | hx
  ·exact cE2 (f1_0.1 h1).1
  ·exact cBh r _ h2 x hx
theorem cA6:∀ (l:List aAP) (S:List ByteArray),aFn S l=0->∀ x,x∈l->x.1.size<=16
 | [],_,_,x,hx=>by cases hx
 | y :: r,S,h,x,hx=>by
  obtain⟨h1,h2⟩:=f1_0.1 (show f1 (aPr S y) (aFn (y.1 :: S) r)=0 from h)
  rcases List.mem_cons.1 hx with rfl | hx
  ·exact cE2 (f1_0.1 (f1_0.1 h1).1).1
  ·exact cA6 r _ h2 x hx
theorem cCK {nodes:List Nd}:∀ (l:List aAp) (S:List ByteArray),aHW nodes S l=0->∀ x,x∈l->x.1.size<=16
 | [],_,_,x,hx=>by cases hx
 | y :: r,S,h,x,hx=>by
  obtain⟨h1,h2⟩:=f1_0.1 (show f1 (bIJ nodes S y) (aHW nodes (y.1 :: S) r)=0 from h)
  rcases List.mem_cons.1 hx with rfl | hx
  ·exact cE2 (f1_0.1 h1).1
  ·exact cCK r _ h2 x hx
theorem cBk {els:List aAP}{nodes:List Nd}:∀ (l:List aA1) (S:List ByteArray),aFP els nodes S l=0->∀ x,x∈l->x.1.size<=16
 | [],_,_,x,hx=>by cases hx
 | y :: r,S,h,x,hx=>by
  obtain⟨h1,h2⟩:=f1_0.1 (show f1 (aRj S els nodes y) (aFP els nodes (y.1 :: S) r)=0 from h)
  rcases List.mem_cons.1 hx with rfl | hx
  ·exact cE2 (f1_0.1 (f1_0.1 h1).1).1
  ·exact cBk r _ h2 x hx
theorem bZp {nr:Int}:∀ (l:List aCE),aG7 nr l=0->∀ x,x∈l->x.2.length<=16
 | [],_,x,hx=>by cases hx
 | y :: r,h,x,hx=>by
  obtain⟨h1,h2⟩:=f1_0.1 (show f1 (aWx nr y) (aG7 nr r)=0 from h)
  rcases List.mem_cons.1 hx with rfl | hx
  ·exact (if0 (by decide) (f1_0.1 (f1_0.1 h1).2).1).2
  ·exact bZp r h2 x hx
section
variable {N:Nat} {nm:ByteArray} {ins:List aAp} {els:List aAP} {nodes:List Nd} {rules:List aA1} {outs:List aAp} {attrs:List aCE}
theorem bZH (hN:2000<=N)(h:aHq nm ins els nodes rules outs attrs=0):DH N nm ins els nodes rules outs attrs:=by
 have hv:=bEG h
 have hb:=bKC hv.chk
 unfold aHq at h
 simp only[f1_0]at h
 obtain⟨⟨a1,a2⟩,h1,b1,h2,h3,h4,h5,h6,h7,h8,h9⟩:=h
 have a1:=if0 (by decide) a1
 have a2:=aYI a2;have b1:=aYI b1;have h4:=aYI h4;have h6:=aYI h6;have h8:=aYI h8
 unfold nmB at a1
 rw[Bool.and_eq_true]at a1
 have a1:=of_decide_eq_true a1.2
 have sz:∀ s:ByteArray,s.size<=16->SZ N s:=fun s hs=>⟨by omega,by omega⟩
 have hl:=hb.len
 exact⟨sz _ a1.2,⟨by omega,by omega,fun x hx=>sz _ (cBh _ _ h1 x hx)⟩,⟨by omega,by omega,fun x hx=>sz _ (cA6 _ _ h2 x hx)⟩,⟨by omega,fun x hx=>⟨by have:=(hb.args x hx).1;omega,by have:=(hb.args x hx).1;omega⟩⟩,⟨by omega,by omega,fun x hx=>⟨sz _ (cBk _ _ h5 x hx),by have:=(aI6 hv hx).1;omega,by have:=(aI6 hv hx).1;omega⟩⟩,⟨by omega,by omega,fun x hx=>sz _ (cCK _ _ h7 x hx)⟩,⟨by omega,by omega,fun x hx=>⟨by have:=bZp _ h9 x hx;omega,by have:=bZp _ h9 x hx;omega⟩⟩⟩
end
section
variable {N:Nat} {nm:ByteArray} {ins:List aAp} {els:List aAP} {nodes:List Nd} {rules:List aA1} {outs:List aAp} {attrs:List aCE}
end
section
variable {N:Nat} {nm:ByteArray} {ins:List aAp} {els:List aAP} {nodes:List Nd} {rules:List aA1} {outs:List aAp} {attrs:List aCE}
theorem bYX (k:List Int->Option R)(V:List Int)(hl:outs.length<=1000000)(hV:∀ x,x∈outs->at? V x.2=some (w0 V x.2.toNat)):∀ (r:List aAp) (n i:Nat) (o:List Int),outs.drop i=r->r.length<n->o.length<=i ->
  bXl N k n V i nm ins els nodes rules outs attrs o=k (o++r.map fun x=>w0 V x.2.toNat)
 | [],n,i,o,h,hn,ho=>by
  obtain⟨n,rfl⟩:=sc hn
  rw[bXl,aAc (aAm h),List.map_nil,List.append_nil]
 | x :: r,n,i,o,h,hn,ho=>by
  obtain⟨n,rfl⟩:=sc hn
  obtain⟨g1,g2,g3⟩:=aAh h
  have hx:=hV x (List.mem_of_mem_drop (h▸List.mem_cons_self:x∈outs.drop i))
  rw[bXl,aAd (by omega),g2,aAe,hx,aAe,aBs (by omega),cond_true,aAl (by omega),bYX k V hl hV r n (i+1) _ g3 (by simp at hn;omega) (by simp;omega),List.map_cons,List.append_assoc]
  rfl
theorem cFv (hN:1000<=N)(hv:DV ins els nodes rules outs){inp s:List Int}(hi:LV (inW ins) inp)(hs:LV (elW els) s)(k:List Int->Option R):bX4 N nm ins els nodes rules outs attrs inp s k=k (outs.map fun x=>w0 (dV nodes inp s) x.2.toNat):=by
 obtain⟨l1,l2⟩:=bZt hv hi hs
 have ho:=hv.no
 unfold bX4
 rw[cA4 l1 l2,bZq hN (bY8 hi hs) hv.chk]
 exact (bYX k (dV nodes inp s) (by omega) (fun x hx=>bZr hv hi hs (hv.outsW x hx)) outs N 0 [] rfl (by omega) (by simp)).trans (by rw[List.nil_append])
end
theorem cGy {x:Int}(h:x=0∨x=1):vok 1 x=true:=by rcases h with rfl | rfl <;> decide
def hnm:ByteArray:=ByteArray.mk #[104,97,110,100,115,104,97,107,101]
def bYC (w:Int):List aAp:=[(ByteArray.mk #[103,111],1),(ByteArray.mk #[118,97,108,117,101],w)]
def bYu (w:Int):List aAP:=[(ByteArray.mk #[100,97,116,97],0,w,0,0),(ByteArray.mk #[114,101,113],0,1,0,0),(ByteArray.mk #[97,97],0,1,0,0),(ByteArray.mk #[97,98],0,1,0,0),(ByteArray.mk #[103,111,116],0,w,0,1),(ByteArray.mk #[97,99,107],0,1,0,1),(ByteArray.mk #[114,97],0,1,0,1),(ByteArray.mk #[114,98],0,1,0,1)]
def bYz (w:Int):List Nd:=[(1,1,[],0),(1,w,[],1),(1,w,[],2),(1,1,[],3),(1,1,[],4),(1,1,[],5),(1,w,[],6),(1,1,[],7),(1,1,[],8),(1,1,[],9),(0,1,[],1),(9,1,[3,5],0),(3,1,[0,11],0),(2,1,[3],0),(9,1,[9,7],0),(2,1,[14],0),(2,1,[7],0),(2,1,[11],0)]
def bYD:List aA1:=[(ByteArray.mk #[115,101,110,100],12,[(0,10,1),(1,10,13)]),(ByteArray.mk #[115,121,110,99,48],10,[(3,10,4),(2,10,7)]),(ByteArray.mk #[116,97,107,101],15,[(4,10,2),(5,10,16)]),(ByteArray.mk #[115,121,110,99,49],10,[(7,10,8),(6,10,3)])]
def hots:List aAp:=[(ByteArray.mk #[98,117,115,121],17),(ByteArray.mk #[111,117,116],6)]
theorem cFo (m:Nat)(k:ByteArray->List aAp->List aAP->List Nd->List aA1->List aAp->Int->Option R):bW7 (m+2000) 1 k=k hnm (bYC 1) (bYu 1) (bYz 1) bYD hots 0:=by kernel_rfl
theorem cFp (m:Nat)(k:ByteArray->List aAp->List aAP->List Nd->List aA1->List aAp->Int->Option R):bW7 (m+2000) 2 k=k hnm (bYC 2) (bYu 2) (bYz 2) bYD hots 0:=by kernel_rfl
theorem cFq (m:Nat)(k:ByteArray->List aAp->List aAP->List Nd->List aA1->List aAp->Int->Option R):bW7 (m+2000) 3 k=k hnm (bYC 3) (bYu 3) (bYz 3) bYD hots 0:=by kernel_rfl
theorem cFr (m:Nat)(k:ByteArray->List aAp->List aAP->List Nd->List aA1->List aAp->Int->Option R):bW7 (m+2000) 4 k=k hnm (bYC 4) (bYu 4) (bYz 4) bYD hots 0:=by kernel_rfl
structure HsSt where
 d:Int
 rq:Int
 aa:Int
 ab:Int
 gt:Int
 ak:Int
 ra:Int
 rb:Int
def HsSt.l (h:HsSt):List Int:=[h.d,h.rq,h.aa,h.ab,h.gt,h.ak,h.ra,h.rb]
def hT (h:HsSt)(dom send v:Int):HsSt:=
 if dom=0 then (if send=1∧h.rq=h.ab then ⟨v,1-h.rq,h.ak,h.aa,h.gt,h.ak,h.ra,h.rb⟩else ⟨h.d,h.rq,h.ak,h.aa,h.gt,h.ak,h.ra,h.rb⟩)
 else (if h.rb=h.ak then ⟨h.d,h.rq,h.aa,h.ab,h.gt,h.ak,h.rq,h.ra⟩else ⟨h.d,h.rq,h.aa,h.ab,h.d,1-h.ak,h.rq,h.ra⟩)
def hF (h:HsSt)(dom send:Int):List Int:=
 if dom=0 then (if send=1∧h.rq=h.ab then [0,1]else [1])else (if h.rb=h.ak then [3]else [2,3])
def bt (x:Int):Prop:=x=0∨x=1
structure HB (h:HsSt):Prop where
 rq:bt h.rq
 aa:bt h.aa
 ab:bt h.ab
 ak:bt h.ak
 ra:bt h.ra
 rb:bt h.rb
theorem cFn {h:HsSt}(hb:HB h)(dom send v:Int):HB (hT h dom send v):=by
 obtain⟨h1,h2,h3,h4,h5,h6⟩:=hb
 have n:∀ x,bt x->bt (1-x):=fun x hx=>by
  rcases hx with rfl | rfl
  ·exact .inr rfl
  ·exact .inl rfl
 unfold hT
 split
 ·split
  ·exact⟨n _ h1,h4,h2,h4,h5,h6⟩
  ·exact⟨h1,h4,h2,h4,h5,h6⟩
 ·split
  ·exact⟨h1,h2,h3,h4,h1,h5⟩
  ·exact⟨h1,h2,h3,n _ h4,h1,h5⟩
theorem hs0 (w:Int)(h:HsSt)(hb:HB h){go:Int}(hg:bt go)(v:Int):tkS (bYz w) (bYu w) bYD 0 [go,v] h.l=((hT h 0 go v).l,hF h 0 go):=by
 obtain⟨d,rq,aa,ab,gt,ak,ra,rb⟩:=h
 obtain⟨h1,h2,h3,h4,h5,h6⟩:=hb
 rcases hg with rfl | rfl <;> rcases h1 with h1 | h1 <;> rcases h3 with h3 | h3 <;> dsimp only at h1 h3 <;> subst h1 <;> subst h3 <;> kernel_rfl
theorem hs1 (w:Int)(h:HsSt)(hb:HB h)(go v:Int):tkS (bYz w) (bYu w) bYD 1 [go,v] h.l=((hT h 1 go v).l,hF h 1 go):=by
 obtain⟨d,rq,aa,ab,gt,ak,ra,rb⟩:=h
 obtain⟨h1,h2,h3,h4,h5,h6⟩:=hb
 rcases h4 with h4 | h4 <;> rcases h6 with h6 | h6 <;> dsimp only at h4 h6 <;> subst h4 <;> subst h6 <;> kernel_rfl
theorem cBc (w:Int)(h:HsSt)(hb:HB h)(go v:Int):(hots.map fun o=>w0 (dV (bYz w) [go,v] h.l) o.2.toNat)=[if h.rq=h.ab then 0 else 1,h.gt]:=by
 obtain⟨d,rq,aa,ab,gt,ak,ra,rb⟩:=h
 obtain⟨h1,h2,h3,h4,h5,h6⟩:=hb
 rcases h1 with h1 | h1 <;> rcases h3 with h3 | h3 <;> dsimp only at h1 h3 <;> subst h1 <;> subst h3 <;> kernel_rfl
structure HsD (R:Type) (m:Nat) (w:Int):Prop where
 w4:1<=w∧w<=4
 cc:aHS hnm (bYC w) (bYu w) (bYz w) bYD hots []=0
 ele:∀ k:List aAP->Option R,bXB (m+2000) w k=k (bYu w)
 lk:∀ k:Bool->Option R,bYj (m+2000) hnm (bYC w) (bYu w) (bYz w) bYD hots [] (ByteArray.mk #[104,97,110,100,115,104,97,107,101]) [((ByteArray.mk #[103,111]),1),((ByteArray.mk #[118,97,108,117,101]),w)] (bYu w) [(ByteArray.mk #[115,101,110,100]),(ByteArray.mk #[115,121,110,99,48]),(ByteArray.mk #[116,97,107,101]),(ByteArray.mk #[115,121,110,99,49])] [(ByteArray.mk #[98,117,115,121]),(ByteArray.mk #[111,117,116])] k=k true
 ug:∀ k:Int->Bool->Option R,bX2 (m+2000) hnm (bYC w) (bYu w) (bYz w) bYD hots [] [0] k=k 0 false
theorem cGr (m:Nat):HsD R m 1:=⟨by decide,by kernel_rfl,fun k=>by kernel_rfl,fun k=>by kernel_rfl,fun k=>by kernel_rfl⟩
theorem cGs (m:Nat):HsD R m 2:=⟨by decide,by kernel_rfl,fun k=>by kernel_rfl,fun k=>by kernel_rfl,fun k=>by kernel_rfl⟩
theorem cGt (m:Nat):HsD R m 3:=⟨by decide,by kernel_rfl,fun k=>by kernel_rfl,fun k=>by kernel_rfl,fun k=>by kernel_rfl⟩
theorem cGu (m:Nat):HsD R m 4:=⟨by decide,by kernel_rfl,fun k=>by kernel_rfl,fun k=>by kernel_rfl,fun k=>by kernel_rfl⟩
theorem hsD (m:Nat){w:Int}(hw:1<=w∧w<=4):HsD R m w:=by
 have:w=1∨w=2∨w=3∨w=4:=by omega
 rcases this with rfl | rfl | rfl | rfl
 ·exact cGr m
 ·exact cGs m
 ·exact cGt m
 ·exact cGu m
theorem cCI (m:Nat){w:Int}(hw:1<=w∧w<=4)(k:ByteArray->List aAp->List aAP->List Nd->List aA1->List aAp->Int->Option R):bW7 (m+2000) w k=k hnm (bYC w) (bYu w) (bYz w) bYD hots 0:=by
 have:w=1∨w=2∨w=3∨w=4:=by omega
 rcases this with rfl | rfl | rfl | rfl
 ·exact cFo m k
 ·exact cFp m k
 ·exact cFq m k
 ·exact cFr m k
abbrev EvT:=Int×Int
def evB (w:Int)(e:EvT):Bool:=(decide (e.1=0)&&(decide (e.2=-1)||vok w e.2))||(decide (e.1=1)&&decide (0<=e.2∧e.2<=1))
def evE (w:Int)(l:List EvT):Int:=if (60:Int)<(l.length:Int)then 8 else if l.all (evB w)=true then 0 else 2
theorem cEM {w:Int}{l:List EvT}(h:evE w l=0):l.length<=60∧∀ e,e∈l->evB w e=true:=by
 unfold evE at h
 split at h
 ·exact absurd h (by decide)
 ·split at h
  ·rename_i a b;exact⟨by omega,fun e he=>List.all_eq_true.1 b e he⟩
  ·exact absurd h (by decide)
theorem cDZ {w:Int}{e:EvT}(h:evB w e=true):(e.1=0∧(e.2=-1∨vok w e.2=true))∨(e.1=1∧0<=e.2∧e.2<=1):=by
 unfold evB at h
 simp only[Bool.or_eq_true,Bool.and_eq_true,decide_eq_true_eq]at h
 exact h
section
variable {N:Nat}
theorem cFl (hN:10<=N)(i:Int)(e:EvT){w:Int}(hw:1<=w∧w<=4)(k:Int->Int->Option R):aG5 N i e.1 e.2 w k=k (if evB w e=true then 0 else 2) w:=by
 have hp:=aQ8 w;have hp2:p2 w<=65536:=bDz (by omega)
 unfold aG5
 rw[aAc (by omega)]
 by_cases c:e.1=1
 ·rw[aAd c,bYM,bY2,decide_eq_true (by omega),if_pos rfl]
  try dsimp only
  rw[bYM,bY2]
  try dsimp only
  rw[cA5 N hN,aGq]
  congr 1
  by_cases q:0<=e.2∧e.2<=1
  ·rw[decide_eq_true q,if_pos rfl,if_pos]
   unfold evB;simp[c,q]
  ·rw[decide_eq_false q,if_neg (by simp),if_neg]
   unfold evB;simp[c];omega
 ·rw[aAc c,bYM,bY2]
  try dsimp only
  rw[aVr (by omega) (by omega),aDt (by omega) (by omega),bYM,bY2]
  try dsimp only
  rw[cA5 N hN]
  congr 1
  by_cases q:0<=e.1∧e.1<=1
  ·have c0:e.1=0:=by omega
   rw[decide_eq_true q,if_pos rfl,aGq]
   by_cases q2:-1<=e.2∧e.2<=p2 w-1
   ·rw[decide_eq_true q2,if_pos rfl,if_pos]
    unfold evB vok;simp[c0];omega
   ·rw[decide_eq_false q2,if_neg (by simp),if_neg]
    unfold evB vok;simp[c0];omega
  ·rw[decide_eq_false q,if_neg (by simp),aKn (by decide),if_neg]
   unfold evB;simp;omega
theorem cA7 (hN:10<=N)(k0:Int->Int->Option R)(k1:Int->Option R)(l:List EvT)(hl:l.length<=1000){w:Int}(hw:1<=w∧w<=4):∀ (r:List EvT) (n i:Nat),l.drop i=r->r.length<n ->
  aBH N k0 k1 n l l.length i w=if r.all (evB w)=true then k1 w else k0 2 w
 | [],n,i,h,hn=>by
  obtain⟨n,rfl⟩:=sc hn
  rw[aBH,aAc (aAm h)];rfl
 | x :: r,n,i,h,hn=>by
  obtain⟨n,rfl⟩:=sc hn
  obtain⟨g1,g2,g3⟩:=aAh h
  rw[aBH,aAd (by omega),g2,aAe,cFl hN _ x hw,List.all_cons]
  try dsimp only
  cases evB w x
  ·rw[if_neg (by simp),aAd (by decide),Bool.false_and,if_neg (by simp)]
  ·rw[if_pos rfl,aAc (by simp),Bool.true_and,aAl (by omega)]
   exact cA7 hN k0 k1 l hl hw r n (i+1) g3 (by simp at hn;omega)
theorem cA8 (hN:1000<=N)(l:List EvT){w:Int}(hw:1<=w∧w<=4)(k:Int->Option R):aHV N l w k=k (evE w l):=by
 unfold aHV evE
 by_cases c:(60:Int)<(l.length:Int)
 ·rw[aAd c,if_pos c]
 ·rw[aAc c,if_neg c]
  unfold aDa
  refine (cA7 (by omega) _ _ l (by omega) hw l N 0 rfl (by omega)).trans ?_
  split <;> rfl
theorem cFs (k0:Int->Option R)(k1:Int->List EvT->Int->Option R){w:Int}(l:List EvT)(i:Int)(b:Bool)(e:EvT):bW1 N k0 k1 w l i b e.1 e.2=if (b||(decide (e.1=1)&&decide (0<=e.2∧e.2<=1)))=true then k1 w l i else k0 2:=by
 unfold bW1
 by_cases c:e.1=1
 ·rw[aAd c,aD5,decide_eq_true c,Bool.true_and]
  cases b
  ·cases decide (0<=e.2∧e.2<=1)
   ·rw[Bool.false_or,if_neg (by simp)];rfl
   ·rw[Bool.false_or,if_pos rfl];rfl
  ·rw[Bool.true_or,if_pos rfl];rfl
 ·rw[aAc c,decide_eq_false c,Bool.false_and,Bool.or_false]
  cases b <;> rfl
theorem bZJ (k0:Int->Option R)(k1:Option R)(l:List EvT)(hl:l.length<=1000){w:Int}(hw:1<=w∧w<=4):∀ (r:List EvT) (n i:Nat),l.drop i=r->r.length<n ->
  bWX N k0 k1 n w l i=if r.all (evB w)=true then k1 else k0 2
 | [],n,i,h,hn=>by
  obtain⟨n,rfl⟩:=sc hn
  rw[bWX,aAc (aAm h)];rfl
 | x :: r,n,i,h,hn=>by
  obtain⟨n,rfl⟩:=sc hn
  obtain⟨g1,g2,g3⟩:=aAh h
  have ih:=bZJ k0 k1 l hl hw r n (i+1) g3 (by simp at hn;omega)
  have fin:∀ b,b=(decide (x.1=0)&&(decide (x.2=-1)||vok w x.2))->bW1 N k0 (fun z3 z4 z5=>(bWX N k0 k1 n z3 z4 (w64 (z5+1)))) w l i b x.1 x.2=if (x :: r).all (evB w)=true then k1 else k0 2:=by
   rintro b rfl
   rw[cFs,List.all_cons,show ((decide (x.1=0)&&(decide (x.2=-1)||vok w x.2))||(decide (x.1=1)&&decide (0<=x.2∧x.2<=1)))=evB w x from rfl]
   try dsimp only
   cases evB w x
   ·rw[if_neg (by simp),Bool.false_and,if_neg (by simp)]
   ·rw[if_pos rfl,Bool.true_and,aAl (by omega),ih]
  rw[bWX,aAd (by omega),g2,aAe]
  by_cases c:x.1=0
  ·rw[aAd c]
   by_cases c2:x.2=-1
   ·rw[aAd c2]
    exact fin _ (by simp[c,c2])
   ·rw[aAc c2,aSq N x.2 (by omega) (by omega)]
    exact fin _ (by simp[c,c2])
  ·rw[aAc c]
   exact fin _ (by simp[c])
theorem bYW (hN:1000<=N)(l:List EvT){w:Int}(hw:1<=w∧w<=4)(k:Int->Option R):bXI N w l k=k (evE w l):=by
 unfold bXI evE
 by_cases c:(60:Int)<(l.length:Int)
 ·rw[aAd c,if_pos c]
 ·rw[aAc c,if_neg c]
  refine (bZJ k (k 0) l (by omega) hw l N 0 rfl (by omega)).trans ?_
  split <;> rfl
end
def hIs (h:HsSt)(dom send:Int):Bool:=if dom=0 then decide (send=1∧h.rq=h.ab)else decide (h.rb≠h.ak)
def bXE (e:EvT):Int:=if e.1=0∧e.2≠-1 then 1 else 0
def pas:List EvT->HsSt->List Int->List Int->List Int×List Int
 | [],_,a,b=>(a,b)
 | e :: r,h,a,b=>pas r (hT h e.1 (bXE e) (max 0 e.2)) (if e.1=0∧hIs h e.1 (bXE e)=true then a++[e.2]else a) (if e.1=1∧hIs h e.1 (bXE e)=true then b++[(hT h e.1 (bXE e) (max 0 e.2)).gt]else b)
theorem bZO {c:Prop} [Decidable c] (a:List Int)(x:Int):(if c then a++[x]else a).length<=a.length+1:=by
 split
 ·simp
 ·omega
theorem bYB (e:EvT):bt (bXE e):=by unfold bXE bt;split <;> simp
section
variable {N:Nat}
theorem rhT (h:HsSt)(hb:HB h)(dom send v:Int)(k:Int->Int->Int->Int->Int->Int->Int->Int->Bool->Option R):bXe N h.d h.rq h.aa h.ab h.gt h.ak h.ra h.rb dom send v k=k (hT h dom send v).d (hT h dom send v).rq (hT h dom send v).aa (hT h dom send v).ab (hT h dom send v).gt (hT h dom send v).ak (hT h dom send v).ra (hT h dom send v).rb (hIs h dom send):=by
 obtain⟨h1,h2,h3,h4,h5,h6⟩:=hb
 have e1:w64 (1-h.rq)=1-h.rq:=aDt (by rcases h1 with q | q <;> omega) (by rcases h1 with q | q <;> omega)
 have e2:w64 (1-h.ak)=1-h.ak:=aDt (by rcases h4 with q | q <;> omega) (by rcases h4 with q | q <;> omega)
 unfold bXe hT hIs
 rw[e1,e2]
 by_cases c:dom=0
 ·rw[aAd c,if_pos c,if_pos c]
  by_cases c1:send=1
  ·rw[aAd c1]
   by_cases c2:h.rq=h.ab
   ·rw[aAd c2,if_pos ⟨c1,c2⟩,decide_eq_true c2,decide_eq_true ⟨c1,c2⟩]
   ·rw[aAc c2,if_neg (fun q=>c2 q.2),decide_eq_false c2,decide_eq_false (fun q=>c2 q.2)]
  ·rw[aAc c1,if_neg (fun q=>c1 q.1),decide_eq_false (fun q=>c1 q.1)]
 ·rw[aAc c,if_neg c,if_neg c]
  by_cases c2:h.rb=h.ak
  ·rw[aAc (by simpa using c2),if_pos c2,decide_eq_false (by simpa using c2)]
  ·rw[aAd c2,if_neg c2,decide_eq_true c2]
theorem cER (k0:List EvT->Int->Int->Int->Int->Int->Int->Int->Int->Int->List Int->List Int->Option R)(l:List EvT){i:Nat}{e:EvT}(hat:at? l (i:Int)=some e)(he:e.1=0∨e.1=1)(h:HsSt)(hb:HB h)(send:Int)(a b:List Int)(ha:a.length<=1000)(hbl:b.length<=1000) :
  bXh N k0 l i send h.d h.rq h.aa h.ab h.gt h.ak h.ra h.rb a b=k0 l i (hT h e.1 send (max 0 e.2)).d (hT h e.1 send (max 0 e.2)).rq (hT h e.1 send (max 0 e.2)).aa (hT h e.1 send (max 0 e.2)).ab (hT h e.1 send (max 0 e.2)).gt (hT h e.1 send (max 0 e.2)).ak (hT h e.1 send (max 0 e.2)).ra (hT h e.1 send (max 0 e.2)).rb (if e.1=0∧hIs h e.1 send=true then a++[e.2]else a) (if e.1=1∧hIs h e.1 send=true then b++[(hT h e.1 send (max 0 e.2)).gt]else b):=by
 unfold bXh
 rw[hat,aAe,aAe,rhT h hb]
 try dsimp only
 generalize hT h e.1 send (max 0 e.2)=g
 cases q:hIs h e.1 send
 ·rw[cond_false,if_neg (by simp),if_neg (by simp)]
  unfold bXc
  rw[cond_false]
 ·rw[cond_true,aAe]
  rcases he with c | c
  ·rw[aAd c,aAe,aBs (by omega),cond_true,if_pos ⟨c,rfl⟩,if_neg (by omega)]
   unfold bXc
   rw[cond_true,hat,aAe,aAc (by omega)]
  ·rw[aAc (by omega),if_neg (by omega),if_pos ⟨c,rfl⟩]
   unfold bXc
   rw[cond_true,hat,aAe,aAd c,aBs (by omega),cond_true]
theorem bZa (k0:List Int->List Int->Option R)(l:List EvT)(hl:l.length<=100):∀ (r:List EvT) (n i:Nat) (h:HsSt) (a b:List Int),l.drop i=r->r.length<n->HB h->(∀ e,e∈r->e.1=0∨e.1=1)->a.length<=i->b.length<=i ->
  bW3 N k0 n l i h.d h.rq h.aa h.ab h.gt h.ak h.ra h.rb a b=k0 (pas r h a b).1 (pas r h a b).2
 | [],n,i,h,a,b,hd,hn,hb,he,ha,hbl=>by
  obtain⟨n,rfl⟩:=sc hn
  rw[bW3,aAc (aAm hd)];rfl
 | x :: r,n,i,h,a,b,hd,hn,hb,he,ha,hbl=>by
  obtain⟨n,rfl⟩:=sc hn
  obtain⟨g1,g2,g3⟩:=aAh hd
  have hx:=he x List.mem_cons_self
  have fin:∀ s,s=bXE x->bXh N (fun z50 z51 z52 z53 z54 z55 z56 z57 z58 z59 z60 z61=>(bW3 N k0 n z50 (w64 (z51+1)) z52 z53 z54 z55 z56 z57 z58 z59 z60 z61)) l i s h.d h.rq h.aa h.ab h.gt h.ak h.ra h.rb a b=k0 (pas (x :: r) h a b).1 (pas (x :: r) h a b).2:=by
   rintro s rfl
   rw[cER _ l g2 hx h hb _ a b (by omega) (by omega)]
   try dsimp only
   rw[aAl (by omega)]
   exact bZa k0 l hl r n (i+1) _ _ _ g3 (by simp at hn;omega) (cFn hb _ _ _) (fun e h=>he e (List.mem_cons_of_mem _ h)) (Nat.le_trans (bZO _ _) (by omega)) (Nat.le_trans (bZO _ _) (by omega))
  rw[bW3,aAd (by omega),g2,aAe]
  by_cases c:x.1=0
  ·rw[aAd c,aAe,cB5]
   refine fin _ ?_
   unfold b2i bXE
   by_cases c2:x.2=-1
   ·rw[if_neg (by simp[c2]),if_neg (by simp[c2])]
   ·rw[if_pos (by simp[c2]),if_pos ⟨c,c2⟩]
  ·rw[aAc c,cB5]
   refine fin _ ?_
   unfold b2i bXE
   rw[if_neg (by simp),if_neg (fun q=>c q.1)]
def h80:HsSt:=⟨0,0,0,0,0,0,0,0⟩
theorem cFm:HB h80:=⟨.inl rfl,.inl rfl,.inl rfl,.inl rfl,.inl rfl,.inl rfl⟩
theorem cD3 (l:List EvT)(hl:l.length<=100)(hN:l.length<N)(he:∀ e,e∈l->e.1=0∨e.1=1)(k:List Int->List Int->Option R):bXZ N l k=k (pas l h80 [] []).1 (pas l h80 [] []).2:=by
 unfold bXZ
 exact bZa k l hl l N 0 h80 [] [] rfl hN cFm he (by simp) (by simp)
def pF (v g:Int):List Int->List Int->List Int->List Int×List Int
 | [],a,b=>(a,b)
 | x :: r,a,b=>if x=0 then pF v g r (a++[v]) b else if x=2 then pF v g r a (b++[g])else pF v g r a b
theorem cGw (v g:Int)(h:HsSt){dom send:Int}(hd:dom=0∨dom=1)(a b:List Int):pF v g (hF h dom send) a b=(if dom=0∧hIs h dom send=true then a++[v]else a,if dom=1∧hIs h dom send=true then b++[g]else b):=by
 unfold hF hIs
 rcases hd with rfl | rfl
 ·rw[if_pos rfl,if_pos rfl,if_neg (show ¬((0:Int)=1∧_)from fun q=>absurd q.1 (by decide))]
  by_cases c:send=1∧h.rq=h.ab
  ·rw[if_pos c,if_pos ⟨rfl,decide_eq_true c⟩];rfl
  ·rw[if_neg c,if_neg (fun q=>c (of_decide_eq_true q.2))];rfl
 ·have z:¬(1:Int)=0:=by decide
  rw[if_neg z,if_neg z,if_neg (show ¬((1:Int)=0∧_)from fun q=>z q.1)]
  by_cases c:h.rb=h.ak
  ·rw[if_pos c,if_neg (fun q=>absurd c (of_decide_eq_true q.2))];rfl
  ·rw[if_neg c,if_pos ⟨rfl,decide_eq_true c⟩];rfl
variable {nm:ByteArray} {ins:List aAp} {els:List aAP} {nodes:List Nd} {rules:List aA1} {outs:List aAp} {attrs:List aCE} {lw:List Int}
theorem pl1 (k0:KD (List Int->List Int->List EvT->Int->Int->List Int->List Int->Option R))(now nx:List Int)(g:Int)(hg:at? nx 4=some g)(l:List EvT)(len i:Int)(fl:List Int)(hfl:fl.length<=1000)(d v:Int):∀ (r:List Int) (n j:Nat) (a b:List Int),fl.drop j=r->r.length<n->a.length<=1000+j->b.length<=1000+j ->
  bWV N k0 n nm ins els nodes rules outs attrs lw now nx l len i fl fl.length j a b d v=k0 nm ins els nodes rules outs attrs lw nx l len i (pF v g r a b).1 (pF v g r a b).2
 | [],n,j,a,b,hd,hn,ha,hb=>by
  obtain⟨n,rfl⟩:=sc hn
  rw[bWV,aAc (aAm hd)];rfl
 | x :: r,n,j,a,b,hd,hn,ha,hb=>by
  obtain⟨n,rfl⟩:=sc hn
  obtain⟨g1,g2,g3⟩:=aAh hd
  have ih:=fun a b q1 q2=>pl1 k0 now nx g hg l len i fl hfl d v r n (j+1) a b g3 (by simp at hn;omega) q1 q2
  rw[bWV,aAd (by omega),g2,aAe,pF]
  by_cases c:x=0
  ·rw[aAd c,if_pos c,aBs (by omega),cond_true,aAl (by omega),ih _ _ (by simp;omega) (by omega)]
  ·rw[aAc c,if_neg c]
   by_cases c2:x=2
   ·rw[aAd c2,if_pos c2]
    unfold bYg
    rw[hg,aAe]
    try dsimp only
    rw[aBs (by omega),cond_true,aAl (by omega),ih _ _ (by omega) (by simp;omega)]
   ·rw[aAc c2,if_neg c2,aAl (by omega),ih _ _ (by omega) (by omega)]
end
section
variable {N:Nat}
theorem cGq (h:HsSt)(s v:Int):hT h 1 s v=hT h 1 0 0∧hF h 1 s=hF h 1 0∧hIs h 1 s=hIs h 1 0:=by
 unfold hT hF hIs
 have z:¬(1:Int)=0:=by decide
 exact⟨by rw[if_neg z,if_neg z],by rw[if_neg z,if_neg z],by rw[if_neg z,if_neg z]⟩
theorem cGc {w:Int}{go v:Int}(hg:bt go)(hv:vok w v=true):LV (inW (bYC w)) [go,v]:=by
 refine LV_fit.2 ⟨rfl,?_⟩
 show (vok 1 go&&(vok w v&&true))=true
 rw[cGy hg,hv];rfl
theorem cGd {w:Int}(hw:1<=w):vok w 0=true:=by
 have:=aQ8 w
 exact decide_eq_true ⟨by omega,by omega⟩
theorem pl0 (m:Nat)(hm:N=m+2000){w:Int}(hD:HsD R m w)(hd:DH N hnm (bYC w) (bYu w) (bYz w) bYD hots [])(hc:aHq hnm (bYC w) (bYu w) (bYz w) bYD hots []=0)(k0:List Int->List Int->Option R)(l:List EvT)(hl:l.length<=100):∀ (r:List EvT) (n i:Nat) (h:HsSt) (a b:List Int),l.drop i=r->r.length<n->HB h->LV (elW (bYu w)) h.l->(∀ e,e∈r->evB w e=true)->a.length<=2*i->b.length<=2*i ->
  bWY N k0 n hnm (bYC w) (bYu w) (bYz w) bYD hots [] (aIV (bYC w) (bYu w)) h.l l l.length i a b=k0 (pas r h a b).1 (pas r h a b).2
 | [],n,i,h,a,b,hdr,hn,hb,hL,he,ha,hbl=>by
  obtain⟨n,rfl⟩:=sc hn
  rw[bWY,aAc (aAm hdr)];rfl
 | x :: r,n,i,h,a,b,hdr,hn,hb,hL,he,ha,hbl=>by
  obtain⟨n,rfl⟩:=sc hn
  obtain⟨g1,g2,g3⟩:=aAh hdr
  have hw:=hD.w4
  have hx:=cDZ (he x List.mem_cons_self)
  have hx1:x.1=0∨x.1=1:=hx.elim (fun q=>.inl q.1) fun q=>.inr q.1
  have hv:=bEG hc
  -- one tick
  have fin:∀ (go v:Int),bt go->vok w v=true->tkS (bYz w) (bYu w) bYD x.1 [go,v] h.l=((hT h x.1 (bXE x) (max 0 x.2)).l,hF h x.1 (bXE x)) ->
    aFF N hnm (bYC w) (bYu w) (bYz w) bYD hots [] (aIV (bYC w) (bYu w)) x.1 [go,v] h.l (fun y4 y5=>(bWV N (fun z6 z7 z8 z9 z10 z11 z12 z13 z14 z15 z16 z17 z18 z19=>(bWY N k0 n z6 z7 z8 z9 z10 z11 z12 z13 z14 z15 z16 (w64 (z17+1)) z18 z19)) N hnm (bYC w) (bYu w) (bYz w) bYD hots [] (aIV (bYC w) (bYu w)) h.l y4 l l.length i y5 ((y5.length:Nat):Int) 0 a b x.1 x.2))=k0 (pas (x :: r) h a b).1 (pas (x :: r) h a b).2:=by
   intro go v hgo hvv ht
   have hLi:=cGc hgo hvv
   have hLt:=cBo hv x.1 hLi hL
   rw[cEU (by omega) hd hc x.1 hLi hL,ht]
   rw[ht]at hLt
   try dsimp only
   have hfl:(hF h x.1 (bXE x)).length<=2:=by unfold hF;split <;> split <;> simp
   refine (pl1 _ h.l _ (hT h x.1 (bXE x) (max 0 x.2)).gt rfl l l.length i _ (by omega) x.1 x.2 _ N 0 a b rfl (by rw[List.drop_zero];omega) (by omega) (by omega)).trans ?_
   try dsimp only
   rw[List.drop_zero,cGw _ _ h hx1,aAl (by omega)]
   try dsimp only
   exact pl0 m hm hD hd hc k0 l hl r n (i+1) _ _ _ g3 (by simp at hn;omega) (cFn hb _ _ _) hLt (fun e q=>he e (List.mem_cons_of_mem _ q)) (Nat.le_trans (bZO _ _) (by omega)) (Nat.le_trans (bZO _ _) (by omega))
  rw[bWY,aAd (by omega),g2,aAe]
  unfold bYf
  rcases hx with⟨q1,q2⟩ | ⟨q1,q2,q3⟩
  ·have hs:(bif decide (0<=x.2)then (1:Int)else 0)=bXE x:=by
    unfold bXE
    rcases q2 with q | q
    ·rw[aAc (by omega),if_neg (by omega)]
    ·have:=of_decide_eq_true q
     rw[aAd this.1,if_pos ⟨q1,by omega⟩]
   have hvv:vok w (max 0 x.2)=true:=by
    rcases q2 with q | q
    ·rw[q];exact cGd hw.1
    ·have:=of_decide_eq_true q
     rw[show max 0 x.2=x.2 by omega];exact q
   have hone:∀ k:Int->Option R,aMI N (decide (0<=x.2)) k=k (bXE x):=by
    intro k
    rw[<- hs]
    unfold aMI
    cases decide (0<=x.2) <;> rfl
   rw[aAc (by omega),hone]
   try dsimp only
   have t:=fin (bXE x) (max 0 x.2) (bYB x) hvv (by rw[q1];exact hs0 w h hb (bYB x) _)
   rw[q1]at t
   rw[show max x.2 0=max 0 x.2 by omega,q1]
   exact t
  ·obtain⟨e1,e2,_⟩:=cGq h (bXE x) (max 0 x.2)
   rw[aAd q1]
   try dsimp only
   have t:=fin 0 0 (.inl rfl) (cGd hw.1) (by rw[q1,e1,e2];exact hs1 w h hb 0 0)
   rw[q1]at t
   rw[q1]
   exact t
theorem cBB (m:Nat)(hm:N=m+2000){w:Int}(hw:1<=w∧w<=4)(l:List EvT)(k:List Int->List Int->Int->Option R):bX5 N w l k=if evE w l≠0 then k [] [] (evE w l)else k (pas l h80 [] []).1 (pas l h80 [] []).2 0:=by
 have hD:=hsD (R:=R) m hw
 have c0:aHq hnm (bYC w) (bYu w) (bYz w) bYD hots []=0:=by
  have hc:=hD.cc
  unfold aHS at hc
  by_cases z:aHq hnm (bYC w) (bYu w) (bYz w) bYD hots []=0
  ·exact z
  ·rw[if_pos z]at hc;exact hc
 have hd:=bZH (N:=N) (by omega) c0
 obtain⟨c1,c2,hv⟩:=bDM (by omega) hd hD.cc
 unfold bX5
 have ho:=cCI (R:=R) m hw
 rw[<- hm]at ho
 rw[ho,aAc (by simp),cA8 (by omega) l hw]
 try dsimp only
 by_cases q:evE w l=0
 ·obtain⟨q1,q2⟩:=cEM q
  rw[aAc (by simpa using q),if_neg (by simpa using q)]
  unfold bXO
  rw[aY8 (by omega) hd,if_neg (by simpa using c1),c2,aAc (by simp),cGx (by omega) hd c1 [] (by simp) (by simp)]
  show (at? [elI (bYu w)] 0).bind _=_
  rw[show at? [elI (bYu w)] 0=some h80.l from rfl,aAe]
  exact pl0 m hm hD hd c1 _ l (by omega) l N 0 h80 [] [] rfl (by omega) cFm (bY5 hv.dv) q2 (by simp) (by simp)
 ·rw[aAd q,if_pos q]
end
theorem cBg:∀ (r:List EvT) (h:HsSt) (a b:List Int),(pas r h a b).1.length<=a.length+r.length∧(pas r h a b).2.length<=b.length+r.length
 | [],h,a,b=>⟨by simp[pas],by simp[pas]⟩
 | e :: r,h,a,b=>by
  obtain⟨i1,i2⟩:=cBg r (hT h e.1 (bXE e) (max 0 e.2)) (if e.1=0∧hIs h e.1 (bXE e)=true then a++[e.2]else a) (if e.1=1∧hIs h e.1 (bXE e)=true then b++[(hT h e.1 (bXE e) (max 0 e.2)).gt]else b)
  have j1:=bZO (c:=e.1=0∧hIs h e.1 (bXE e)=true) a e.2
  have j2:=bZO (c:=e.1=1∧hIs h e.1 (bXE e)=true) b (hT h e.1 (bXE e) (max 0 e.2)).gt
  unfold pas
  rw[List.length_cons]
  exact⟨by omega,by omega⟩
section
variable {N:Nat}
theorem cCH (m:Nat)(hm:N=m+2000){w:Int}(hD:HsD R m w)(hd:DH N hnm (bYC w) (bYu w) (bYz w) bYD hots [])(hv:CV N (bYC w) (bYu w) (bYz w) bYD hots)(k0:Bool->Option R)(k1:Option R)(l:List EvT)(hl:l.length<=100):∀ (r:List EvT) (n i:Nat) (h:HsSt),l.drop i=r->r.length<n->HB h->LV (elW (bYu w)) h.l->(∀ e,e∈r->evB w e=true) ->
  bWW N k0 k1 n w l h.l i hnm (bYC w) (bYu w) (bYz w) bYD hots h.d h.rq h.aa h.ab h.gt h.ak h.ra h.rb=k1
 | [],n,i,h,hdr,hn,hb,hL,he=>by
  obtain⟨n,rfl⟩:=sc hn
  rw[bWW,aAc (aAm hdr)]
 | x :: r,n,i,h,hdr,hn,hb,hL,he=>by
  obtain⟨n,rfl⟩:=sc hn
  obtain⟨g1,g2,g3⟩:=aAh hdr
  have hw:=hD.w4
  have hp:=aQ8 w
  have hp2:p2 w<=65536:=bDz (by omega)
  have hx1:x.1=0∨x.1=1:=(cDZ (he x List.mem_cons_self)).elim (fun q=>.inl q.1) fun q=>.inr q.1
  have m1:=Int.emod_nonneg (max 0 x.2) (show p2 w≠0 by omega)
  have m2:=Int.emod_lt_of_pos (max 0 x.2) hp
  have fin:∀ K:Int->List EvT->List Int->Int->ByteArray->List aAp->List aAP->List Nd->List aA1->List aAp->Int->Int->Int->Int->Int->Int->Int->Int->Option R,(∀ a b c d e f g h' i' j k' l' m' n' o p q r',K a b c d e f g h' i' j k' l' m' n' o p q r'=bWW N k0 k1 n a b c (w64 (d+1)) e f g h' i' j k' l' m' n' o p q r')->bW2 N k0 K w l h.l i (bXE x) hnm (bYC w) (bYu w) (bYz w) bYD hots h.d h.rq h.aa h.ab h.gt h.ak h.ra h.rb=k1:=by
   intro K hK
   have hvv:vok w (max 0 x.2%p2 w)=true:=decide_eq_true ⟨m1,by omega⟩
   have hLi:=cGc (bYB x) hvv
   have hLt:=cBo hv.dv x.1 hLi hL
   have ht:tkS (bYz w) (bYu w) bYD x.1 [bXE x,max 0 x.2%p2 w] h.l=((hT h x.1 (bXE x) (max 0 x.2%p2 w)).l,hF h x.1 (bXE x)):=by
    rcases hx1 with q | q
    ·rw[q];exact hs0 w h hb (bYB x) _
    ·rw[q];exact hs1 w h hb _ _
   have hbt:=cFn hb x.1 (bXE x) (max 0 x.2%p2 w)
   unfold bW2
   rw[g2,aAe,aYr N (by omega) (by omega),cEz N _ _ hp (by omega)]
   unfold bXq
   rw[g2,aAe,cFt (by omega) ⟨hd.els.2.1,hd.els.1⟩ hv x.1 hLi hL,ht]
   rw[ht]at hLt
   unfold bXr
   rw[g2,aAe,rhT h hb]
   unfold bXs bXH
   generalize hT h x.1 (bXE x) (max 0 x.2%p2 w)=g at *
   try dsimp only
   rw[show [g.d,g.rq,g.aa,g.ab,g.gt,g.ak,g.ra,g.rb]=g.l from rfl,bDr g.l (by simp[HsSt.l]) (by simp[HsSt.l];omega)]
   try dsimp only
   rw[Bool.not_true,cond_false,cFv (by omega) hv.dv hLi hLt,cBc w g hbt]
   unfold bXC
   rw[cB5]
   try dsimp only
   have e:b2i (decide (g.rq≠g.ab))=if g.rq=g.ab then 0 else 1:=by
    unfold b2i
    by_cases c:g.rq=g.ab
    ·rw[if_neg (by simp[c]),if_pos c]
    ·rw[if_pos (by simp[c]),if_neg c]
   rw[e,bDr _ (by simp) (by simp;omega)]
   try dsimp only
   rw[Bool.not_true,cond_false,hK,aAl (by omega)]
   exact cCH m hm hD hd hv k0 k1 l hl r n (i+1) g g3 (by simp at hn;omega) hbt hLt fun e q=>he e (List.mem_cons_of_mem _ q)
  rw[bWW,aAd (by omega)]
  unfold bXp
  rw[g2,aAe]
  by_cases c:x.1=0
  ·have e:b2i (decide (x.2≠-1))=bXE x:=by
    unfold b2i bXE
    by_cases c2:x.2=-1
    ·rw[if_neg (by simp[c2]),if_neg (by simp[c2])]
    ·rw[if_pos (by simp[c2]),if_pos ⟨c,c2⟩]
   rw[aAd c,aAe,cB5,e]
   exact fin _ fun _ _ _ _ _ _ _ _ _ _ _ _ _ _ _ _ _ _=>rfl
  ·have e:b2i false=bXE x:=by
    unfold b2i bXE
    rw[if_neg (by simp),if_neg (fun q=>c q.1)]
   rw[aAc c,cB5,e]
   exact fin _ fun _ _ _ _ _ _ _ _ _ _ _ _ _ _ _ _ _ _=>rfl
theorem cGi (m:Nat)(hm:N=m+2000){w:Int}(hw:1<=w∧w<=4)(l:List EvT)(hl:l.length<=62)(k:Bool->Option R):bW4 N k w l 0 hnm (bYC w) (bYu w) (bYz w) bYD hots=k true:=by
 have hD:=hsD (R:=R) m hw
 have c0:aHq hnm (bYC w) (bYu w) (bYz w) bYD hots []=0:=by
  have hc:=hD.cc
  unfold aHS at hc
  by_cases z:aHq hnm (bYC w) (bYu w) (bYz w) bYD hots []=0
  ·exact z
  ·rw[if_pos z]at hc;exact hc
 have hd:=bZH (N:=N) (by omega) c0
 obtain⟨c1,c2,hv⟩:=bDM (by omega) hd hD.cc
 have he:=hD.ele;have hk:=hD.lk;have hu:=hD.ug
 rw[<- hm]at he hk hu
 have mid:∀ (a b:List Int) (e:Int),bW5 N k w l 0 a b e hnm (bYC w) (bYu w) (bYz w) bYD hots=bW6 N k w l a b e hnm (bYC w) (bYu w) (bYz w) bYD hots:=by
  intro a b e
  unfold bW5 bXL
  rw[aD5,decide_eq_true hw]
  try dsimp only
  rw[Bool.not_true,cond_false,aAc (by simp)]
  unfold bXt
  rw[aAc (by simp),he,hk]
  try dsimp only
  rw[Bool.not_true,cond_false]
  unfold bXu
  rw[hu]
  rfl
 unfold bW4
 rw[aBs (by omega),cond_true,cBB m hm hw]
 by_cases q:evE w l=0
 rotate_left
 ·rw[if_pos q,mid]
  unfold bW6
  rw[bYW (by omega) l hw]
  try dsimp only
  rw[aAd q,aAd rfl]
  rfl
 obtain⟨q1,q2⟩:=cEM q
 obtain⟨p1,p2'⟩:=cBg l h80 [] []
 rw[List.length_nil]at p1 p2'
 rw[if_neg (by simpa using q),mid]
 unfold bW6
 rw[bYW (by omega) l hw]
 try dsimp only
 rw[aAc (by simpa using q)]
 unfold bXv
 rw[cD3 l (by omega) (by omega) fun e hee=>(cDZ (q2 e hee)).elim (fun q=>.inl q.1) fun q=>.inr q.1]
 unfold bXw
 rw[aAc (by simp),bDr _ (by omega) (by omega)]
 try dsimp only
 rw[Bool.not_true,cond_false,bDr _ (by omega) (by omega)]
 try dsimp only
 rw[Bool.not_true,cond_false]
 unfold bXx bXy
 rw[cDW hd.els.2.1 hd.els.1]
 unfold bXz bXo
 exact cCH m hm hD hd hv k (k true) l (by omega) l N 0 h80 rfl (by omega) cFm (bY5 hv.dv) q2
theorem cFu (m:Nat)(k:Bool->Option R):bX1 (m+2000) (ByteArray.mk #[]) [] [] [] [] [] [] (ByteArray.mk #[]) [] [] [] [] [] [] k=k true:=by kernel_rfl
theorem cFk (m:Nat)(hm:N=m+2000)(w:Int)(l:List EvT)(k:Bool->Option R):bXd N w l k=k true:=by
 unfold bXd
 rw[hm,aXC,<- hm]
 try dsimp only
 rw[Bool.not_true,cond_false]
 by_cases hl:62<((l.length:Nat):Int)
 ·exact aAd hl
 rw[aAc hl]
 by_cases hw:1<=w∧w<=4
 ·have ho:=cCI (R:=R) m hw
  rw[<- hm]at ho
  rw[ho]
  exact cGi m hm hw l (by omega) k
 ·have ho:∀ k:ByteArray->List aAp->List aAP->List Nd->List aA1->List aAp->Int->Option R,bW7 N w k=k (ByteArray.mk #[]) [] [] [] [] [] 2:=by
   intro k
   unfold bW7
   rw[bYM,decide_eq_false hw]
   rfl
  rw[ho]
  unfold bW4
  rw[aBs (by omega),cond_true]
  unfold bX5
  rw[ho,aAd (by decide)]
  try dsimp only
  unfold bW5 bXL
  rw[aD5,decide_eq_false hw]
  try dsimp only
  rw[Bool.not_false,cond_true,aAd (by decide),aAd rfl,aAd rfl,hm,cFu]
  rfl
end
theorem bYx:bYd:=by
 intro x0 x1 _ _
 exact⟨0+2000,fun {R} k=>cFk 0 rfl x0 x1 k⟩
end
end Am
end Go.Proofs.YtkmbhgggpfbffaaGreatDoor
