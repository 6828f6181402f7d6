/- Small facts about numbers and lists, for the laws on plain data. -/
import Derived.Test.YtkmbhgggpfbffaaGreatDoorAs7
set_option linter.unusedVariables false
set_option linter.unusedSimpArgs false
set_option linter.constructorNameAsVariable false
namespace Go.Proofs.YtkmbhgggpfbffaaGreatDoor
namespace Am
theorem aDt {x:Int}(h1:-9223372036854775808<=x)(h2:x<=9223372036854775807):w64 x=x:=by
 have e:w64 x=if x%18446744073709551616>=9223372036854775808 then x%18446744073709551616-18446744073709551616 else x%18446744073709551616:=by
  unfold w64 IntKind.wrap
  by_cases h:x%18446744073709551616>=9223372036854775808
  ·rw[if_pos h];exact if_pos (by simpa[IntKind.signed,IntKind.bits]using h)
  ·rw[if_neg h];exact if_neg (by simpa[IntKind.signed,IntKind.bits]using h)
 rw[e];split <;> omega
theorem bLp {i:Nat}(h:i<=1000000000000):w64 ((i:Int)+1)=((i+1:Nat):Int):=by
 rw[aDt (by omega) (by omega)];omega
theorem bCc {α:Type}(xs:List α)(n:Nat):at? xs (n:Int)=xs[n]? := by
 unfold at?;rw[if_pos (by omega)];simp
theorem aHb {α:Type}{xs:List α}{n:Nat}(h:n<xs.length):at? xs (n:Int)=some xs[n]:=by
 rw[bCc,List.getElem?_eq_getElem h]
theorem bSp {α:Type}{xs:List α}{i:Int}(h0:0<=i)(h:i.toNat<xs.length):at? xs i=some (xs[i.toNat]'h):=by
 unfold at?;rw[if_pos h0,List.getElem?_eq_getElem h]
theorem aBs {n b:Nat}(h:n*b<=140737488355328):aBU n b=true:=by unfold aBU;simpa using h
theorem bNo (n len:Nat):inR (n:Int) len=decide (n<len):=by
 unfold inR
 have:decide (0<=(n:Int))=true:=by simp
 rw[this,Bool.true_and]
 by_cases h:n<len <;> simp[h]
theorem aSL {i:Int}{len:Nat}(h0:0<=i)(h:i<len):inR i len=true:=by simp[inR,h0,h]
theorem bR2 {l h m:Int}{len off n:Nat}(h1:0<=l∧l<=h∧h<=len∧h<=m∧m<=len∧off+len<=n):slB l h m len off n=true:=by unfold slB;exact decide_eq_true h1
theorem bBp {l h:Int}{len:Nat}(h1:0<=l∧l<=h∧h<=len):slP l h len=true:=by unfold slP;exact decide_eq_true h1
theorem aAd {α:Type}{c:Prop} [Decidable c] {a b:α}(h:c):(bif decide c then a else b)=a:=by rw[decide_eq_true h];rfl
theorem aAc {α:Type}{c:Prop} [Decidable c] {a b:α}(h:¬c):(bif decide c then a else b)=b:=by rw[decide_eq_false h];rfl
theorem bLg {α:Type}{c:Prop} [Decidable c] {a b:α}:(bif decide c then a else b)=if c then a else b:=by by_cases h:c <;> simp[h]
theorem bLC (a b:Nat):Int.tmod (a:Int) (b:Int)=((a%b:Nat):Int):=by
 rw[Int.tmod_eq_emod_of_nonneg (by omega)];rfl
theorem bLr (a b:Nat):Int.tdiv (a:Int) (b:Int)=((a/b:Nat):Int):=by
 rw[Int.tdiv_eq_ediv_of_nonneg (by omega)];rfl
theorem aI8 {α:Type}{l:List α}{i:Nat}(h:i<l.length):l.drop i=l[i] :: l.drop (i+1):=List.drop_eq_getElem_cons h
theorem bQp {n:Int}:(Lit.int .i64 n).wf=true↔(-9223372036854775808<=n∧n<=9223372036854775807):=by
 simp only[Lit.wf,IntKind.min,IntKind.max,IntKind.signed,IntKind.bits,Bool.and_eq_true,decide_eq_true_eq,if_true]
 omega
theorem aAe {α β:Type}(a:α)(f:α->Option β):(some a).bind f=f a:=rfl
end Am
end Go.Proofs.YtkmbhgggpfbffaaGreatDoor
