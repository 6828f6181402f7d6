/- slices.Grow of a nil slice by contract: an empty array of its own. -/
import Derived.Test.YtkmbhgggpfbffaaGreatDoorAs8
import Derived.Shelf.Spec.SlicesGrow
set_option linter.unusedVariables false
set_option linter.unusedSimpArgs false
set_option linter.constructorNameAsVariable false
namespace Go.Proofs.YtkmbhgggpfbffaaGreatDoor
namespace Am
open Go.RowKit (Below)
section
variable {P:Program} {fo:Fo} {φ:Lay} {Im:Nat->Prop} {w:World} {h:aAR}
def aX8 (bytes:Nat)(n:Int):Bool:=decide (0<=n∧n.toNat*bytes<=140737488355328∧n<=4611686018427387904)
def aRP (sz bytes:Nat):List D->aAR->Option (List Nat×List D×aAR)
 | [.p (.nl 4),.p (.i .i64 n)],[]=>if aX8 bytes n=true then some ([],[.own 0],[(0,.arr sz [])])else none
 | _,_=>none
theorem aRL {sz bytes:Nat}{ds:List D}{h:aAR}{r:List Nat×List D×aAR}(he:aRP sz bytes ds h=some r):aFi ds h=[]:=by
 unfold aRP at he
 split at he
 ·rfl
 ·cases he
def bCl {R:Type}(sz bytes:Nat):En R:=fun ds h k=>match ds,h with
 | [.p (.nl 4),.p (.i .i64 n)],[]=>bif aX8 bytes n then k [] [.own 0] [(0,.arr (.e sz))]else none
 | _,_=>none
theorem aYk {R:Type}{T:Tab}{v sz bytes:Nat}(hv:T.ver v=none)(hx:T.ext v=aRP sz bytes):Snd T v (bCl sz bytes:En R):=by
 intro ds h k r hk
 unfold bCl at hk
 split at hk
 ·rename_i n
  cases hb:aX8 bytes n with
  | false=>rw[hb]at hk;cases hk
  | true=>
   rw[hb]at hk
   refine⟨_,_,_,?_,hk⟩
   rw[aFH hv,hx]
   show (if _ then _ else _)=_
   rw[if_pos hb];rfl
 ·cases hk
theorem aQY {us:List V}{args:List Value}{x:Value}{φ':Lay}{Im':Nat->Prop}{k:Nat}{o:Ob}{w':World}(hs:HS fo φ Im w [])(hrep:RepDs fo φ Im w (us.map .p) args)
  (hst:Stp fo φ Im w [] φ' Im' w' [(k,o)]) (hu:RepD fo φ' Im' w' (.own k) x):aC2 fo φ Im w [] (us.map .p) args [] [.own k] [(k,o)] x w':=by
 have hren:∀ g,D.renL g (us.map .p)=us.map .p:=by
  intro g;clear hrep
  induction us with
  | nil=>rfl
  | cons a r ih=>simp only[List.map_cons,D.renL,D.ren,ih]
 have hrf:D.refsL (us.map D.p)=[]:=by
  clear hrep hren
  induction us with
  | nil=>rfl
  | cons a r ih=>simp only[List.map_cons,D.refsL,D.refs,List.nil_append,ih]
 refine⟨φ',Im',id,hst.fr,hu,by rw[hrf];rfl,?_,?_,fun k hk=>by rw[hrf]at hk;cases hk⟩
 ·rw[hren]
  exact⟨hrep.1,fun i hi hi'=>(hrep.2 i hi hi').stp hs hst⟩
 ·intro x hx
  simp only[List.mem_singleton]at hx
  subst hx
  simp[lk]
def bEH (P:Program)(t sz bytes:Nat):Bool:=match P.info? t with
 | some i=>i.size == sz&&i.bytes == bytes&&(match i.zero with | some z=>z.cells.size == sz | none=>false)
 | none=>false
theorem aWL {t sz bytes:Nat}(h:bEH P t sz bytes=true):∃ i z,P.info? t=some i∧i.zero=some z∧i.size=sz∧z.cells.size=sz∧i.bytes=bytes:=by
 unfold bEH at h
 split at h
 ·rename_i i hi
  simp only[Bool.and_eq_true,beq_iff_eq]at h
  obtain⟨⟨h1,h2⟩,h3⟩:=h
  split at h3
  ·rename_i z hz
   exact⟨i,z,hi,hz,h1,by simpa using h3,h2⟩
  ·cases h3
 ·cases h
theorem bCD {ρ:Shelf.Ren}(L:Lays8.n4 P ρ){f:Nat}(hf:ρ.f 4=f){fn:Func}(hname:(fn.name == "runtime.NumGoroutine")=false) (hfn:P.funcs[f]? = some fn) (hbody:fn.body.isSome=true)
  {sz bytes t:Nat} (ht:ρ.t 25=t) (hinf:bEH P t sz bytes=true) (hpos:0<sz)
  {ds:List D} {r1:List Nat} {r2:List D} {r3:aAR} {args:List Value} (he:aRP sz bytes ds h=some (r1,r2,r3)) (hs:HS fo φ Im w h) (hrep:RepDs fo φ Im w ds args) :
  Lands P (callFunc f args.toArray) w (aC2 fo φ Im w h ds args r1 r2 r3):=by
 subst hf
 subst ht
 obtain⟨i0,z,hi0,hz0,hsz,hzc,hby⟩:=aWL hinf
 unfold aRP at he
 split at he
 ·rename_i n
  split at he
  ·rename_i hn
   have hn:=of_decide_eq_true hn
   injection he with he
   injection he with e1 he
   injection he with e2 e3
   subst e1 e2 e3
   obtain⟨x,x',rfl,hx,hx'⟩:=aNp hrep
   cases hx
   cases hx'
   obtain⟨m,rfl⟩:∃ m:Nat,n=m:=⟨n.toNat,by omega⟩
   rw[Int.toNat_natCast]at hn
   by_cases h0:m=0
   ·subst h0
    refine aGF hname hfn hbody ((Any8.slices_Grow_room L none 0 0 0 w (Nat.le_refl _) (by omega) (by omega) (Nat.le_refl _)).mono fun e w' ⟨he,hw⟩=>⟨_,he,?_⟩)
    subst hw
    exact aQY (us:=[.nl 4,.i .i64 0]) hs hrep (aGK (key:=0) (sz:=sz) hs rfl) (RepD.own 0 ⟨0,0,0,0,sz,false⟩ none (by simp))
   ·have hg:=Any8.slices_Grow_grow L i0 z hi0 hz0 (by omega) none 0 0 m [] w (Nat.le_refl _) (by omega) (by rw[hby];simpa using hn.2.1) (by omega) (by simp) (fun _=>rfl) (fun a ha=>by cases ha)
    refine aGF hname hfn hbody (hg.mono fun e w' ⟨he,hw⟩=>⟨_,he,?_⟩)
    have hsd:HS fo φ Im w.drew []:=⟨fun k o hk=>(by cases hk),hs.sep,hs.imm,hs.imb,hs.dom,hs.tb⟩
    have hdrew:Stp fo φ Im w [] φ Im w.drew []:=⟨⟨hsd,fun _ h=>h,fun _ _ _=>rfl,fun _ h=>.inl h,fun _ h=>.inl h,Nat.le_refl _,rfl,rfl,rfl⟩,fun _ _ h=>h⟩
    have hge:=grownCap_ge w (0+m) 0 (ρ.t 25)
    generalize hcap:grownCap w (0+m) 0 (ρ.t 25)=cap at *
    have hzl:∀ n,(Builtin.zeroCells z.cells n).size=n*sz:=by
     intro n
     simp[Builtin.zeroCells,hzc]
    have s3:=aNF (nm:=0) hsd rfl (sz:=sz) (cap:=cap) (xs:=[]) (fun i hi=>absurd hi (by simp)) (Nat.zero_le _) (c:=([]:List Value).toArray++Builtin.zeroCells z.cells (0+m-0)++Builtin.zeroCells z.cells (cap-(0+m))) (by
     rw[Array.size_append,Array.size_append,hzl,hzl]
     simp only[List.size_toArray,List.length_nil,Nat.zero_add,Nat.sub_zero]
     rw[<- Nat.add_mul]
     exact Nat.mul_le_mul_right _ (by omega)) (fun i j hi=>absurd hi (by simp)) (ρ.t 25)
    subst hw
    have:=RepD.own (fo:=fo) (Im:=Im) (w:=w.drew.alloc (.cells (([]:List Value).toArray++Builtin.zeroCells z.cells (0+m-0)++Builtin.zeroCells z.cells (cap-(0+m))) (ρ.t 25))) (φ:=fun k=>if k=0 then some ⟨w.drew.heap.size,0,([]:List (List V)).length,cap,sz,true⟩else φ k) 0 _ none (if_pos rfl)
    exact aQY (us:=[.nl 4,.i .i64 m]) hs hrep (hdrew.trans s3) (by simpa using this)
  ·cases he
 ·cases he
end
end Am
end Go.Proofs.YtkmbhgggpfbffaaGreatDoor
