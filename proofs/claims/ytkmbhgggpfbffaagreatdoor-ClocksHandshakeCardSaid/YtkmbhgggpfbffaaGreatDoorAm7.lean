/- Operations: what the evaluator says is what the machine does. -/
import Derived.Test.YtkmbhgggpfbffaaGreatDoorAm6
import Derived.Deep.AppendSrc
import Derived.Laws.CopyRow
import Derived.Laws.Entries
set_option linter.unusedVariables false
set_option linter.unusedSimpArgs false
set_option linter.constructorNameAsVariable false
namespace Go.Proofs.YtkmbhgggpfbffaaGreatDoor
namespace Am
def ER (fo:Fo)(φ:Lay)(Im:Nat->Prop)(w:World)(a:Act)(av:List Value)(e:Env):Prop:=
 ∀ t d,lk e t=some d->∃ v,(if t<100000 then a.tmps[t]? else av[t-100000]?)=some v∧RepD fo φ Im w d v
theorem ER.stp {fo:Fo}{φ φ':Lay}{Im Im':Nat->Prop}{w w':World}{h h':aAR}{a:Act}{av:List Value}{e:Env}(he:ER fo φ Im w a av e)(hs:HS fo φ Im w h)(s:Stp fo φ Im w h φ' Im' w' h'):ER fo φ' Im' w' a av e:=
 fun t d ht=>let ⟨v,h1,h2⟩:=he t d ht;⟨v,h1,h2.stp hs s⟩
theorem aGK {fo:Fo}{φ:Lay}{Im:Nat->Prop}{w:World}{h:aAR}(hs:HS fo φ Im w h){key sz:Nat}(hn:lk h key=none) :
  Stp fo φ Im w h (fun k=>if k=key then some ⟨0,0,0,0,sz,false⟩else φ k) Im w ((key,.arr sz []) :: h):=by
 have hup:∀ k l,φ k=some l->(if k=key then some (⟨0,0,0,0,sz,false⟩:RL)else φ k)=some l:=by
  intro k l hl
  by_cases e:k=key
  ·subst e;rw[hs.dom k hn]at hl;cases hl
  ·rw[if_neg e];exact hl
 have hdom:∀ k',k'≠key->(if k'=key then some (⟨0,0,0,0,sz,false⟩:RL)else φ k')=φ k':=fun k' e=>if_neg e
 refine⟨⟨hs.update (φ':=fun k=>if k=key then some ⟨0,0,0,0,sz,false⟩else φ k) hup hdom (fun _ h=>h) (fun _ _=>rfl) (fun _ _ _ _ _ _ _ _=>rfl) ?_ ?_ ?_ hs.imb,fun _ h=>h,fun _ _ _=>rfl,?_,fun _ h=>.inl h,Nat.le_refl _,rfl,rfl,rfl⟩,hup⟩
 ·exact⟨⟨0,0,0,0,sz,false⟩,if_pos rfl,rfl,rfl,Nat.le_refl _,fun i hi=>absurd hi (by simp),fun _=>rfl,fun hr=>by cases hr⟩
 ·intro l hl hm hr
  rw[if_pos rfl]at hl
  injection hl with hl
  subst hl
  cases hr
 ·intro k' o' l' hk h1 h2 h3 h4
  exact hs.imm _ ⟨k',o',l',h1,h2,h3,h4,rfl⟩
 ·rintro g ⟨k,o,l,h1,h2,h3,h4,rfl⟩
  rw[aAV]at h1
  by_cases e:k=key
  ·subst e
   simp only[if_true]at h3
   injection h3 with h3
   subst h3
   cases h4
  ·rw[if_neg (fun x=>e x.symm)]at h1
   simp only[if_neg e]at h3
   exact .inl ⟨k,o,l,h1,h2,h3,h4,rfl⟩
theorem aBO {α β:Type}{F:Cf}{o:Option α}{k:α->M β}{s:St}{r:β×St}(h:(oret o k).run F s=some r):∃ x,o=some x∧(k x).run F s=some r:=by
 cases o with
 | none=>cases h
 | some x=>exact⟨x,rfl,h⟩
theorem aAU {β:Type}{F:Cf}{c:Prop} [Decidable c] {m:M β}{s:St}{r:β×St}(h:(grd c m).run F s=some r):c∧m.run F s=some r:=by
 unfold grd at h
 split at h
 ·exact⟨‹_›,h⟩
 ·cases h
theorem aFd {β:Type}{F:Cf}{key:Nat}{o:Ob}{m:M β}{e:Env}{h:aAR}{r:β×St}(hr:(M.new key o m).run F ⟨e,h⟩=some r):lk h key=none∧m.run F ⟨e,(key,o) :: h⟩=some r:=by
 simp only[M.run]at hr
 split at hr
 ·exact⟨‹_›,hr⟩
 ·cases hr
theorem aBN {β:Type}{F:Cf}{key:Nat}{k:Ob->M β}{e:Env}{h:aAR}{r:β×St}(hr:(M.get key k).run F ⟨e,h⟩=some r):∃ o,lk h key=some o∧(k o).run F ⟨e,h⟩=some r:=
 Option.bind_eq_some_iff.1 hr
theorem aFf {β:Type}{F:Cf}{key:Nat}{o:Ob}{m:M β}{e:Env}{h:aAR}{r:β×St}(hr:(M.set key o m).run F ⟨e,h⟩=some r):∃ o',lk h key=some o'∧m.run F ⟨e,(key,o) :: h⟩=some r:=
 Option.bind_eq_some_iff.1 hr
theorem aCI {β:Type}{F:Cf}{k:Bool->Nat->List (List V)->M β}{o:Ob}{s:St}{r:β×St}(hr:(aPO k o).run F s=some r) :
  (∃ sz xs,o=.arr sz xs∧(k false sz xs).run F s=some r)∨(∃ sz xs,o=.frz sz xs∧(k true sz xs).run F s=some r):=by
 cases o with
 | arr sz xs=>exact .inl ⟨sz,xs,rfl,hr⟩
 | frz sz xs=>exact .inr ⟨sz,xs,rfl,hr⟩
 | _=>cases hr
section
variable {P:Program} {fo:Fo} {vm:FuncId->Nat} {φ:Lay} {Im:Nat->Prop} {w:World} {h:aAR} {a:Act} {av:List Value} {e:Env} {F:Cf} {β:Type} {r:β×St}
theorem aRo {v:Value}{u:V}(hc:aWm v=some u):RepV fo Im w u v:=by
 unfold aWm at hc
 split at hc <;> first | (injection hc with hc;subst hc;constructor) | cases hc
theorem aAH (hfo:∀ f,fo (vm f)=some f)(hs:HS fo φ Im w h)(he:ER fo φ Im w a av e){ty:Option TypeId}{key:Nat}{x:Operand}{x':Od}(hc:cOd P vm ty key x=some x'){k:D->M β}
  (hr:(vl x' k).run F ⟨e,h⟩=some r):∃ d φ' h',(k d).run F ⟨e,h'⟩=some r∧Stp fo φ Im w h φ' Im w h'∧RepD fo φ' Im w d (a.eval x):=by
 unfold cOd at hc
 split at hc
 ·rename_i t
  split at hc
  · rename_i ht
    injection hc with hc
    subst hc
    obtain⟨d,h1,h2⟩:=Option.bind_eq_some_iff.1 hr
    obtain⟨v,h3,h4⟩:=he t d h1
    rw[if_pos ht]at h3
    refine⟨d,φ,h,h2,.refl hs,?_⟩
    have:a.eval (.tmp t)=v:=by simp[Act.eval,h3]
    rw[this];exact h4
  · cases hc
 ·split at hc
  · injection hc with hc
    subst hc
    exact⟨_,φ,h,hr,.refl hs,.p _ _ .n4⟩
  · split at hc
    ·rename_i el hel
     injection hc with hc
     subst hc
     obtain⟨hn,hk⟩:=aFd hr
     refine⟨_,_,_,hk,aGK hs hn,?_⟩
     exact RepD.own key ⟨0,0,0,0,P.cellsOf el,false⟩ none (if_pos rfl)
    ·cases hc
 ·rename_i v hv
  obtain⟨u,h1,h2⟩:=Option.map_eq_some_iff.1 hc
  subst h2
  exact⟨_,φ,h,hr,.refl hs,.p _ _ (aRo h1)⟩
 ·rename_i f
  injection hc with hc
  subst hc
  exact⟨_,φ,h,hr,.refl hs,.p _ _ (.fn (vm f) f [] [] (hfo f) rfl (fun i hi=>absurd hi (by simp)))⟩
 ·cases hc
end
end Am
end Go.Proofs.YtkmbhgggpfbffaaGreatDoor
