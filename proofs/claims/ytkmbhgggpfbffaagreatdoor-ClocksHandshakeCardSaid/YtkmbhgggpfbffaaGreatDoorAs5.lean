/- The typed layer: tables, loops, functions. -/
import Derived.Test.YtkmbhgggpfbffaaGreatDoorAs4
set_option linter.unusedVariables false
set_option linter.unusedSimpArgs false
set_option linter.constructorNameAsVariable false
namespace Go.Proofs.YtkmbhgggpfbffaaGreatDoor
namespace Am
section
variable {R:Type} {T:Tab}
abbrev En (R:Type):=List DS->aBq->(List Nat->List DS->aBq->Option R)->Option R
def Snd (T:Tab)(v:Nat)(g:En R):Prop:=
 ∀ ds h k r,g ds h k=some r->∃ roots res h',aAo T v (DS.encs ds) (aE2 h)=some (roots,DS.encs res,aE2 h')∧k roots res h'=some r
def noE:En R:=fun _ _ _=>none
def ent (P:AP)(f:P.den->(List Nat->List DS->aBq->Option R)->Option R)(rest:En R):En R:=fun ds h k=>match P.mt ds h with
 | some x=>f x k
 | none=>rest ds h k
theorem bTu {v:Nat}:Snd T v (noE:En R):=fun _ _ _ _ h=>by cases h
theorem bBY {FS:CfS R}(hF:FOK FS (aAo T)){H:Nat->Option (List Sh)}{Lp:Nat->StS->KS R->Option R}{X:Nat->List SP}{rp:List AP}{v:Nat}{ver:Ver}(hv:T.ver v=some ver)(hl:LOK (aAo T) Lp 1 ver.code)
  {P:AP} {f:P.den->(List Nat->List DS->aBq->Option R)->Option R} {rest:En R}
  (h:∀ x k,f x k=bJD FS H Lp X rp ver (bdD P.ds x.1) (bdH P.heap x.2) k) (hr:Snd T v rest):Snd T v (ent P f rest):=by
 intro ds hp k r hk
 unfold ent at hk
 split at hk
 ·rename_i x hx
  rw[h]at hk
  obtain⟨e1,e2⟩:=AP.bd_enc hx
  obtain⟨roots,res,h',h1,h2⟩:=aRS hF hv hl hk
  rw[e1,e2]at h1
  exact⟨roots,res,h',h1,h2⟩
 ·exact hr ds hp k r hk
theorem bCI {F:Cf}:FOK (bTa:CfS R) F:=fun _ _ _ _ _ h=>by cases h
theorem aHZ {FS:CfS R}(hF:FOK FS (aAo T)){v:Nat}{g:En R}(h:Snd T v g):FOK (aXz FS v g) (aAo T):=by
 intro v' ds hp k r hk
 unfold aXz at hk
 split at hk
 ·rename_i e;subst e;exact h ds hp k r hk
 ·exact hF v' ds hp k r hk
theorem bIK {FS:CfS R}(hF:FOK FS (aAo T))(v:Nat){g:En R}(h:∀ ds hp k r,g ds hp k=some r->FS v ds hp k=some r):Snd T v g:=
 fun ds hp k r hk=>hF v ds hp k r (h ds hp k r hk)
def lps:Nat->C->List (Nat×List Nat×C)
 | p,.seq a b=>lps (2*p) a++lps (2*p+1) b
 | p,.cond _ a b=>lps (2*p) a++lps (2*p+1) b
 | p,.block _ c=>lps (2*p) c
 | p,.loop keep c=>[(p,keep,c)]
 | _,_=>[]
def bLi (F:Cf)(Lp:Nat->StS->KS R->Option R)(p:Nat)(keep:List Nat)(c:C):Prop:=
 ∀ s k r,Lp p s k=some r->∃ e s',aUB F keep c s.enc=some (e,s'.enc)∧k e s'=some r
def bGB (F:Cf)(Lp:Nat->StS->KS R->Option R):List (Nat×List Nat×C)->Prop
 | []=>True
 | y :: r=>bLi F Lp y.1 y.2.1 y.2.2∧bGB F Lp r
theorem aIl {F:Cf}{Lp:Nat->StS->KS R->Option R}:∀ {a b:List (Nat×List Nat×C)},bGB F Lp (a++b)->bGB F Lp a∧bGB F Lp b
 | [],_,h=>⟨trivial,h⟩
 | _ :: _,_,h=>⟨⟨h.1,(aIl h.2).1⟩,(aIl h.2).2⟩
theorem aJ1 {F:Cf}{Lp:Nat->StS->KS R->Option R}:∀ (c:C) (p:Nat),bGB F Lp (lps p c)->LOK F Lp p c
 | .seq a b,p,h=>⟨aJ1 a _ (aIl h).1,aJ1 b _ (aIl h).2⟩
 | .cond _ a b,p,h=>⟨aJ1 a _ (aIl h).1,aJ1 b _ (aIl h).2⟩
 | .block _ c,p,h=>aJ1 c _ h
 | .loop _ _,p,h=>h.1
 | .skip,_,_=>trivial
 | .reg _,_,_=>trivial
 | .drw _,_,_=>trivial
 | .exit _ _,_,_=>trivial
 | .ret _,_,_=>trivial
theorem aAi {F:Cf}{Lp:Nat->StS->KS R->Option R}{c:C}{p:Nat}{l:List (Nat×List Nat×C)}(hl:lps p c=l)(h:bGB F Lp l):LOK F Lp p c:=aJ1 c p (hl▸h)
def aAx (P:SP)(l:P.den->KS R->Option R):StS->KS R->Option R:=fun s k=>(P.mt s).bind fun x=>l x k
def bJt (keep:List Nat)(P:SP)(l:P.den->KS R->Option R):StS->KS R->Option R:=fun s k=>(aIM keep s).bind fun s0=>(P.mt s0).bind fun x=>l x k
theorem bFY {FS:CfS R}(hF:FOK FS (aAo T)){H:Nat->Option (List Sh)}{Lp:Nat->StS->KS R->Option R}{X:Nat->List SP}{p:Nat}{keep:List Nat}{c:C}(hl:LOK (aAo T) Lp (2*p) c)
  {P:SP} {l:Nat->P.den->KS R->Option R} (h0:∀ x k,l 0 x k=none) (hs:∀ n x k,l (n+1) x k=exS FS H Lp X (2*p) c (P.bd x) (bLm (bJt keep P (l n)) k)) :
  ∀ (n:Nat) (s:StS) (k:KS R) (r:R),aAx P (l n) s k=some r->∃ e s',aUB (aAo T) keep c s.enc=some (e,s'.enc)∧k e s'=some r:=by
 intro n
 induction n with
 | zero=>
  intro s k r h
  obtain⟨x,_,h⟩:=Option.bind_eq_some_iff.1 h
  rw[h0]at h;cases h
 | succ n ih=>
  intro s k r h
  obtain⟨x,hx,h⟩:=Option.bind_eq_some_iff.1 h
  rw[hs]at h
  obtain⟨e,s1,h1,h2⟩:=aFb hF c _ hl _ _ _ h
  rw[SP.bd_enc hx]at h1
  rw[aOP,h1]
  cases e with
  | nrm=>
   obtain⟨s0,h3,h4⟩:=Option.bind_eq_some_iff.1 h2
   obtain⟨e',s',h5,h6⟩:=ih s0 k r h4
   refine⟨e',s',?_,h6⟩
   simp only[Option.bind_some,aKq,bFg,aHD h3]
   exact h5
  | ex id=>exact⟨_,s1,rfl,h2⟩
  | ret=>exact⟨_,s1,rfl,h2⟩
def bOi (FS:CfS R)(H:Nat->Option (List Sh))(Lp:Nat->StS->KS R->Option R)(X:Nat->List SP)(p:Nat)(keep:List Nat)(c:C)(g:StS->KS R->Option R):StS->KS R->Option R:=
 fun s k=>exS FS H Lp X (2*p) c s (bLm (fun s k=>(aIM keep s).bind fun s0=>g s0 k) k)
theorem bMN {FS:CfS R}(hF:FOK FS (aAo T)){H:Nat->Option (List Sh)}{Lp:Nat->StS->KS R->Option R}{X:Nat->List SP}{p:Nat}{keep:List Nat}{c:C}(hl:LOK (aAo T) Lp (2*p) c){g:StS->KS R->Option R}
  (hg:∀ s k r,g s k=some r->∃ e s',aUB (aAo T) keep c s.enc=some (e,s'.enc)∧k e s'=some r) :
  ∀ (s:StS) (k:KS R) (r:R),bOi FS H Lp X p keep c g s k=some r->∃ e s',aUB (aAo T) keep c s.enc=some (e,s'.enc)∧k e s'=some r:=by
 intro s k r h
 obtain⟨e,s1,h1,h2⟩:=aFb hF c _ hl _ _ _ h
 rw[aOP,h1]
 cases e with
 | nrm=>
  obtain⟨s0,h3,h4⟩:=Option.bind_eq_some_iff.1 h2
  obtain⟨e',s',h5,h6⟩:=hg s0 k r h4
  refine⟨e',s',?_,h6⟩
  simp only[Option.bind_some,aKq,bFg,aHD h3]
  exact h5
 | ex id=>exact⟨_,s1,rfl,h2⟩
 | ret=>exact⟨_,s1,rfl,h2⟩
theorem aAf {F:Cf}{Lp:Nat->StS->KS R->Option R}{p:Nat}{keep:List Nat}{c:C}{g:StS->KS R->Option R}(h:∀ s k r,g s k=some r->∃ e s',aUB F keep c s.enc=some (e,s'.enc)∧k e s'=some r):bLi F (aCc Lp p g) p keep c:=by
 intro s k r hk
 unfold aCc at hk
 rw[if_pos rfl]at hk
 exact h s k r hk
theorem aDL {F:Cf}{Lp:Nat->StS->KS R->Option R}{p q:Nat}{keep:List Nat}{c:C}{g:StS->KS R->Option R}(hq:q≠p)(h:bLi F Lp q keep c):bLi F (aCc Lp p g) q keep c:=by
 intro s k r hk
 unfold aCc at hk
 rw[if_neg hq]at hk
 exact h s k r hk
end
end Am
end Go.Proofs.YtkmbhgggpfbffaaGreatDoor
