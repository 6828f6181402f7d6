/- Short forms for printed texts. -/
import Derived.Test.YtkmbhgggpfbffaaGreatDoorAs7
import Derived.KernelRfl
set_option linter.unusedVariables false
set_option linter.unusedSimpArgs false
set_option linter.constructorNameAsVariable false
namespace Go.Proofs.YtkmbhgggpfbffaaGreatDoor
namespace Am
abbrev hI:Sh:=.i .i64
abbrev pI:PD:=.p (.s (.i .i64))
abbrev pB:PD:=.p (.s .b)
abbrev pS:PD:=.p (.s .s)
abbrev pL (es:List Sh):PD:=.p (.s (.sl es))
abbrev dI (n:Int):DS:=.p (.i .i64 n)
abbrev dB (b:Bool):DS:=.p (.b b)
abbrev dS (s:ByteArray):DS:=.p (.s s)
abbrev dL (es:List Sh)(xs:List (aJH es)):DS:=.p (.l (.t es xs))
abbrev KK (R:Type):=List Nat->List DS->aBq->Option R
abbrev LpS (R:Type):=Nat->StS->KS R->Option R
abbrev noX:Nat->List SP:=fun _=>[]
abbrev noH:Nat->Option (List Sh):=fun _=>none
def aGH (ks vs:Sh)(c:Nat)(xs:List (ks.den×Nat×vs.den))(ks' vs':Sh)(c':Nat)(xs':List (ks'.den×Nat×vs'.den)):Bool:=(ObS.mp ks vs c xs).mpSame (.mp ks' vs' c' xs')
theorem bMI (k:IntKind)(x:Int):(V.i k x).scq (V.i k x)=true:=by simp[V.scq]
theorem bNe (x:Bool):(V.b x).scq (V.b x)=true:=by simp[V.scq]
theorem bPC (x:ByteArray):(V.s x).scq (V.s x)=true:=by simp[V.scq]
theorem aQz:∀ (s:Sh),aH9 s=true->∀ x:s.den,(s.enc x).scq (s.enc x)=true
 | .i k,_,x=>bMI k x
 | .b,_,x=>bNe x
 | .s,_,x=>bPC x
 | .sl _,h,_=>by cases h
theorem bHA {ks vs:Sh}(hk:aH9 ks=true)(hv:aH9 vs=true)(c:Nat)(xs:List (ks.den×Nat×vs.den)):aGH ks vs c xs ks vs c xs=true:=by
 unfold aGH ObS.mpSame
 have:∀ l:List (ks.den×Nat×vs.den),mpq (l.map fun x=>(ks.enc x.1,x.2.1,vs.enc x.2.2)) (l.map fun x=>(ks.enc x.1,x.2.1,vs.enc x.2.2))=true:=by
  intro l
  induction l with
  | nil=>rfl
  | cons x r ih=>simp only[List.map_cons,mpq,aQz ks hk,aQz vs hv,ih,beq_self_eq_true,Bool.and_self]
 simp only[this,beq_self_eq_true,Bool.and_self]
section
variable {R:Type} {T:Tab}
abbrev LpG (T:Tab)(P:SP)(l:Nat->P.den->KS R->Option R)(keep:List Nat)(c:C):Prop:=
 ∀ (n:Nat) (s:StS) (k:KS R) (r:R),aAx P (l n) s k=some r->∃ e s',aUB (aAo T) keep c s.enc=some (e,s'.enc)∧k e s'=some r
theorem bQ0 {F:Cf}{Lp:LpS R}{c:C}{p:Nat}(h:lps p c=[]):LOK F Lp p c:=aAi h trivial
def uC (FS:CfS R)(v:Nat)(P:AP)(f:P.den->KK R->Option R):CfS R:=aXz FS v (ent P f (FS v))
theorem bQe {FS:CfS R}(hF:FOK FS (aAo T)){H:Nat->Option (List Sh)}{Lp:LpS R}{X:Nat->List SP}{rp:List AP}{v:Nat}{ver:Ver}{P:AP}{f:P.den->KK R->Option R}
  (hv:T.ver v=some ver) (hl:LOK (aAo T) Lp 1 ver.code) (h:∀ x k,f x k=bJD FS H Lp X rp ver (bdD P.ds x.1) (bdH P.heap x.2) k):FOK (uC FS v P f) (aAo T):=
 aHZ hF (bBY hF hv hl h (bIK hF v fun _ _ _ _ h=>h))
theorem uCk {FS:CfS R}(hF:FOK FS (aAo T)){v:Nat}{P:AP}{f:P.den->KK R->Option R}(ver:Ver)(H:Nat->Option (List Sh):=noH)(Lp:LpS R:=noL)(X:Nat->List SP:=noX)(rp:List AP:=[])
  (hv:T.ver v=some ver:=by rfl) (hl:LOK (aAo T) Lp 1 ver.code:=by exact bQ0 (by kernel_rfl)) (h:∀ x k,f x k=bJD FS H Lp X rp ver (bdD P.ds x.1) (bdH P.heap x.2) k:=by intro x k;kernel_rfl):FOK (uC FS v P f) (aAo T):=
 bQe hF hv hl h
theorem lpk {FS:CfS R}(hF:FOK FS (aAo T))(p:Nat){keep:List Nat}{c:C}(H:Nat->Option (List Sh):=noH)(Lp:LpS R:=noL)(X:Nat->List SP:=noX)(hl:LOK (aAo T) Lp (2*p) c:=by exact bQ0 (by kernel_rfl))
  {P:SP} {l:Nat->P.den->KS R->Option R} (h0:∀ x k,l 0 x k=none:=by intro x k;kernel_rfl) (hs:∀ n x k,l (n+1) x k=exS FS H Lp X (2*p) c (P.bd x) (bLm (bJt keep P (l n)) k):=by intro n x k;kernel_rfl):LpG T P l keep c:=
 bFY hF hl h0 hs
end
def aAI:Option Ver->Ver
 | some x=>x
 | none=>⟨0,0,.skip,[],false⟩
def atD (c:C)(l:List Bool):C:=match c.at l with
 | some x=>x
 | none=>.skip
abbrev nh:Hint:=⟨fun _=>none,[]⟩
abbrev jh (js:List Nat):Hint:=⟨fun _=>none,js⟩
abbrev V0:Nat->Option FuncId:=some
structure GV (P:Program) (aGY:Nat->List Nat) (ver:Ver) (f:Nat):Prop where
 ex:∃ hint,aXy P id aGY V0 hint f ver.own=some ver
 fid:ver.fid=f
theorem GV.of {P:Program}{aGY:Nat->List Nat}{ver:Ver}{f:Nat}{hint:Hint}{own:Bool}(h:aXy P id aGY V0 hint f own=some ver)(hf:ver.fid=f)(ho:ver.own=own):GV P aGY ver f:=⟨⟨hint,by rw[ho];exact h⟩,hf⟩
def vlk:List (Nat×Ver)->Nat->Option Ver
 | [],_=>none
 | (k,x) :: r,v=>if v=k then some x else vlk r v
def AllG (P:Program)(aGY:Nat->List Nat):List (Nat×Ver)->Prop
 | []=>True
 | (k,x) :: r=>GV P aGY x k∧AllG P aGY r
theorem AllG.at {P:Program}{aGY:Nat->List Nat}:∀ {l:List (Nat×Ver)},AllG P aGY l->∀ {v:Nat} {ver:Ver},vlk l v=some ver->GV P aGY ver v
 | [],_,_,_,h=>by cases h
 | (k,x) :: r,hg,v,ver,h=>by
  unfold vlk at h
  split at h
  ·  rename_i e;subst e;injection h with h;subst h;exact hg.1
  ·  exact AllG.at hg.2 h
theorem bJo {P:Program}{aGY:Nat->List Nat}{fo:Fo}(hfo:fo.fn=V0){l:List (Nat×Ver)}(hg:AllG P aGY l){ext:Cf}
  (he:∀ v ds h r1 r2 r3,ext v ds h=some (r1,r2,r3)->aFi ds h=[]∧∀ φ Im w args,HS fo φ Im w h->RepDs fo φ Im w ds args->Lands P (callFunc v args.toArray) w (aC2 fo φ Im w h ds args r1 r2 r3)) :
  TabOK P id aGY fo ⟨vlk l,ext⟩:=by
 refine⟨fun v ver h=>?_,fun v ver f h hf=>?_,fun v f ds h r1 r2 r3 _ hf hx=>?_⟩
 ·obtain⟨⟨hint,hx⟩,hf⟩:=hg.at h
  refine⟨hint,?_⟩
  rw[hf,hfo];exact hx
 ·rw[hfo]at hf
  injection hf with hf
  rw[(hg.at h).fid];exact hf
 ·rw[hfo]at hf
  injection hf with hf
  subst hf
  exact he v ds h r1 r2 r3 hx
end Am
end Go.Proofs.YtkmbhgggpfbffaaGreatDoor
