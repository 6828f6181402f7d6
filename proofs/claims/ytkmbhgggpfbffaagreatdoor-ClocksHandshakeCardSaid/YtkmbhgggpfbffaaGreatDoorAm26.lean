/- Which slots an operation reads. -/
import Derived.Test.YtkmbhgggpfbffaaGreatDoorAm25
import Derived.Test.YtkmbhgggpfbffaaGreatDoorAm2
set_option linter.unusedVariables false
set_option linter.unusedSimpArgs false
set_option linter.constructorNameAsVariable false
namespace Go.Proofs.YtkmbhgggpfbffaaGreatDoor
namespace Am
section
variable {R W:Nat->Prop} {β:Type}
theorem aBt {c:Prop} [Decidable c] {m:M β}(h:aCL R W m):aCL R W (grd c m):=by
 unfold grd;split
 ·exact h
 ·trivial
theorem aE7 {k:Bool->Nat->List (List V)->M β}(h:∀ a b c,aCL R W (k a b c))(o:Ob):aCL R W (aPO k o):=by unfold aPO;split <;> first | exact h _ _ _ | trivial
theorem aJS {k:Nat->List (List V)->M β}(h:∀ b c,aCL R W (k b c))(o:Ob):aCL R W (aNx k o):=by unfold aNx;split <;> first | exact h _ _ | trivial
theorem aKB {c:Bool}{key:Nat}{o:Ob}{m:M β}(h:aCL R W m):aCL R W (frz c key o m):=by unfold frz;split <;> exact h
theorem aB9 {α:Type}{o:Option α}{k:α->M β}(h:∀ x,aCL R W (k x)):aCL R W (oret o k):=by unfold oret;split <;> first | exact h _ | trivial
theorem aHv {c:Bool}{m m':M β}(h:aCL R W m)(h':aCL R W m'):aCL R W (aNR c m m'):=by unfold aNR;split <;> assumption
theorem aGJ {k:IntKind->Int->M β}(h:∀ a b,aCL R W (k a b))(d:D):aCL R W (asI k d):=by unfold asI;split <;> first | exact h _ _ | trivial
theorem aNH {k:Bool->M β}(h:∀ a,aCL R W (k a))(d:D):aCL R W (asB k d):=by unfold asB;split <;> first | exact h _ | trivial
theorem aIp {k:V->M β}(h:∀ a,aCL R W (k a))(d:D):aCL R W (asP k d):=by unfold asP;split <;> first | exact h _ | trivial
theorem aKD {k:List D->M β}(h:∀ a,aCL R W (k a))(d:D):aCL R W (asG k d):=by unfold asG;split <;> first | exact h _ | trivial
theorem aAE {x:Od}{k:D->M β}(hx:∀ t,t∈O.rds.od x->R t)(h:∀ d,aCL R W (k d)):aCL R W (vl x k):=by
 cases x with
 | t n=>exact⟨hx n (by simp[O.rds.od]),h⟩
 | _=>exact h _
theorem aJf:∀ {xs:List Od} {k:List D->M β},(∀ t,t∈xs.flatMap O.rds.od->R t)->(∀ ds,aCL R W (k ds))->aCL R W (vls xs k)
 | [],k,_,h=>h []
 | x :: xs,k,hx,h=>aAE (fun t ht=>hx t (by simp[ht])) fun d=>aJf (fun t ht=>hx t (by rw[List.flatMap_cons];exact List.mem_append_right _ ht)) fun ds=>h _
theorem aHP (perm:Bool):∀ n,(∀ (d:D) (k:V->M β),(∀ v,aCL R W (k v))->aCL R W (toV perm n d k))∧(∀ (key off:Nat) (k:V->M β) (o:Ob),(∀ v,aCL R W (k v))->aCL R W (bL0 perm n key off k o))∧(∀ (ds:List D) (k:List V->M β),(∀ v,aCL R W (k v))->aCL R W (aRE perm n ds k))
 | 0=>⟨fun d k _=>by unfold toV;trivial,fun key off k o _=>by unfold bL0;trivial,fun ds k _=>by unfold aRE;trivial⟩
 | n+1=>by
  obtain⟨i1,i2,i3⟩:=aHP perm n
  refine⟨fun d k h=>?_,fun key off k o h=>?_,fun ds k h=>?_⟩
  ·cases d with
   | p u=>exact h u
   | own key=>exact fun o=>aE7 (fun _ _ _=>aKB (h _)) o
   | arr key off len ap=>exact fun o=>aE7 (fun _ _ _=>aKB (aBt (h _))) o
   | ptr key off=>exact fun o=>i2 key off k o h
   | ep key i off=>exact fun o=>aE7 (fun _ _ _=>aKB (aB9 fun _=>h _)) o
   | fn v caps=>exact i3 caps _ fun _=>h _
   | ifc t a xs=>exact i3 xs _ fun _=>h _
   | _=>trivial
  ·cases o with
   | box cs=>exact i3 cs _ fun _=>aKB (h _)
   | fbx vs=>exact h _
   | _=>trivial
  ·cases ds with
   | nil=>exact h []
   | cons d ds=>exact i1 d _ fun _=>i3 ds _ fun _=>h _
theorem aHr {k:Nat->List (List V)->M β}(h:∀ a b,aCL R W (k a b))(d:D):aCL R W (elems k d):=by
 unfold elems;split
 ·exact h _ _
 ·exact fun o=>aE7 (fun _ _ _=>h _ _) o
 ·exact fun o=>aE7 (fun _ _ _=>aBt (h _ _)) o
 ·trivial
theorem aL6:∀ (n key off:Nat) {k:List D->M β},(∀ ds,aCL R W (k ds))->aCL R W (aTO key off n k)
 | 0,key,off,k,h=>h []
 | n+1,key,off,k,h=>fun d=>aL6 n key (off+1) fun ds=>h _
theorem aMc:∀ (ds:List D) (key off:Nat) {k:M β},aCL R W k->aCL R W (aWb key off ds k)
 | [],key,off,k,h=>h
 | d :: ds,key,off,k,h=>aMc ds key (off+1) h
theorem aIu {cs:List V}{off:Nat}{k:D->M β}(h:∀ d,aCL R W (k d))(n:Option Nat):aCL R W (aHE cs off k n):=by
 cases n with
 | none=>exact aB9 fun _=>h _
 | some n=>exact aBt (h _)
theorem aYd {n:Option Nat}{k:D->M β}(h:∀ d,aCL R W (k d))(d:D):aCL R W (ldO n k d):=by
 unfold ldO;split
 ·cases n with
  | none=>exact fun d=>h d
  | some n=>exact aL6 n _ _ fun ds=>h _
 ·exact fun o=>aE7 (fun _ _ _=>aB9 fun _=>aIu h n) o
 ·exact aIu h n
 ·trivial
theorem aXB {xs:List D}{k:M β}(h:aCL R W k)(d:D):aCL R W (stC xs k d):=by
 unfold stC;split
 ·exact aMc xs _ _ h
 ·refine (aHP true 300).2.2 xs _ fun vs o=>?_
  unfold stE;split
  ·exact aB9 fun _=>aBt h
  ·trivial
 ·trivial
theorem aYf {sz:Nat}{n:Int}{k:D->M β}(h:∀ d,aCL R W (k d))(d:D):aCL R W (ixO sz n k d):=by
 unfold ixO;split
 ·exact aBt (aB9 fun _=>h _)
 ·exact fun o=>aE7 (fun _ _ _=>aBt (h _)) o
 ·exact fun o=>aE7 (fun _ _ _=>aBt (h _)) o
 ·trivial
theorem aYL {kind:Nat}{k:Nat->M β}(h:∀ d,aCL R W (k d))(d:D):aCL R W (lnO k kind d):=by
 unfold lnO;split
 ·exact aHr (fun _ _=>h _) _
 ·exact h _
 ·intro o;unfold mpK;split <;> first | exact h _ | trivial
 ·trivial
theorem aQk {nm sz bytes:Nat}{ys:List (List V)}{k:D->M β}(h:∀ d,aCL R W (k d))(d:D):aCL R W (apX nm sz bytes ys k d):=by
 unfold apX;split
 ·intro o
  refine aJS (fun s xs=>aBt ?_) o
  exact h (.own nm)
 ·intro o
  refine aJS (fun s xs=>aBt (aHv ?_ ?_)) o
  ·exact h (.own nm)
  ·unfold bRl
   refine aBt ?_
   exact h _
 ·trivial
theorem aMf:∀ (z:List V) (nm:Nat) {k:List D->M β},(∀ ds,aCL R W (k ds))->aCL R W (aM7 nm z k)
 | [],nm,k,h=>h []
 | v :: z,nm,k,h=>by
  cases v <;> exact aMf z (nm+1) fun ds=>h _
theorem aJ4:∀ (z:List V) (nm:Nat) (cs:List (Option D)) {k:List D->M β},(∀ ds,aCL R W (k ds))->aCL R W (fillZ nm z cs k)
 | [],nm,[],k,h=>h []
 | [],nm,_ :: _,k,h=>trivial
 | v :: z,nm,[],k,h=>by cases v <;> trivial
 | v :: z,nm,some d :: cs,k,h=>by cases v <;> exact aJ4 z (nm+1) cs fun ds=>h _
 | v :: z,nm,none :: cs,k,h=>by cases v <;> exact aJ4 z (nm+1) cs fun ds=>h _
theorem aIP:∀ {ps:List (Nat×Nat×Od)} {k:List (Nat×Nat×D)->M β},(∀ t,t∈ps.flatMap (fun p=>O.rds.od p.2.2)->R t)->(∀ ds,aCL R W (k ds))->aCL R W (aLi ps k)
 | [],k,_,h=>h []
 | (off,size,x) :: ps,k,hx,h=>aAE (fun t ht=>hx t (by simp[ht])) fun d=>aIP (fun t ht=>hx t (by rw[List.flatMap_cons];exact List.mem_append_right _ ht)) fun ds=>h _
theorem aKZ:∀ (ps:List (Nat×Nat×D)) (cs:List V) {k:List V->M β},(∀ ds,aCL R W (k ds))->aCL R W (partsV ps cs k)
 | [],cs,k,h=>h cs
 | (off,size,d) :: ps,cs,k,h=>(aHP true 300).2.2 d.cells _ fun vs=>aBt (aKZ ps _ h)
theorem aDz {d:Int}{k:Int->M β}{x:Option Od}(hx:∀ t,t∈(x.map O.rds.od).getD []->R t)(h:∀ n,aCL R W (k n)):aCL R W (aEc d k x):=by
 cases x with
 | none=>exact h d
 | some x=>exact aAE (fun t ht=>hx t (by simpa using ht)) fun d=>aGJ (fun _ n=>h n) d
theorem aM3 {sz:Nat}{lo hi mx:Option Od}{k:D->M β}(h1:∀ t,t∈(lo.map O.rds.od).getD []->R t)(h2:∀ t,t∈(hi.map O.rds.od).getD []->R t)(h3:∀ t,t∈(mx.map O.rds.od).getD []->R t)(h:∀ d,aCL R W (k d))(d:D):aCL R W (slO sz lo hi mx k d):=by
 unfold slO;split
 ·exact aDz h1 fun _=>aDz h2 fun _=>aBt (h _)
 ·exact aDz h1 fun _=>aDz h2 fun _=>aBt (h _)
 ·exact fun o=>aE7 (fun _ _ _=>aDz h1 fun _=>aDz h2 fun _=>aDz h3 fun _=>aBt (h _)) o
 ·exact fun o=>aE7 (fun _ _ _=>aDz h1 fun _=>aDz h2 fun _=>aDz h3 fun _=>aBt (h _)) o
 ·trivial
theorem aPm {nm:Nat}{k:D->M β}(h:∀ d,aCL R W (k d))(d:D):aCL R W (aKO nm k d):=by
 unfold aKO;split
 ·intro o
  refine aJS (fun _ _=>aBt ?_) o
  exact h (.own nm)
 ·trivial
theorem aOu {perm:Bool}{k:D->M β}(h:∀ d,aCL R W (k d))(d:D):aCL R W (aW2 perm k d):=by
 unfold aW2;split
 ·exact (aHP perm 300).2.2 _ _ fun _=>h _
 ·exact (aHP perm 300).1 _ _ fun _=>h _
theorem aTr {mode:Nat}{d:D}{k:D->M β}(h:∀ d,aCL R W (k d)):aCL R W (bGw mode d k):=by
 unfold bGw;split
 ·exact h d
 ·exact aOu h d
 ·exact aOu h d
theorem aJE:∀ (ds:List D) (ms:List Nat) {k:List D->M β},(∀ ds,aCL R W (k ds))->aCL R W (aJN ms ds k)
 | [],ms,k,h=>h []
 | d :: ds,ms,k,h=>aTr fun d'=>aJE ds ms.tail fun ds'=>h _
theorem aJk:∀ (n:Nat) (ts:List Nat) (seen:aAR) {k:aAR->M β},(∀ s,aCL R W (k s))->aCL R W (gath n ts seen k)
 | 0,ts,seen,k,h=>trivial
 | n+1,[],seen,k,h=>h seen
 | n+1,key :: ts,seen,k,h=>by
  unfold gath;split
  ·exact aJk n ts seen h
  ·exact fun o=>aJk n _ _ h
theorem aJP:∀ (sub:aAR) {m:M β},aCL R W m->aCL R W (kills sub m)
 | [],m,h=>h
 | (key,o) :: sub,m,h=>aHv (aJP sub h) (aJP sub h)
theorem aLg {key:Nat}{k:M β}(h:aCL R W k):∀ (cs ds:List D) (off:Nat),aCL R W (cput key off cs ds k)
 | [],ds,off=>by unfold cput;exact h
 | c :: cs,[],off=>by unfold cput;exact h
 | c :: cs,d :: ds,off=>by
  unfold cput
  exact aHv (aLg h cs ds _) (aLg h cs ds _)
theorem aYt {old:Nat}{o:Ob}{k:M β}(h:aCL R W k)(cur:Ob):aCL R W (wrK old o k cur):=by
 unfold wrK
 split
 ·exact aHv (aLg h _ _ _) h
 ·exact h
theorem aIH {m:List (Nat×Nat)}{f:Nat->Nat}:∀ (hh:aAR) {k:M β},aCL R W k->aCL R W (writes m f hh k)
 | [],k,h=>h
 | (key,o) :: hh,k,h=>by
  unfold writes;split
  ·  exact fun cur=>aYt (aIH hh h) cur
  ·  exact aIH hh h
theorem aLd {kp:Bool}{m:List (Nat×Nat)}{sub:aAR}:∀ (hh:aAR) {k:M β},aCL R W k->aCL R W (aXx kp m sub hh k)
 | [],k,h=>h
 | x :: hh,k,h=>by
  unfold aXx
  split
  ·exact aBt (aLd hh h)
  ·exact aLd hh h
theorem aJW {kp:Bool}{nm v:Nat}{bs:List D}{k:D->M β}(h:∀ d,aCL R W (k d))(ds:List D):aCL R W (callO kp nm v bs k ds):=
 aJk _ _ _ fun sub=>aJk _ _ _ fun bsub=>aBt (aB9 fun c=>aBt fun a b cc=>aBt (aLd _ (aJP _ (aIH _ (h _)))))
theorem aKy {key:Nat}{o:Ob}{m:M β}(h:aCL R W m):aCL R W (.set key o m):=h
theorem aJr {k:Nat->Nat->List (V×Nat×V)->M β}(h:∀ a b c,aCL R W (k a b c))(d:D):aCL R W (mpO k d):=by
 unfold mpO;split
 ·intro o
  unfold mpK;split
  ·exact h _ _ _
  ·trivial
 ·trivial
theorem aYF {nm:Nat}{k:D->M β}{op:O}(hx:∀ t,t∈O.rds op->R t)(h:∀ d,aCL R W (k d)):aCL R W (evO nm k op):=by
 have sub:∀ {l:List Nat},(∀ t,t∈l->t∈O.rds op)->∀ t,t∈l->R t:=fun hl t ht=>hx t (hl t ht)
 cases op with
 | mv x=>exact aAE (sub fun t ht=>ht) h
 | pk c a b=>exact aAE (sub fun t ht=>by simp[O.rds,ht]) fun d=>aNH (fun _=>aHv (aAE (sub fun t ht=>by simp[O.rds,ht]) h) (aAE (sub fun t ht=>by simp[O.rds,ht]) h)) d
 | bi op x y=>exact aAE (sub fun t ht=>by simp[O.rds,ht]) fun d=>aIp (fun _=>aAE (sub fun t ht=>by simp[O.rds,ht]) fun d=>aIp (fun _=>aB9 fun _=>h _) d) d
 | bb ne x y=>exact aAE (sub fun t ht=>by simp[O.rds,ht]) fun d=>aNH (fun _=>aAE (sub fun t ht=>by simp[O.rds,ht]) fun d=>aNH (fun _=>h _) d) d
 | bn ne kind x=>
  refine aAE (sub fun t ht=>ht) fun d=>?_
  unfold aJz;split <;> first | exact h _ | trivial | exact aHr (fun _ _=>aBt (h _)) _
 | ba ne ks x y=>exact aAE (sub fun t ht=>by simp[O.rds,ht]) fun d=>aKD (fun _=>aAE (sub fun t ht=>by simp[O.rds,ht]) fun d=>aKD (fun _=>aB9 fun _=>h _) d) d
 | un op x=>
  refine aAE (sub fun t ht=>ht) fun d=>?_
  unfold unO;split <;> first | exact h _ | trivial
 | ld n a=>exact aAE (sub fun t ht=>ht) fun d=>aYd h d
 | st n a v=>exact aAE (sub fun t ht=>by simp[O.rds,ht]) fun d=>aAE (sub fun t ht=>by simp[O.rds,ht]) fun x=>aB9 fun xs=>aXB (h _) d
 | fa off x=>
  refine aAE (sub fun t ht=>ht) fun d=>?_
  unfold aOv;split <;> first | exact h _ | trivial
 | fd off n x=>
  refine aAE (sub fun t ht=>ht) fun d=>aKD (fun xs=>?_) d
  cases n with
  | none=>exact aB9 h
  | some n=>exact aBt (h _)
 | ix sz x i=>exact aAE (sub fun t ht=>by simp[O.rds,ht]) fun d=>aAE (sub fun t ht=>by simp[O.rds,ht]) fun d'=>aGJ (fun _ _=>aYf h d) d'
 | xa len sz x i=>
  refine aAE (sub fun t ht=>by simp[O.rds,ht]) fun d=>aAE (sub fun t ht=>by simp[O.rds,ht]) fun d'=>aGJ (fun _ _=>aBt ?_) d'
  unfold aOv;split <;> first | exact h _ | trivial
 | xv len sz n x i=>
  refine aAE (sub fun t ht=>by simp[O.rds,ht]) fun d=>aKD (fun xs=>aAE (sub fun t ht=>by simp[O.rds,ht]) fun d'=>aGJ (fun _ _=>aBt ?_) d') d
  cases n with
  | none=>exact aB9 h
  | some n=>exact aBt (h _)
 | xs x i=>
  refine aAE (sub fun t ht=>by simp[O.rds,ht]) fun d=>aAE (sub fun t ht=>by simp[O.rds,ht]) fun d'=>aGJ (fun _ _=>?_) d'
  unfold xsO;split
  ·split <;> first | exact h _ | trivial
  ·trivial
 | ln kind x=>exact aAE (sub fun t ht=>ht) fun d=>aYL (fun _=>h _) d
 | ap sz bytes x y=>exact aAE (sub fun t ht=>by simp[O.rds,ht]) fun d=>aAE (sub fun t ht=>by simp[O.rds,ht]) fun d'=>aHr (fun _ _=>aBt (aQk h d)) d'
 | apa sz bytes x y=>exact aAE (sub fun t ht=>by simp[O.rds,ht]) fun d=>aAE (sub fun t ht=>by simp[O.rds,ht]) fun d'=>aHr (fun _ _=>aBt (aQk (aM3 (fun t ht=>by cases ht) (fun t ht=>by cases ht) (fun t ht=>by cases ht) h) d)) d'
 | bl zero parts=>exact aIP (sub fun t ht=>ht) fun ps=>aB9 fun cs=>aJ4 _ _ _ fun ds=>h _
 | bs sz len zero parts=>exact aIP (sub fun t ht=>ht) fun ps=>aKZ _ _ fun vs=>h _
 | bx x=>exact aAE (sub fun t ht=>ht) fun d=>aBt (h _)
 | al zero=>exact aMf _ _ fun ds=>h _
 | ms sz bytes zero x y=>
  refine aAE (sub fun t ht=>by simp[O.rds,ht]) fun d=>aGJ (fun _ n=>?_) d
  refine aAE (x:=y) (sub fun t ht=>by simp[O.rds,ht]) fun d'=>aGJ (fun _ c=>aBt ?_) d'
  exact h (.own nm)
 | sl x sz lo hi mx=>exact aAE (sub fun t ht=>by simp[O.rds,ht]) fun d=>aM3 (sub fun t ht=>by simp[O.rds,ht]) (sub fun t ht=>by simp[O.rds,ht]) (sub fun t ht=>by simp[O.rds,ht]) h d
 | sk x sz lo hi mx=>exact aAE (sub fun t ht=>by simp[O.rds,ht]) fun d=>aM3 (sub fun t ht=>by simp[O.rds,ht]) (sub fun t ht=>by simp[O.rds,ht]) (sub fun t ht=>by simp[O.rds,ht]) (aPm h) d
 | nc x=>
  refine aAE (sub fun t ht=>ht) fun d=>?_
  unfold ncO;split <;> first | exact h _ | trivial
 | ex x i=>
  refine aAE (sub fun t ht=>ht) fun d=>?_
  unfold exT;split
  ·exact aB9 h
  ·trivial
 | ca v ms args=>exact aJf (sub fun t ht=>ht) fun ds=>aJE _ _ fun ds'=>aJW h _
 | cx x ms args=>
  refine aAE (sub fun t ht=>by simp[O.rds,ht]) fun d=>aJf (sub fun t ht=>by rw[O.rds];exact List.mem_append_right _ ht) fun ds=>aJE _ _ fun ds'=>?_
  unfold cxO;split
  ·exact aJW h _
  ·exact aJW h _
  ·trivial
 | mf v caps=>
  refine aJf (sub fun t ht=>ht) fun ds=>?_
  unfold mfO;split <;> exact h _
 | ci kd x=>exact aAE (sub fun t ht=>ht) fun d=>aGJ (fun _ _=>h _) d
 | mm mx xs=>
  refine aJf (sub fun t ht=>ht) fun ds=>?_
  unfold mmO;split
  ·exact aB9 fun _=>h _
  ·trivial
 | s2b x=>
  refine aAE (sub fun t ht=>ht) fun d=>?_
  unfold asS;split
  ·exact h _
  ·trivial
 | b2s x=>exact aAE (sub fun t ht=>ht) fun d=>aHr (fun _ _=>aB9 fun _=>h _) d
 | mk=>exact h _
 | mq kind zero ok x i=>exact aAE (sub fun t ht=>by simp[O.rds,ht]) fun d=>aAE (sub fun t ht=>by simp[O.rds,ht]) fun d'=>aIp (fun _=>aJr (fun _ _ _=>aB9 fun _=>h _) d) d'
 | mu kind x i v=>exact aAE (sub fun t ht=>by simp[O.rds,ht]) fun d=>aAE (x:=i) (sub fun t ht=>by simp[O.rds,ht]) fun d'=>aIp (fun _=>aAE (x:=v) (sub fun t ht=>by simp[O.rds,ht]) fun d2=>(aHP true 300).1 _ _ fun y=>aJr (fun _ _ _=>aB9 fun _=>aKy (h _)) d) d'
 | me kind zero x i=>exact aAE (sub fun t ht=>by simp[O.rds,ht]) fun d=>aAE (x:=i) (sub fun t ht=>by simp[O.rds,ht]) fun d'=>aIp (fun _=>aJr (fun _ _ _=>aB9 fun _=>aKy (h _)) d) d'
 | mt x s v=>exact aAE (sub fun t ht=>by simp[O.rds,ht]) fun d=>aAE (x:=s) (sub fun t ht=>by simp[O.rds,ht]) fun d'=>aGJ (fun _ _=>aAE (x:=v) (sub fun t ht=>by simp[O.rds,ht]) fun d2=>(aHP true 300).1 _ _ fun y=>aJr (fun _ _ _=>aB9 fun _=>aKy (h _)) d) d'
 | md kind x i=>exact aAE (sub fun t ht=>by simp[O.rds,ht]) fun d=>aAE (x:=i) (sub fun t ht=>by simp[O.rds,ht]) fun d'=>aIp (fun _=>aJr (fun _ _ _=>aB9 fun _=>aKy (h _)) d) d'
theorem aYH {o:AO}{k:M β}(hR:∀ t,t∈AO.rds o->R t)(hW:∀ t,o.dst=some t->W t)(h:aCL R W k):aCL R W (exO o k):=by
 have put:∀ d,aCL R W (aRf o.dst k d):=fun d=>by
  unfold aRf;split
  ·rename_i t ht;exact⟨hW t ht,h⟩
  ·exact h
 have ev:aCL R W (evO o.nm (aRf o.dst k) o.op):=aYF (fun t ht=>hR t (by unfold AO.rds;exact List.mem_append_left _ ht)) put
 unfold exO;split
 ·exact ev
 ·rename_i g want hg
  refine⟨hR g (by unfold AO.rds;rw[hg];simp),fun d=>?_⟩
  unfold guO;split
  ·exact aHv ev (put _)
  ·exact put _
  ·trivial
end
end Am
end Go.Proofs.YtkmbhgggpfbffaaGreatDoor
