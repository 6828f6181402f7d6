/- The typed layer: each operation is sound. -/
import Derived.Test.YtkmbhgggpfbffaaGreatDoorAs2
set_option linter.unusedVariables false
set_option linter.unusedSimpArgs false
set_option linter.constructorNameAsVariable false
namespace Go.Proofs.YtkmbhgggpfbffaaGreatDoor
namespace Am
section
variable {R:Type} {α:Type} {F:Cf} {Q:α->StS->List Acc->(StS->List Acc->Option R)->R->Prop}
def Ok (F:Cf)(Q:α->StS->List Acc->(StS->List Acc->Option R)->R->Prop)(m:MS R)(m':M α):Prop:=
 ∀ s l k r,m s l k=some r->∃ a s1 l1,m'.runA F s.enc l=some (a,s1.enc,l1)∧Q a s1 l1 k r
def FOK (FS:CfS R)(F:Cf):Prop:=
 ∀ v ds h k r,FS v ds h k=some r->∃ roots res h',F v (DS.encs ds) (aE2 h)=some (roots,DS.encs res,aE2 h')∧k roots res h'=some r
theorem aAr {m':M α}:Ok F Q (aCM:MS R) m':=fun _ _ _ _ h=>by cases h
theorem bGi {t:Nat}{kk:DS->MS R}{k':D->M α}(h:∀ d,Ok F Q (kk d) (k' d.enc)):Ok F Q (rdS t kk) (.rd t k'):=by
 intro s l k r hr
 unfold rdS at hr
 split at hr
 ·rename_i d hd
  obtain⟨a,s1,l1,h1,h2⟩:=h d s l k r hr
  exact⟨a,s1,l1,by simpa[M.runA,StS.enc,aK5,hd]using h1,h2⟩
 ·cases hr
theorem bP5 {t:Nat}{d:DS}{m:MS R}{m':M α}(h:Ok F Q m m'):Ok F Q (wrS t d m) (.wr t d.enc m'):=by
 intro s l k r hr
 exact h _ l k r hr
theorem aFs {key:Nat}{kk:ObS->MS R}{k':Ob->M α}(h:∀ o,Ok F Q (kk o) (k' o.enc)):Ok F Q (aLV key kk) (.get key k'):=by
 intro s l k r hr
 unfold aLV at hr
 split at hr
 ·rename_i o ho
  obtain⟨a,s1,l1,h1,h2⟩:=h o s _ k r hr
  exact⟨a,s1,l1,by simpa[M.runA,StS.enc,aHa,ho]using h1,h2⟩
 ·cases hr
theorem aHB {key:Nat}{o:ObS}{m:MS R}{m':M α}{o':Ob}(ho':o.enc=o')(h:Ok F Q m m'):Ok F Q (aNz key o m) (.set key o' m'):=by
 subst ho'
 intro s l k r hr
 unfold aNz at hr
 split at hr
 ·rename_i o ho
  obtain⟨a,s1,l1,h1,h2⟩:=h _ _ k r hr
  refine⟨a,s1,l1,?_,h2⟩
  simp only[M.runA,StS.enc,aHa,ho,Option.map_some,Option.bind_some]
  exact h1
 ·cases hr
theorem aHU {key:Nat}{o:ObS}{m:MS R}{m':M α}{o':Ob}(ho':o.enc=o')(h:Ok F Q m m'):Ok F Q (aQA key o m) (.new key o' m'):=by
 subst ho'
 intro s l k r hr
 unfold aQA at hr
 split at hr
 ·cases hr
 ·rename_i ho
  obtain⟨a,s1,l1,h1,h2⟩:=h _ _ k r hr
  refine⟨a,s1,l1,?_,h2⟩
  simp only[M.runA,StS.enc,aHa,ho,Option.map_none]
  exact h1
theorem aT5 {key off:Nat}{kk:DS->MS R}{k':D->M α}(h:∀ d,Ok F Q (kk d) (k' d.enc)):Ok F Q (aYT key off kk) (.cget key off k'):=by
 intro s l k r hr
 unfold aYT at hr
 split at hr
 ·rename_i o ho
  split at hr
  ·rename_i d hd
   obtain⟨a,s1,l1,h1,h2⟩:=h d s _ k r hr
   exact⟨a,s1,l1,by simpa[M.runA,StS.enc,aHa,ho,aRn hd]using h1,h2⟩
  ·cases hr
 ·cases hr
theorem aUa {key off:Nat}{d:DS}{m:MS R}{m':M α}(h:Ok F Q m m'):Ok F Q (aYx key off d m) (.cset key off d.enc m'):=by
 intro s l k r hr
 unfold aYx at hr
 split at hr
 ·rename_i o ho
  split at hr
  ·rename_i o' hd
   obtain⟨a,s1,l1,h1,h2⟩:=h _ _ k r hr
   refine⟨a,s1,l1,?_,h2⟩
   simp only[M.runA,StS.enc,aHa,ho,Option.map_some,Option.bind_some,aPB hd]
   exact h1
  ·cases hr
 ·cases hr
theorem bCs {FS:CfS R}(hF:FOK FS F){v:Nat}{ds:List DS}{h:aBq}{kk:List Nat->List DS->aBq->MS R}{k':List Nat->List D->aAR->M α}
  (hk:∀ roots res h',Ok F Q (kk roots res h') (k' roots (DS.encs res) (aE2 h'))):Ok F Q (bBj FS v ds h kk) (.call v (DS.encs ds) (aE2 h) k'):=by
 intro s l k r hr
 obtain⟨roots,res,h',h1,h2⟩:=hF _ _ _ _ _ hr
 obtain⟨a,s1,l1,h3,h4⟩:=hk roots res h' s l k r h2
 exact⟨a,s1,l1,by simpa[M.runA,h1]using h3,h4⟩
theorem aHp {b:Bool}{m:MS R}{m':M α}(h:b=true->Ok F Q m m'):Ok F Q (gdS b m) m':=by
 intro s l k r hr
 cases b with
 | false=>cases hr
 | true=>exact h rfl s l k r hr
theorem aFa {c:Prop} [Decidable c] {b:Bool}{m:MS R}{m':M α}(hc:b=true->c)(h:Ok F Q m m'):Ok F Q (gdS b m) (grd c m'):=
 aHp fun hb=>by unfold Am.grd;rw[if_pos (hc hb)];exact h
theorem aKW {c:Prop} [Decidable c] {m:MS R}{m':M α}(hc:c)(h:Ok F Q m m'):Ok F Q m (Am.grd c m'):=by unfold Am.grd;rw[if_pos hc];exact h
theorem bPZ {b:Bool}{m n:MS R}{m' n':M α}(h:b=true->Ok F Q m m')(h':b=false->Ok F Q n n'):Ok F Q (brS b m n) (aNR b m' n'):=by
 intro s l k r hr
 cases b with
 | true=>exact h rfl s l k r hr
 | false=>exact h' rfl s l k r hr
theorem aOT {b:Bool}{m n:MS R}{m':M α}(h:b=true->Ok F Q m m')(h':b=false->Ok F Q n m'):Ok F Q (brS b m n) m':=by
 intro s l k r hr
 cases b with
 | true=>exact h rfl s l k r hr
 | false=>exact h' rfl s l k r hr
theorem aGb {β:Type}{o:Option β}{kk:β->MS R}{m':M α}(h:∀ a,o=some a->Ok F Q (kk a) m'):Ok F Q (ooS o kk) m':=by
 intro s l k r hr
 obtain⟨a,h1,h2⟩:=Option.bind_eq_some_iff.1 hr
 exact h a h1 s l k r h2
theorem aHm {β γ:Type}{o:Option β}{o':Option γ}{kk:β->MS R}{k':γ->M α}(h:∀ a,o=some a->∃ c,o'=some c∧Ok F Q (kk a) (k' c)):Ok F Q (ooS o kk) (oret o' k'):=
 aGb fun a ha=>by
  obtain⟨c,hc,h⟩:=h a ha
  rw[hc];exact h
theorem aHo {kk:Bool->EL->MS R}{k':Bool->Nat->List (List V)->M α}(h:∀ b e,Ok F Q (kk b e) (k' b e.sz e.xs)):∀ o:ObS,Ok F Q (aLl kk o) (aPO k' o.enc)
 | .arr e=>h false e
 | .frz e=>h true e
 | .box _=>aAr
 | .fbx _=>aAr
 | .mp _ _ _ _=>aAr
 | .dead=>aAr
theorem aNB {kk:EL->MS R}{k':Nat->List (List V)->M α}(h:∀ e,Ok F Q (kk e) (k' e.sz e.xs)):∀ o:ObS,Ok F Q (aQe kk o) (aNx k' o.enc)
 | .arr e=>h e
 | .frz e=>aAr
 | .box _=>aAr
 | .fbx _=>aAr
 | .mp _ _ _ _=>aAr
 | .dead=>aAr
theorem aQw {c:Bool}{key:Nat}{o:ObS}{o':Ob}(ho:o.enc=o'){m:MS R}{m':M α}(h:Ok F Q m m'):Ok F Q (bHd c key o m) (frz c key o' m'):=by
 cases c with
 | true=>exact aHB ho h
 | false=>exact h
theorem EL.cut_sz (e:EL)(off len:Nat):(e.cut off len).sz=e.sz:=by cases e <;> rfl
theorem EL.cut_xs (e:EL)(off len:Nat):(e.cut off len).xs=(e.xs.drop off).take len:=by
 cases e <;> simp[EL.cut,EL.xs]
theorem aRa {n:Nat}{kk:List S->MS R}{k':List V->M α}(h:∀ cs,Ok F Q (kk cs) (k' (cs.map S.enc))):∀ e:EL,Ok F Q (e.get n kk) (Am.oret e.xs[n]? k')
 | .t es xs=>aHm fun a ha=>⟨aKa es a,by simp[EL.xs,ha],by rw[<- aJh];exact h _⟩
 | .e _=>aAr
theorem DS.encs_p (vs:List S):DS.encs (vs.map .p)=(vs.map S.enc).map .p:=by rw[DS.encs_map];simp[Function.comp_def,DS.enc]
mutual
theorem aOG {perm:Bool}:∀ (n:Nat) (d:DS) {kk:S->MS R} {k':V->M α},(∀ u,Ok F Q (kk u) (k' u.enc))->Ok F Q (toS perm n d kk) (toV perm n d.enc k')
 | 0,_,_,_,_=>aAr
 | _+1,.p u,_,_,h=>h u
 | _+1,.own key,_,_,h=>aFs (aHo fun fz e=>aQw rfl (h (.l e)))
 | _+1,.arr key off len _,_,_,h=>aFs (aHo fun fz e=>aQw rfl (aFa (fun hb=>by rw[EL.xs_len];exact of_decide_eq_true hb) (by
  have:=h (.l (e.cut off len))
  simpa only[S.enc,EL.cut_sz,EL.cut_xs]using this)))
 | n+1,.ptr key off,_,_,h=>aFs (bCK n key off h)
 | _+1,.ep key i off,_,_,h=>aFs (aHo fun fz e=>aQw rfl (aRa (fun cs=>by
  have:=h (.cp (cs.drop off))
  simpa only[S.enc,S.encs_map,List.map_drop]using this) e))
 | n+1,.fn v caps,_,_,h=>aIa n caps fun vs=>by have:=h (.fn v vs);simpa only[S.enc,S.encs_map]using this
 | n+1,.ifc t a xs,_,_,h=>aIa n xs fun vs=>by have:=h (.ifc t a vs);simpa only[S.enc,S.encs_map]using this
 | _+1,.mp _,_,_,_=>aAr
 | _+1,.agg _,_,_,_=>aAr
 | _+1,.tup _,_,_,_=>aAr
 | _+1,.und,_,_,_=>aAr
theorem bCK {perm:Bool}:∀ (n:Nat) (key off:Nat) {kk:S->MS R} {k':V->M α},(∀ u,Ok F Q (kk u) (k' u.enc))->∀ o:ObS,Ok F Q (bRC perm n key off kk o) (bL0 perm n key off k' o.enc)
 | 0,_,_,_,_,_,o=>by cases o <;> exact aAr
 | n+1,key,off,kk,k',h,.box cs=>aIa n cs fun vs=>aQw (by simp only[ObS.enc,S.encs_map]) (by
  have:=h (.cp (vs.drop off))
  simpa only[S.enc,S.encs_map,List.map_drop]using this)
 | _+1,_,off,kk,k',h,.fbx vs=>by
  have:=h (.cp (vs.drop off))
  show Ok F Q (kk (.cp (vs.drop off))) (k' (.cp ((S.encs vs).drop off)))
  rw[S.encs_map,<- List.map_drop]
  simpa only[S.enc,S.encs_map]using this
 | _+1,_,_,_,_,_,.arr _=>aAr
 | _+1,_,_,_,_,_,.frz _=>aAr
 | _+1,_,_,_,_,_,.mp _ _ _ _=>aAr
 | _+1,_,_,_,_,_,.dead=>aAr
theorem aIa {perm:Bool}:∀ (n:Nat) (ds:List DS) {kk:List S->MS R} {k':List V->M α},(∀ vs:List S,Ok F Q (kk vs) (k' (vs.map S.enc)))->Ok F Q (toSs perm n ds kk) (aRE perm n (DS.encs ds) k')
 | 0,ds,_,_,_=>by cases ds <;> exact aAr
 | _+1,[],_,_,h=>h []
 | n+1,d :: r,_,_,h=>aOG n d fun v=>aIa n r fun vs=>h (v :: vs)
end
theorem aCw {kk:DS->MS R}{k':D->M α}(h:∀ d,Ok F Q (kk d) (k' d.enc)):∀ x:Od,Ok F Q (vlS x kk) (vl x k')
 | .t n=>bGi h
 | .c v=>aGb fun u hu=>by have:=h (.p u);simp only[DS.enc,V.toS_enc hu]at this;exact this
 | .f v=>h (.p (.fn v []))
 | .z sz key=>aHU rfl (h (.own key))
theorem aOL:∀ (xs:List Od) {kk:List DS->MS R} {k':List D->M α},(∀ ds,Ok F Q (kk ds) (k' (DS.encs ds)))->Ok F Q (bGH xs kk) (vls xs k')
 | [],_,_,h=>h []
 | x :: r,_,_,h=>aCw (fun d=>aOL r fun ds=>h (d :: ds)) x
theorem aJe {kk:IntKind->Int->MS R}{k':IntKind->Int->M α}(h:∀ k n,Ok F Q (kk k n) (k' k n))(d:DS):Ok F Q (aU2 kk d) (asI k' d.enc):=by
 unfold aU2;split
 ·exact h _ _
 ·exact aAr
theorem aUo {kk:Bool->MS R}{k':Bool->M α}(h:∀ n,Ok F Q (kk n) (k' n))(d:DS):Ok F Q (bIu kk d) (asB k' d.enc):=by
 unfold bIu;split
 ·exact h _
 ·exact aAr
theorem aMt {kk:S->MS R}{k':V->M α}(h:∀ n,Ok F Q (kk n) (k' n.enc))(d:DS):Ok F Q (bA0 kk d) (asP k' d.enc):=by
 unfold bA0;split
 ·exact h _
 ·exact aAr
theorem aQW {kk:List DS->MS R}{k':List D->M α}(h:∀ n,Ok F Q (kk n) (k' (DS.encs n)))(d:DS):Ok F Q (bGC kk d) (asG k' d.enc):=by
 unfold bGC;split
 ·exact h _
 ·exact aAr
theorem aI5 {kk:EL->MS R}{k':Nat->List (List V)->M α}(h:∀ e,Ok F Q (kk e) (k' e.sz e.xs))(d:DS):Ok F Q (aKQ kk d) (elems k' d.enc):=by
 unfold aKQ;split
 ·exact h _
 ·exact aFs (aHo fun fz e=>h e)
 ·rename_i key off len _
  exact aFs (aHo fun fz e=>aFa (fun hb=>by rw[EL.xs_len];exact of_decide_eq_true hb) (by
   have:=h (e.cut off len)
   simpa only[EL.cut_sz,EL.cut_xs]using this))
 ·exact aAr
theorem aXW {op:BinOp}{k:IntKind}{a b:Int}{kk:S->MS R}{k':V->M α}(h:∀ u,Ok F Q (kk u) (k' u.enc)):Ok F Q (aZx op k a b kk) (Am.oret (intOp op k a b) k'):=by
 cases op <;> first | exact h (.i _ _) | exact h (.b _) | exact aAr | (
  refine aOT (fun hb=>aAr) (fun hb=>?_)
  have:=of_decide_eq_false hb
  simp only[Am.intOp,if_neg this]
  exact h (.i _ _))
theorem aXL {op:BinOp}{k:IntKind}{a b:Int}{kk:S->MS R}{k':V->M α}(h:∀ u,Ok F Q (kk u) (k' u.enc)):Ok F Q (bA2 op k a b kk) (Am.oret (aLK op k a b) k'):=by
 cases op <;> first | exact aAr | (
  refine aOT (fun hb=>aAr) (fun hb=>?_)
  have:=of_decide_eq_false hb
  simp only[aLK,if_neg this]
  exact h (.i _ _))
theorem bIh {op:BinOp}{kk:S->MS R}{k':V->M α}(h:∀ u,Ok F Q (kk u) (k' u.enc))(u w:S):Ok F Q (bNq op kk u w) (Am.oret (bGA op u.enc w.enc) k'):=by
 unfold bNq;split
 ·rename_i k a k2 b
  simp only[S.enc,bGA]
  cases aMQ op with
  | true=>simp only[cond_true,if_true];exact aXL h
  | false=>
   simp only[cond_false,Bool.false_eq_true,if_false]
   refine aHp fun hb=>?_
   rw[if_pos (of_decide_eq_true hb)]
   exact aXW h
 ·simp only[S.enc]
  split
  ·exact h (.b _)
  ·exact h (.b _)
  ·refine aOT (fun hb=>aAr) (fun hb=>?_)
   have:=of_decide_eq_false hb
   simp only[bGA,if_neg this]
   exact h (.s _)
  ·exact aAr
 ·exact aAr
theorem bIa {k:Nat}{u w:S}{t:Bool}(h:eqS k u w=some t):eqV k u.enc w.enc=some t:=by
 unfold eqS at h
 split at h
 ·rename_i k a k2 b
  cases hk:decide (k=k2)with
  | false=>rw[hk]at h;cases h
  | true=>
   rw[hk]at h;injection h with h
   simp only[S.enc,eqV,if_pos (of_decide_eq_true hk),h]
 ·exact h
 ·exact h
 ·cases h
theorem bEi:∀ (ks:List Nat) (us ws:List DS) (t:Bool),bGD ks us ws=some t->aNP ks (DS.encs us) (DS.encs ws)=some t:=by
 intro ks
 induction ks with
 | nil=>
  intro us ws t h
  cases us with
  | nil=>cases ws with
   | nil=>exact h
   | cons _ _=>simp only[bGD,reduceCtorEq]at h
  | cons _ _=>cases ws <;> simp only[bGD,reduceCtorEq]at h
 | cons k ks ih=>
  intro us ws t h
  unfold bGD at h
  split at h
  ·rename_i h0;cases h0
  ·rename_i e1
   injection e1 with e1 e2;subst e1 e2
   obtain⟨a,h1,h⟩:=Option.bind_eq_some_iff.1 h
   obtain⟨b,h2,h⟩:=Option.bind_eq_some_iff.1 h
   injection h with h;subst h
   simp only[DS.encs,DS.enc,aNP,bIa h1,Option.bind_some,ih _ _ _ h2]
  ·cases h
theorem aQl {key:Nat}:∀ (n off:Nat) {kk:List DS->MS R} {k':List D->M α},(∀ ds,Ok F Q (kk ds) (k' (DS.encs ds)))->Ok F Q (aSi key off n kk) (aTO key off n k')
 | 0,_,_,_,h=>h []
 | n+1,off,_,_,h=>aT5 fun d=>aQl n (off+1) fun ds=>h (d :: ds)
theorem aQZ {key:Nat}{m:MS R}{m':M α}(h:Ok F Q m m'):∀ (ds:List DS) (off:Nat),Ok F Q (aUe key off ds m) (aWb key off (DS.encs ds) m')
 | [],_=>h
 | d :: r,off=>aUa (aQZ h r (off+1))
theorem aKi {cs:List S}{off:Nat}{kk:DS->MS R}{k':D->M α}(h:∀ d,Ok F Q (kk d) (k' d.enc)):∀ n:Option Nat,Ok F Q (aJX cs off kk n) (aHE (cs.map S.enc) off k' n)
 | none=>aHm fun a ha=>⟨a.enc,by simp[ha],h (.p a)⟩
 | some n=>aFa (fun hb=>by simpa using of_decide_eq_true hb) (by
  have:=h (.agg (((cs.drop off).take n).map .p))
  have e:DS.encs (((cs.drop off).take n).map .p)=(((cs.map S.enc).drop off).take n).map .p:=by rw[DS.encs_p];simp
  rw[DS.enc,e]at this
  exact this)
theorem bKv {key off:Nat}{kk:DS->MS R}{k':D->M α}(h:∀ d,Ok F Q (kk d) (k' d.enc)):∀ n:Option Nat,Ok F Q (bSN key off kk n) (ldP key off k' n)
 | none=>aT5 h
 | some n=>aQl n off fun ds=>h (.agg ds)
theorem bJS {n:Option Nat}{kk:DS->MS R}{k':D->M α}(h:∀ d,Ok F Q (kk d) (k' d.enc))(d:DS):Ok F Q (ldS n kk d) (ldO n k' d.enc):=by
 unfold ldS;split
 ·exact bKv h n
 ·exact aFs (aHo fun fz e=>aRa (fun cs=>aKi h n) e)
 ·simp only[DS.enc,S.enc,S.encs_map]
  exact aKi h n
 ·exact aAr
theorem bEl {n:Option Nat}{d:DS}{xs:List DS}(h:bMt n d=some xs):stX n d.enc=some (DS.encs xs):=by
 unfold bMt at h
 split at h
 ·cases h
 ·cases h
 ·cases h
 ·injection h with h;subst h
  rename_i h1 h2 h3
  cases d <;> first | rfl | (exact absurd rfl (h1 _)) | (exact absurd rfl (h2 _)) | (exact absurd rfl h3)
 ·rename_i m ys
  cases hm:ys.length == m with
  | false=>rw[hm]at h;cases h
  | true=>
   rw[hm]at h;injection h with h;subst h
   simp only[DS.enc,stX,DS.encs_map,List.length_map,if_pos (eq_of_beq hm)]
 ·cases h
theorem aOn (cs:List S)(off:Nat)(vs:List S):(aQJ cs off vs).map S.enc=aKo (cs.map S.enc) off (vs.map S.enc):=by
 simp[aQJ,aKo]
theorem bHF {key i off:Nat}{vs:List S}{m:MS R}{m':M α}(h:Ok F Q m m'):∀ o:ObS,Ok F Q (bSW key i off vs m o) (stE key i off (vs.map S.enc) m' o.enc)
 | .arr (.t es xs)=>aHm fun a ha=>⟨aKa es a,by simp[EL.xs,ha],aFa (fun hb=>by
  have:=of_decide_eq_true hb
  rw[aNK]at this
  rw[aYn];simpa using this) (aGb fun y hy=>aHB (by
   have:=aKF _ _ _ hy
   rw[aOn,aJh]at this
   simp only[ObS.enc,EL.xs,EL.sz,List.map_set,<- this]) h)⟩
 | .arr (.e _)=>aAr
 | .frz _=>aAr
 | .box _=>aAr
 | .fbx _=>aAr
 | .mp _ _ _ _=>aAr
 | .dead=>aAr
theorem bHP {xs:List DS}{m:MS R}{m':M α}(h:Ok F Q m m')(d:DS):Ok F Q (bOl xs m d) (stC (DS.encs xs) m' d.enc):=by
 unfold bOl;split
 ·exact aQZ h xs _
 ·exact aIa 300 xs fun vs=>aFs (bHF h)
 ·exact aAr
theorem inR_iff {n:Int}{len:Nat}:inR n len=true↔0<=n∧n<len:=by simp[inR]
theorem aQh {n:Int}{f:Nat->MS R}{g:Nat->M α}(len:Nat)(h:∀ j,Ok F Q (f j) (g j)):Ok F Q (aXl n f len) (grd (0<=n∧n<len) (g n.toNat)):=by
 induction len with
 | zero=>exact aAr
 | succ l ih=>
  unfold aXl
  refine aOT (fun hb=>?_) (fun hb=>?_)
  ·have:=of_decide_eq_true hb
   subst this
   exact aKW ⟨by omega,by omega⟩ (h l)
  ·intro s l' k r hr
   have:=ih s l' k r hr
   unfold grd at this ⊢
   split at this
   ·rename_i hc
    rw[if_pos ⟨hc.1,by omega⟩];exact this
   ·obtain⟨a,s1,l1,h1,_⟩:=this
    cases h1
theorem bHf {sz:Nat}{n:Int}{kk:DS->MS R}{k':D->M α}(h:∀ d,Ok F Q (kk d) (k' d.enc))(d:DS):Ok F Q (bOo sz n kk d) (ixO sz n k' d.enc):=by
 unfold bOo;split
 ·rename_i e
  refine aHp fun hs=>?_
  have hs:=eq_of_beq hs
  simp only[DS.enc,S.enc,ixO]
  cases e with
  | e=>exact aAr
  | t es xs=>
   refine aGb fun x hx=>?_
   unfold at? at hx
   split at hx
   ·rename_i h0
    refine aKW ⟨hs,h0⟩ ?_
    simp only[EL.xs,List.getElem?_map,hx,Option.map_some,Am.oret]
    have:=h (.p (.cp (aXc es x)))
    simpa only[DS.enc,S.enc,S.encs_map,aJh]using this
   ·cases hx
 ·exact aFs (aHo fun fz e=>aHp fun hs=>aFa (fun hb=>by rw[EL.xs_len];exact⟨eq_of_beq hs,inR_iff.1 hb⟩) (h (.ep _ _ _)))
 ·exact aFs (aHo fun fz e=>aHp fun hs=>aHp fun hr=>aFa (fun hb=>by
   rw[EL.xs_len];exact⟨eq_of_beq hs,(inR_iff.1 hr).1,(inR_iff.1 hr).2,of_decide_eq_true hb⟩) (h (.ep _ _ _)))
 ·exact aAr
theorem bBa {kk:(ks vs:Sh)->Nat->List (ks.den×Nat×vs.den)->MS R}{k':Nat->List (V×Nat×V)->M α}(h:∀ ks vs c xs,Ok F Q (kk ks vs c xs) (k' c (xs.map fun x=>(ks.enc x.1,x.2.1,vs.enc x.2.2)))):∀ o:ObS,Ok F Q (bPO kk o) (mpK k' o.enc)
 | .mp ks vs c xs=>h ks vs c xs
 | .arr _=>aAr
 | .frz _=>aAr
 | .box _=>aAr
 | .fbx _=>aAr
 | .dead=>aAr
theorem bKH {kk:Nat->MS R}{k':Nat->M α}(h:∀ n,Ok F Q (kk n) (k' n))(kind:Nat)(d:DS):Ok F Q (bNC kk kind d) (lnO k' kind d.enc):=by
 unfold bNC;split
 ·exact aI5 (fun e=>by rw[EL.xs_len];exact h _) d
 ·exact h _
 ·exact aFs (bBa fun ks vs c xs=>by
   have:=h xs.length
   simpa using this)
 ·exact aAr
theorem room_iff {n bytes:Nat}:aBU n bytes=true↔aJm n bytes:=by simp[aBU,aJm]
theorem aVc {a b c:EL}(h:a.app b=some c):c.sz=a.sz∧c.xs=a.xs++b.xs:=by
 unfold EL.app at h
 split at h
 ·split at h
  ·rename_i hb
   have:=aH8 _ _ hb;subst this
   injection h with h;subst h
   exact⟨rfl,by simp[EL.xs]⟩
  ·cases h
 ·rename_i es xs sz
  cases hb:sz == es.length with
  | false=>rw[hb]at h;cases h
  | true=>rw[hb]at h;injection h with h;subst h;exact⟨rfl,by simp[EL.xs]⟩
 ·rename_i sz es ys
  cases hb:es.length == sz with
  | false=>rw[hb]at h;cases h
  | true=>rw[hb]at h;injection h with h;subst h;exact⟨eq_of_beq hb,by simp[EL.xs]⟩
 ·rename_i sz sz'
  cases hb:sz' == sz with
  | false=>rw[hb]at h;cases h
  | true=>rw[hb]at h;injection h with h;subst h;exact⟨rfl,by simp[EL.xs]⟩
theorem aXX {n:Nat}{a b c:EL}(h:a.over n b=some c):c.sz=a.sz∧c.xs=a.xs.take n++b.xs++a.xs.drop (n+b.xs.length):=by
 unfold EL.over at h
 split at h
 ·split at h
  ·rename_i hb
   have:=aH8 _ _ hb;subst this
   injection h with h;subst h
   exact⟨rfl,by simp[EL.xs]⟩
  ·cases h
 ·rename_i es xs sz
  cases hb:sz == es.length with
  | false=>rw[hb]at h;cases h
  | true=>rw[hb]at h;injection h with h;subst h;exact⟨rfl,by simp[EL.xs]⟩
 ·cases h
theorem bAK {nm sz bytes:Nat}{ys:EL}(hy:ys.sz=sz){kk:DS->MS R}{k':D->M α}(h:∀ d,Ok F Q (kk d) (k' d.enc))(d:DS):Ok F Q (bLh nm sz bytes ys kk d) (apX nm sz bytes ys.xs k' d.enc):=by
 unfold bLh;split
 ·refine aFs (aNB fun e=>aHp fun hs=>aFa (fun hb=>?_) (aGb fun e' he=>?_))
  ·simp only[EL.xs_len];exact⟨eq_of_beq hs,room_iff.1 hb⟩
  ·have:=aVc he
   exact aHB rfl (aHU (by simp only[ObS.enc,this.1,this.2,eq_of_beq hs]) (h (.own nm)))
 ·rename_i key off len
  refine aFs (aNB fun e=>aHp fun hs=>aFa (fun hb=>?_) ?_)
  ·simp only[EL.xs_len];exact⟨eq_of_beq hs,room_iff.1 hb⟩
  ·simp only[EL.xs_len]
   refine bPZ (fun _=>?_) (fun _=>?_)
   ·refine aGb fun e' he=>?_
    have:=aVc he
    rw[EL.cut_sz,EL.cut_xs]at this
    have hd:(e.xs.drop off).take (e.len-off)=e.xs.drop off:=List.take_of_length_le (by rw[List.length_drop,EL.xs_len];exact Nat.le_refl _)
    rw[hd]at this
    exact aHB rfl (aHU (by simp only[ObS.enc,this.1,this.2,eq_of_beq hs]) (h (.own nm)))
   ·refine aFa (fun hb=>?_) (aGb fun e' he=>?_)
    ·rw[EL.xs_len,EL.xs_len];exact of_decide_eq_true hb
    ·have:=aXX he
     refine aHB ?_ ?_
     ·simp only[ObS.enc,this.1,this.2,eq_of_beq hs]
     ·rw[EL.xs_len];exact h (.arr key off (len+ys.len) true)
 ·exact aAr
theorem aT1 {nm:Nat}{v:V}{r:List V}{k':List D->M α}(hv:∀ sz xs,v≠.sl sz xs):aM7 nm (v :: r) k'=aM7 (nm+1) r fun ds=>k' (.p v :: ds):=by
 cases v <;> first | rfl | exact absurd rfl (hv _ _)
theorem aMV:∀ (vs:List V) (nm:Nat) {kk:List DS->MS R} {k':List D->M α},(∀ ds,Ok F Q (kk ds) (k' (DS.encs ds)))->Ok F Q (aO5 nm vs kk) (aM7 nm vs k')
 | [],_,_,_,h=>h []
 | v :: r,nm,kk,k',h=>by
  unfold aO5
  split
  ·exact aHU rfl (aMV r (nm+1) fun ds=>h (.own nm :: ds))
  ·rename_i hv
   refine aGb fun u hu=>?_
   rw[aT1 (fun sz xs e=>hv sz xs e)]
   refine aMV r (nm+1) fun ds=>?_
   have:=h (.p u :: ds)
   simpa only[DS.encs,DS.enc,V.toS_enc hu]using this
def bGv (ps:List (Nat×Nat×DS)):List (Nat×Nat×D):=ps.map fun x=>(x.1,x.2.1,x.2.2.enc)
theorem aKY:∀ (ps:List (Nat×Nat×Od)) {kk:List (Nat×Nat×DS)->MS R} {k':List (Nat×Nat×D)->M α},(∀ ds,Ok F Q (kk ds) (k' (bGv ds)))->Ok F Q (aNr ps kk) (aLi ps k')
 | [],_,_,h=>h []
 | (off,size,x) :: r,_,_,h=>aCw (fun d=>aKY r fun ds=>h ((off,size,d) :: ds)) x
def aRi (l:List (Option DS)):List (Option D):=l.map fun x=>x.map DS.enc
theorem aKe:∀ (ps:List (Nat×Nat×DS)) (cs cs':List (Option DS)),aJv ps cs=some cs'->aIq (bGv ps) (aRi cs)=some (aRi cs')
 | [],cs,cs',h=>by injection h with h;subst h;rfl
 | (off,size,d) :: r,cs,cs',h=>by
  simp only[aJv]at h
  cases hc:(d.cells.length == size&&decide (off+size<=cs.length)&&d.cells.all (·.one))with
  | false=>rw[hc]at h;cases h
  | true=>
     rw[hc]at h
     simp only[Bool.and_eq_true,beq_iff_eq,decide_eq_true_eq]at hc
     have:=aKe r _ _ h
     simp only[bGv,List.map_cons,aIq]
     rw[if_pos ⟨by rw[DS.cells_enc,DS.encs_map,List.length_map];exact hc.1.1,by simpa[aRi]using hc.1.2,by
      rw[DS.cells_enc,DS.encs_map,List.all_map]
      have h2:=hc.2
      simp only[List.all_eq_true,Function.comp]at h2 ⊢
      intro x hx;rw[DS.one_enc];exact h2 x hx⟩]
     rw[<- bGv]
     rw[show (aRi cs).take off++d.enc.cells.map some++(aRi cs).drop (off+size)=aRi (cs.take off++d.cells.map some++cs.drop (off+size)) by
      simp[aRi,DS.cells_enc,DS.encs_map,Function.comp_def]]
     exact this
theorem aSo {nm:Nat}{v:V}{zs:List V}{r:List (Option D)}{k':List D->M α}(hv:∀ sz xs,v≠.sl sz xs):fillZ nm (v :: zs) (none :: r) k'=fillZ (nm+1) zs r fun ds=>k' (.p v :: ds):=by
 cases v <;> first | rfl | exact absurd rfl (hv _ _)
theorem aKt:∀ (zs:List V) (nm:Nat) (cs:List (Option DS)) {kk:List DS->MS R} {k':List D->M α},(∀ ds,Ok F Q (kk ds) (k' (DS.encs ds)))->Ok F Q (aKJ nm zs cs kk) (fillZ nm zs (aRi cs) k')
 | [],nm,[],_,_,h=>h []
 | [],nm,o :: r,_,_,h=>aAr
 | z :: zs,nm,[],_,_,h=>aAr
 | z :: zs,nm,some d :: r,_,_,h=>by
  simp only[aKJ,aRi,List.map_cons,Option.map_some,Am.fillZ]
  exact aKt zs (nm+1) r fun ds=>h (d :: ds)
 | z :: zs,nm,none :: r,_,_,h=>by
  simp only[aKJ]
  split
  ·exact aHU rfl (aKt zs (nm+1) r fun ds=>h (.own nm :: ds))
  ·rename_i hv
   refine aGb fun u hu=>?_
   simp only[aRi,List.map_cons,Option.map_none]
   rw[aSo (fun sz xs e=>hv sz xs e)]
   refine aKt zs (nm+1) r fun ds=>?_
   have:=h (.p u :: ds)
   simpa only[DS.encs,DS.enc,V.toS_enc hu]using this
end
end Am
end Go.Proofs.YtkmbhgggpfbffaaGreatDoor
