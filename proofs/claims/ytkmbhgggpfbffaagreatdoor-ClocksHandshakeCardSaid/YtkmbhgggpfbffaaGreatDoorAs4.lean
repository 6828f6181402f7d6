/- The typed layer: calls, code, functions are sound. -/
import Derived.Test.YtkmbhgggpfbffaaGreatDoorAs3
set_option linter.unusedVariables false
set_option linter.unusedSimpArgs false
set_option linter.constructorNameAsVariable false
namespace Go.Proofs.YtkmbhgggpfbffaaGreatDoor
namespace Am
section
variable {R:Type} {α:Type} {F:Cf} {Q:α->StS->List Acc->(StS->List Acc->Option R)->R->Prop}
theorem aE6 {d:Int}{kk:Int->MS R}{k':Int->M α}(h:∀ n,Ok F Q (kk n) (k' n)):∀ o:Option Od,Ok F Q (aGP d kk o) (aEc d k' o)
 | none=>h d
 | some o=>aCw (aJe fun _ n=>h n) o
theorem bAB {sz key off len:Nat}{ap:Bool}{e:EL}{mx:Option Od}{l h:Int}{kk:DS->MS R}{k':D->M α}(hk:∀ d,Ok F Q (kk d) (k' d.enc))(m:Int) :
  Ok F Q (bOX sz key off len ap e mx l h kk m) (slA sz key off len e.sz ap e.xs mx l h k' m):=by
 refine aHp fun h1=>aFa (fun h2=>?_) (hk (.arr _ _ _ _))
 simp only[Bool.and_eq_true,beq_iff_eq,decide_eq_true_eq]at h1
 have h2:=of_decide_eq_true h2
 rw[EL.xs_len]
 exact⟨h1.1,h1.2,h2⟩
theorem aVW {sz:Nat}{lo hi mx:Option Od}{kk:DS->MS R}{k':D->M α}(hk:∀ d,Ok F Q (kk d) (k' d.enc))(d:DS):Ok F Q (bG2 sz lo hi mx kk d) (slO sz lo hi mx k' d.enc):=by
 unfold bG2;split
 ·simp only[DS.enc,S.enc,Am.slO]
  refine aE6 (fun l=>aE6 (fun h=>aHp fun h1=>aFa (fun h2=>?_) (hk (.p (.s _)))) hi) lo
  simp only[Bool.and_eq_true,beq_iff_eq]at h1
  exact⟨h1.1,h1.2,of_decide_eq_true h2⟩
 ·rename_i e
  simp only[DS.enc,S.enc,Am.slO,EL.xs_len]
  refine aE6 (fun l=>aE6 (fun h=>aHp fun h1=>aFa (fun h2=>?_) ?_) hi) lo
  ·simp only[Bool.and_eq_true,beq_iff_eq,decide_eq_true_eq]at h1
   exact⟨h1.1.1,h1.1.2,h1.2,of_decide_eq_true h2⟩
  ·have:=hk (.p (.l (e.cut l.toNat (h.toNat-l.toNat))))
   simpa only[DS.enc,S.enc,EL.cut_sz,EL.cut_xs]using this
 ·refine aFs (aHo fun fz e=>?_)
  rw[EL.xs_len]
  exact aE6 (fun l=>aE6 (fun h=>aE6 (fun m=>bAB hk m) mx) hi) lo
 ·exact aFs (aHo fun fz e=>aE6 (fun l=>aE6 (fun h=>aE6 (fun m=>bAB hk m) mx) hi) lo)
 ·exact aAr
theorem aTv {nm:Nat}{kk:DS->MS R}{k':D->M α}(hk:∀ d,Ok F Q (kk d) (k' d.enc))(d:DS):Ok F Q (aPl nm kk d) (aKO nm k' d.enc):=by
 unfold aPl;split
 ·refine aFs (aNB fun e=>aFa (fun hb=>by rw[EL.xs_len];exact eq_of_beq hb) (aHB rfl (aHU ?_ (hk (.own nm)))))
  cases e <;> simp[ObS.enc,EL.from',EL.sz,EL.xs]
 ·exact aAr
theorem aL8 (sz:Nat):∀ (n:Nat) (vs:List S),aFA sz n (vs.map S.enc)=(aNC sz n vs).map (·.map S.enc)
 | 0,_=>rfl
 | n+1,vs=>by
  simp only[aFA,aNC,List.map_cons,List.map_take]
  rw[<- List.map_drop,aL8 sz n]
theorem aTw {es:List Sh}:∀ {cs:List (List S)} {xs:List (aJH es)},ELs es cs=some xs->cs.map (·.map S.enc)=xs.map (aKa es)
 | [],xs,h=>by injection h with h;subst h;rfl
 | c :: r,xs,h=>by
  simp only[ELs]at h
  obtain⟨a,h1,h⟩:=Option.bind_eq_some_iff.1 h
  obtain⟨b,h2,h⟩:=Option.bind_eq_some_iff.1 h
  injection h with h;subst h
  simp only[List.map_cons,aKF _ _ _ h1,aTw h2]
theorem bHH {hint:Option (List Sh)}{sz:Nat}{cs:List (List S)}{e:EL}(h:EL.of hint sz cs=some e):e.sz=sz∧e.xs=cs.map (·.map S.enc):=by
 unfold EL.of at h
 split at h
 ·injection h with h;subst h;exact⟨rfl,rfl⟩
 ·obtain⟨es,h1,h⟩:=Option.bind_eq_some_iff.1 h
  cases hb:es.length == sz with
  | false=>rw[hb]at h;cases h
  | true=>
   rw[hb]at h
   obtain⟨xs,h2,h⟩:=Option.bind_eq_some_iff.1 h
   injection h with h;subst h
   exact⟨eq_of_beq hb,(aTw h2).symm⟩
theorem bDH {hint:Option (List Sh)}{n sz:Nat}{zs:List S}{e:EL}(h:EL.rep hint n sz zs=some e):e.sz=sz∧e.xs=List.replicate n (zs.map S.enc):=by
 unfold EL.rep at h
 obtain⟨es,h1,h⟩:=Option.bind_eq_some_iff.1 h
 cases hb:es.length == sz with
 | false=>rw[hb]at h;cases h
 | true=>
  rw[hb]at h
  obtain⟨x,h2,h⟩:=Option.bind_eq_some_iff.1 h
  injection h with h;subst h
  exact⟨eq_of_beq hb,by simp[EL.xs,aKF _ _ _ h2]⟩
theorem aPE {perm:Bool}{kk:DS->MS R}{k':D->M α}(h:∀ d,Ok F Q (kk d) (k' d.enc))(d:DS):Ok F Q (aVo perm kk d) (aW2 perm k' d.enc):=by
 have key:∀ d,aVo perm kk d=toS perm 300 d (fun v=>kk (.p v))->aW2 perm k' d.enc=toV perm 300 d.enc (fun v=>k' (.p v))->Ok F Q (aVo perm kk d) (aW2 perm k' d.enc):=by
  intro d h1 h2
  rw[h1,h2]
  exact aOG 300 d fun u=>h (.p u)
 cases d with
 | agg xs=>exact aIa 300 xs fun vs=>by have:=h (.agg (vs.map .p));rwa [DS.enc,DS.encs_p]at this
 | _=>exact key _ rfl rfl
theorem bCt {mode:Nat}{d:DS}{kk:DS->MS R}{k':D->M α}(h:∀ d,Ok F Q (kk d) (k' d.enc)):Ok F Q (bIP mode d kk) (bGw mode d.enc k'):=by
 match mode with
 | 0=>exact aPE h d
 | 1=>exact aPE h d
 | 2=>exact h d
 | n+3=>exact aPE h d
theorem aNN:∀ (ds:List DS) (ms:List Nat) {kk:List DS->MS R} {k':List D->M α},(∀ ds,Ok F Q (kk ds) (k' (DS.encs ds)))->Ok F Q (aOV ms ds kk) (aJN ms (DS.encs ds) k')
 | [],ms,_,_,h=>h []
 | d :: r,ms,_,_,h=>bCt fun d'=>aNN r ms.tail fun ds=>h (d' :: ds)
theorem DS.encs_app (a b:List DS):DS.encs (a++b)=DS.encs a++DS.encs b:=by simp[DS.encs_map]
theorem aNl:∀ (ds:List DS) (ms:List Nat),aL3 ms (DS.encs ds)=DS.encs (aRq ms ds)
 | [],ms=>rfl
 | d :: r,ms=>by
  simp only[DS.encs,aL3,aRq,DS.refs_enc,aNl r,DS.cells_enc]
  split
  ·rfl
  ·rw[DS.encs_app]
theorem aYS (a b:aBq):aE2 (a++b)=aE2 a++aE2 b:=by simp[aE2]
theorem aNi:∀ (n:Nat) (ks:List Nat) (seen:aBq) {kk:aBq->MS R} {k':aAR->M α},(∀ h,Ok F Q (kk h) (k' (aE2 h)))->Ok F Q (aRT n ks seen kk) (gath n ks (aE2 seen) k')
 | 0,_,_,_,_,_=>aAr
 | n+1,[],seen,_,_,h=>h seen
 | n+1,key :: ts,seen,kk,k',h=>by
  simp only[aRT,Am.gath,aHa]
  cases hl:lk seen key with
  | some o=>simp only[Option.isSome_some,Option.map_some,if_true];exact aNi n ts seen h
  | none=>
   simp only[Option.isSome_none,Option.map_none,Bool.false_eq_true,if_false]
   refine aFs fun o=>?_
   rw[ObS.refs_enc]
   have:=aNi n (o.refs++ts) (seen++[(key,o)]) h
   rwa [aYS]at this
theorem aNo {m:MS R}{m':M α}(h:Ok F Q m m'):∀ l:aBq,Ok F Q (aOA l m) (kills (aE2 l) m')
 | []=>h
 | (key,o) :: r=>by
  simp only[aOA,aE2,List.map_cons,Am.kills,ObS.mut_enc]
  cases o.mut with
  | true=>exact aHB rfl (aNo h r)
  | false=>exact aNo h r
theorem aPn {key:Nat}{m:MS R}{m':M α}(h:Ok F Q m m'):∀ (cs ds:List DS) (off:Nat),Ok F Q (aR7 key off cs ds m) (cput key off (DS.encs cs) (DS.encs ds) m')
 | [],ds,off=>by cases ds <;> exact h
 | c :: cs,[],off=>h
 | c :: cs,d :: ds,off=>by
  simp only[aR7,DS.encs,Am.cput,DS.same_enc]
  cases c.same d with
  | true=>exact aPn h cs ds _
  | false=>exact aUa (aPn h cs ds _)
theorem bJF {old:Nat}{o:ObS}{o':Ob}(ho:o.enc=o'){m:MS R}{m':M α}(h:Ok F Q m m')(cur:ObS):Ok F Q (bPh old o m cur) (wrK old o' m' cur.enc):=by
 subst ho
 cases cur <;> cases o <;> try exact aHB rfl h
 rename_i cs ds
 simp only[bPh,Am.wrK,ObS.enc]
 have e:(DS.encs cs).length=cs.length:=by rw[DS.encs_map,List.length_map]
 have e':(DS.encs ds).length=ds.length:=by rw[DS.encs_map,List.length_map]
 rw[e,e']
 cases cs.length == ds.length with
 | true=>exact aPn h cs ds 0
 | false=>exact aHB rfl h
theorem aLx {mm:List (Nat×Nat)}{f:Nat->Nat}{m:MS R}{m':M α}(h:Ok F Q m m'):∀ l:aBq,Ok F Q (aK7 mm f l m) (writes mm f (aE2 l) m')
 | []=>h
 | (key,o) :: r=>by
  simp only[aK7,aE2,List.map_cons,Am.writes]
  cases lkN mm key with
  | some old=>exact aFs fun cur=>bJF (ObS.ren_enc f o).symm (aLx h r) cur
  | none=>exact aHU (ObS.ren_enc f o).symm (aLx h r)
theorem aRD (ds:List DS):aId (DS.encs ds)=(aTz ds).enc:=by
 match ds with
 | []=>rfl
 | [d]=>rfl
 | d :: e :: r=>rfl
theorem aP5 {kp:Bool}{mm:List (Nat×Nat)}{sub:aBq}{m:MS R}{m':M α}(h:Ok F Q m m'):∀ l:aBq,Ok F Q (aRG kp mm sub l m) (aXx kp mm (aE2 sub) (aE2 l) m')
 | []=>h
 | x :: r=>by
  have e:=aQu kp mm sub x
  show Ok F Q (aRG kp mm sub (x :: r) m) (aXx kp mm (aE2 sub) ((x.1,x.2.enc) :: aE2 r) m')
  unfold aRG aXx
  rw[e]
  cases aRv kp mm sub x with
  | none=>exact aP5 h r
  | some o=>exact aFa (fun hb=>by rw[aRu];exact hb) (aP5 h r)
theorem aXU {kp:Bool}{nm:Nat}{bs:List DS}{refs:List Nat}{sub:aBq}{kk:DS->MS R}{k':D->M α}(h:∀ d,Ok F Q (kk d) (k' d.enc))(roots:List Nat)(res:List DS)(h':aBq) :
  Ok F Q (aS1 kp nm bs refs sub kk roots res h') (backO kp nm (DS.encs bs) refs (aE2 sub) k' roots (DS.encs res) (aE2 h')):=by
 unfold aS1 Am.backO
 rw[aXM,aYE]
 refine aFa (fun hb=>?_) (aP5 (aNo (aLx ?_ _) _) _)
 ·simp only[Bool.and_eq_true,beq_iff_eq,Bool.or_eq_true]at hb
  refine⟨hb.1,?_⟩
  rw[Bool.or_eq_true]
  rcases hb.2 with h1 | h1
  ·left;rw[DS.encs_map];cases bs <;> first | rfl | cases h1
  ·right
   rw[Bool.and_eq_true]
   refine⟨DS.flatL_enc res h1.1,?_⟩
   have h2:=h1.2
   simp only[List.all_eq_true]at h2
   simp only[aE2,List.all_map,List.all_eq_true,Function.comp]
   intro x hx
   exact ObS.flat_enc (h2 x hx)
 ·unfold bS9
  rw[DS.renL_enc,aRD]
  exact h _
theorem aM5 {kp:Bool}{FS:CfS R}(hF:FOK FS F){nm v:Nat}{bs:List DS}{kk:DS->MS R}{k':D->M α}(h:∀ d,Ok F Q (kk d) (k' d.enc))(ds:List DS) :
  Ok F Q (aOf kp FS nm v bs kk ds) (callO kp nm v (DS.encs bs) k' (DS.encs ds)):=by
 have hd:∀ sub:aBq,DS.encs ds++aFi (DS.encs ds) (aE2 sub)=DS.encs (ds++aL1 ds sub):=fun sub=>by rw[aKG,DS.encs_app]
 unfold aOf Am.callO
 simp only[DS.refsL_enc]
 refine aNi 1000 _ [] fun sub=>aNi 1000 _ [] fun bsub=>?_
 rw[hd sub]
 simp only[DS.refsL_enc]
 refine aFa (fun hb=>?_) ?_
 ·have h2:=hb
  simp only[List.all_eq_true]at h2
  simp only[aE2,List.all_map,List.all_eq_true,Function.comp]
  intro x hx
  have:=h2 x hx
  have e:=aHa bsub x.1
  rw[aE2]at e
  rw[e]
  cases hl:lk bsub x.1 with
  | none=>rfl
  | some o=>rw[hl]at this;cases this
 ·refine aHm fun c hc=>⟨(DS.encs c.1,aE2 c.2),aLu (ds':=c.1) (h':=c.2) hc,?_⟩
  have e0:(DS.encs ds).length=ds.length:=by rw[DS.encs_map,List.length_map]
  have e1:(DS.encs c.1).take (DS.encs ds).length=DS.encs (c.1.take ds.length):=by rw[e0,DS.encs_map,DS.encs_map,List.map_take]
  have e2:(DS.encs c.1).drop (DS.encs ds).length=DS.encs (c.1.drop ds.length):=by rw[e0,DS.encs_map,DS.encs_map,List.map_drop]
  show Ok F Q _ (grd (aLW (aFi ((DS.encs c.1).take (DS.encs ds).length) (aE2 c.2)) ((DS.encs c.1).drop (DS.encs ds).length)=true) (.call v ((DS.encs c.1).take (DS.encs ds).length) (aE2 c.2) _))
  rw[e1,e2,aKG]
  exact aFa (fun hb=>aSw hb) (bCs hF fun roots res h'=>aXU h roots res h')
theorem aQK:∀ {ds:List DS} {vs:List S},aPG ds=some vs->DS.encs ds=(vs.map S.enc).map .p
 | [],vs,h=>by injection h with h;subst h;rfl
 | .p u :: r,vs,h=>by
  simp only[aPG,Option.map_eq_some_iff]at h
  obtain⟨a,h,rfl⟩:=h
  simp only[DS.encs,DS.enc,aQK h,List.map_cons]
 | .own _ :: _,_,h | .arr _ _ _ _ :: _,_,h | .ptr _ _ :: _,_,h | .ep _ _ _ :: _,_,h | .mp _ :: _,_,h | .fn _ _ :: _,_,h | .ifc _ _ _ :: _,_,h | .agg _ :: _,_,h | .tup _ :: _,_,h | .und :: _,_,h=>by cases h
theorem aOk:∀ (vs:List V),aZk (vs.map .p)=some vs
 | []=>rfl
 | v :: r=>by simp only[List.map_cons,aZk,aOk r,Option.map_some]
theorem aN0:∀ {ds:List DS},aPG ds=none->aZk (DS.encs ds)=none
 | [],h=>by cases h
 | .p u :: r,h=>by
  simp only[aPG,Option.map_eq_none_iff]at h
  simp only[DS.encs,DS.enc,aZk,aN0 h,Option.map_none]
 | .own _ :: _,_ | .arr _ _ _ _ :: _,_ | .ptr _ _ :: _,_ | .ep _ _ _ :: _,_ | .mp _ :: _,_ | .fn _ _ :: _,_ | .ifc _ _ _ :: _,_ | .agg _ :: _,_ | .tup _ :: _,_ | .und :: _,_=>rfl
theorem aPb:∀ (ps:List (Nat×Nat×DS)) (cs:List S) {kk:List S->MS R} {k':List V->M α},(∀ vs:List S,Ok F Q (kk vs) (k' (vs.map S.enc)))->Ok F Q (aMY ps cs kk) (partsV (bGv ps) (cs.map S.enc) k')
 | [],cs,_,_,h=>h cs
 | (off,size,d) :: r,cs,kk,k',h=>by
  simp only[aMY,bGv,List.map_cons,Am.partsV,DS.cells_enc]
  refine aIa 300 d.cells fun vs=>aFa (fun hb=>?_) ?_
  ·  simp only[Bool.and_eq_true,beq_iff_eq,decide_eq_true_eq]at hb
     simpa using hb
  ·  rw[<- aOn];exact aPb r _ h
theorem aVX {kd:IntKind}{mx:Bool}:∀ {ds:List DS} {a n:Int},bL7 kd mx a ds=some n->mmI kd mx a (DS.encs ds)=some n
 | [],a,n,h=>h
 | .p (.i kd' b) :: r,a,n,h=>by
  simp only[bL7]at h
  cases hk:decide (kd=kd')with
  | false=>rw[hk]at h;cases h
  | true=>
   rw[hk]at h
   have:=aVX (ds:=r) h
   simp only[DS.encs,DS.enc,S.enc,mmI,if_pos (of_decide_eq_true hk)]
   cases mx <;> exact this
 | .p (.b _) :: _,_,_,h | .p (.s _) :: _,_,_,h | .p (.l _) :: _,_,_,h | .p (.cp _) :: _,_,_,h | .p (.fn _ _) :: _,_,_,h | .p (.nl _) :: _,_,_,h | .p (.ifc _ _ _) :: _,_,_,h=>by cases h
 | .own _ :: _,_,_,h | .arr _ _ _ _ :: _,_,_,h | .ptr _ _ :: _,_,_,h | .ep _ _ _ :: _,_,_,h | .mp _ :: _,_,_,h | .fn _ _ :: _,_,_,h | .ifc _ _ _ :: _,_,_,h | .agg _ :: _,_,_,h | .tup _ :: _,_,_,h | .und :: _,_,_,h=>by cases h
theorem aYG {kk:Bool->MS R}{k':Bool->M α}(h:∀ b,Ok F Q (kk b) (k' b))(kind:Nat)(d:DS):Ok F Q (aVQ kk kind d) (aJz k' kind d.enc):=by
 unfold aVQ;split <;> first | exact h _ | exact aAr | skip
 simp only[aJz]
 refine aI5 (fun e=>aFa (fun hb=>?_) (h false)) d
 simp only[Bool.not_eq_true',beq_eq_false_iff_ne]at hb
 cases hx:e.xs with
 | nil=>rw[<- EL.xs_len,hx]at hb;exact absurd rfl hb
 | cons _ _=>rfl
theorem bNc {kk:DS->MS R}{k':D->M α}(h:∀ d,Ok F Q (kk d) (k' d.enc))(op:UnOp)(d:DS):Ok F Q (bNZ kk op d) (unO k' op d.enc):=by
 unfold bNZ;split
 ·exact h (.p (.i _ _))
 ·exact h (.p (.b _))
 ·exact h (.p (.i _ _))
 ·exact aAr
theorem aVF {off:Nat}{kk:DS->MS R}{k':D->M α}(h:∀ d,Ok F Q (kk d) (k' d.enc))(d:DS):Ok F Q (aRb off kk d) (aOv off k' d.enc):=by
 unfold aRb;split
 ·exact h (.ptr _ _)
 ·exact h (.ep _ _ _)
 ·rename_i cells
  have:=h (.p (.cp (cells.drop off)))
  simp only[DS.enc,S.enc,S.encs_map,aOv,List.map_drop]at this ⊢
  exact this
 ·exact aAr
theorem aVI {xs:List DS}{off:Nat}{kk:DS->MS R}{k':D->M α}(h:∀ d,Ok F Q (kk d) (k' d.enc)):∀ n:Option Nat,Ok F Q (aSy xs off kk n) (aXG (DS.encs xs) off k' n)
 | none=>aHm fun a ha=>⟨a.enc,by simp[DS.encs_map,ha],h a⟩
 | some n=>aFa (fun hb=>by rw[DS.encs_map,List.length_map];exact of_decide_eq_true hb) (by
  have:=h (.agg ((xs.drop off).take n))
  simpa only[DS.enc,DS.encs_map,List.map_drop,List.map_take]using this)
theorem bJm {n:Int}{kk:DS->MS R}{k':D->M α}(h:∀ d,Ok F Q (kk d) (k' d.enc))(d:DS):Ok F Q (bND n kk d) (xsO n k' d.enc):=by
 unfold bND;split
 ·refine aGb fun c hc=>?_
  unfold aJd at hc
  split at hc
  ·rename_i h0
   injection hc with hc
   simp only[DS.enc,S.enc,Am.xsO,dif_pos h0,hc]
   exact h (.p (.i .u8 c))
  ·cases hc
 ·exact aAr
theorem bPg {kk:DS->MS R}{k':D->M α}(h:∀ d,Ok F Q (kk d) (k' d.enc))(d:DS):Ok F Q (bOC kk d) (ncO k' d.enc):=by
 unfold bOC;split
 ·exact h (.p (.cp _))
 ·exact h (.p (.fn _ _))
 ·exact h (.ptr _ _)
 ·exact h (.ep _ _ _)
 ·exact h (.fn _ _)
 ·exact aAr
theorem bHr {i:Nat}{kk:DS->MS R}{k':D->M α}(h:∀ d,Ok F Q (kk d) (k' d.enc))(d:DS):Ok F Q (bPH i kk d) (exT i k' d.enc):=by
 unfold bPH;split
 ·exact aHm fun a ha=>⟨a.enc,by simp[DS.encs_map,ha],h a⟩
 ·exact aAr
theorem aQO {v:Nat}{f:Nat->MS R}{m':M α}(h:Ok F Q (f v) m'):∀ cs:List Nat,Ok F Q (bDO v f cs) m'
 | []=>aAr
 | c :: r=>aOT (fun e=>by rw[<- of_decide_eq_true e];exact h) (fun _=>aQO h r)
theorem aQs {v:Nat}{f:Nat->MS R}{m':M α}(h:Ok F Q (f v) m'):∀ cs:List Nat,Ok F Q (bBK v f cs) m'
 | []=>h
 | c :: r=>aQO h (c :: r)
theorem bP1 {FS:CfS R}(hF:FOK FS F){nm:Nat}{cs:List Nat}{bs ds:List DS}{kk:DS->MS R}{k':D->M α}(h:∀ d,Ok F Q (kk d) (k' d.enc))(d:DS):Ok F Q (bOI FS nm cs bs ds kk d) (cxO nm (DS.encs bs) (DS.encs ds) k' d.enc):=by
 unfold bOI;split
 ·rename_i v caps
  have:=aM5 (kp:=false) (Q:=Q) hF (nm:=nm) (v:=v) (bs:=bs) h (ds++caps.map .p)
  rw[DS.encs_app,DS.encs_p]at this
  refine aQs ?_ cs
  simpa only[DS.enc,S.enc,S.encs_map,cxO]using this
 ·rename_i v caps
  have:=aM5 (kp:=false) (Q:=Q) hF (nm:=nm) (v:=v) (bs:=bs) h (ds++caps)
  rw[DS.encs_app]at this
  refine aQs ?_ cs
  simpa only[DS.enc,cxO]using this
 ·exact aAr
theorem bOq {v:Nat}{kk:DS->MS R}{k':D->M α}(h:∀ d,Ok F Q (kk d) (k' d.enc))(ds:List DS):Ok F Q (bPq v kk ds) (mfO v k' (DS.encs ds)):=by
 unfold bPq Am.mfO
 cases hp:aPG ds with
 | some vs=>
  have:=h (.p (.fn v vs))
  simp only[aQK hp,aOk]
  simpa only[DS.enc,S.enc,S.encs_map]using this
 | none=>simp only[aN0 hp];exact h (.fn v ds)
theorem bMU {mx:Bool}{kk:DS->MS R}{k':D->M α}(h:∀ d,Ok F Q (kk d) (k' d.enc))(ds:List DS):Ok F Q (bO7 mx kk ds) (mmO mx k' (DS.encs ds)):=by
 unfold bO7;split
 ·exact aHm fun n hn=>⟨n,aVX hn,h (.p (.i _ n))⟩
 ·exact aAr
theorem bO4 {nm:Nat}{kk:DS->MS R}{k':D->M α}(h:∀ d,Ok F Q (kk d) (k' d.enc))(d:DS):Ok F Q (bR5 nm kk d) (bxO nm k' d.enc):=by
 refine aFa (fun hb=>?_) (aHU (by rw[DS.cells_enc];rfl) (h (.ptr nm 0)))
 rw[DS.cells_enc,DS.encs_map,List.all_map]
 simp only[List.all_eq_true,Function.comp]at hb ⊢
 intro x hx;rw[DS.one_enc];exact hb x hx
theorem aW8 {x:Od}{s:StS}{d:DS}(hp:aSj s x=some d)(k':D->M α)(l:List Acc):(vl x k').runA F s.enc l=(k' d.enc).runA F s.enc l:=by
 cases x with
 | t n=>simp only[aSj]at hp;simp only[vl,M.runA,StS.enc,aK5,hp,Option.map_some,Option.bind_some]
 | c v=>
  simp only[aSj,Option.map_eq_some_iff]at hp
  obtain⟨u,h,rfl⟩:=hp
  simp only[vl,DS.enc,V.toS_enc h]
 | f v=>cases hp
 | z sz key=>cases hp
theorem bNt {t:Bool}{a b:Od}{kk:DS->MS R}{k':D->M α}(h:∀ d,Ok F Q (kk d) (k' d.enc)):Ok F Q (bON t a b kk) (aNR t (vl a k') (vl b k')):=by
 intro s l k r hr
 unfold bON at hr
 split at hr
 ·rename_i k1 x k2 y h1 h2
  cases hk:decide (k2=k1)with
  | false=>rw[hk]at hr;cases hr
  | true=>
   rw[hk]at hr
   have:=of_decide_eq_true hk;subst this
   obtain⟨w,s1,l1,q1,q2⟩:=h _ s l k r hr
   refine⟨w,s1,l1,?_,q2⟩
   cases t <;> simp only[aNR,if_true,Bool.false_eq_true,if_false] <;> rw[aW8 (by assumption)] <;> exact q1
 ·rename_i x y h1 h2
  obtain⟨w,s1,l1,q1,q2⟩:=h _ s l k r hr
  refine⟨w,s1,l1,?_,q2⟩
  cases t <;> simp only[aNR,if_true,Bool.false_eq_true,if_false] <;> rw[aW8 (by assumption)] <;> exact q1
 ·cases t with
  | true=>exact aCw h a s l k r hr
  | false=>exact aCw h b s l k r hr
abbrev bA6 (ks vs:Sh)(xs:List (ks.den×Nat×vs.den)):List (V×Nat×V):=xs.map fun x=>(ks.enc x.1,x.2.1,vs.enc x.2.2)
theorem aOc {kk:Nat->(ks vs:Sh)->Nat->List (ks.den×Nat×vs.den)->MS R}{k':Nat->Nat->List (V×Nat×V)->M α}(h:∀ key ks vs c xs,Ok F Q (kk key ks vs c xs) (k' key c (bA6 ks vs xs)))(d:DS):Ok F Q (aR0 kk d) (mpO k' d.enc):=by
 unfold aR0;split
 ·exact aFs (bBa fun ks vs c xs=>h _ ks vs c xs)
 ·exact aAr
theorem bDc {ks:Sh}{kind:Nat}(hk:(ks.kd == kind)=true)(hne:kind<=2)(a b:ks.den):eqV kind (ks.enc a) (ks.enc b)=some (ks.eqD a b):=by
 have:=eq_of_beq hk
 subst this
 cases ks with
 | i k=>
  have:∀ x y:Int,eqV 0 (.i k x) (.i k y)=some (eqI x y):=fun x y=>by simp only[eqV,if_true];rfl
  exact this a b
 | b=>rfl
 | s=>rfl
 | sl es=>simp[Sh.kd]at hne
theorem aJa {ks vs:Sh}{kind:Nat}(hk:(ks.kd == kind)=true)(h2:kind<=2)(a:ks.den):∀ (xs:List (ks.den×Nat×vs.den)),mix kind (ks.enc a) (bA6 ks vs xs)=some (aLY ks a xs)
 | []=>rfl
 | e :: r=>by
  have ih:=aJa (vs:=vs) hk h2 a r
  unfold bA6 at ih ⊢
  rw[List.map_cons,mix,aLY,ih,bDc hk h2,Option.bind_some]
  cases ks.eqD a e.1 <;> rfl
theorem aPR (ks:Sh){β:Type}(a:ks.den):∀ (xs:List (ks.den×Nat×β)) (i:Nat),aLY ks a xs=some i->i<xs.length
 | [],i,h=>by cases h
 | e :: r,i,h=>by
  unfold aLY at h
  cases hb:ks.eqD a e.1 with
  | true=>rw[hb]at h;injection h with h;subst h;simp
  | false=>
   rw[hb,cond_false]at h
   obtain⟨j,h1,rfl⟩:=Option.map_eq_some_iff.1 h
   have:=aPR ks a r j h1
   simpa using this
theorem aHQ {β γ:Type}(f:β->γ)(g:β->β)(g':γ->γ)(hg:∀ x,f (g x)=g' (f x)):∀ (l:List β) (i:Nat),(l.modify i g).map f=(l.map f).modify i g'
 | [],i=>by simp
 | x :: l,0=>by simp[hg]
 | x :: l,i+1=>by simp[aHQ f g g' hg l i]
theorem aJB {β γ:Type}(f:β->γ):∀ (l:List β) (i:Nat),(l.eraseIdx i).map f=(l.map f).eraseIdx i
 | [],i=>by simp
 | x :: l,0=>by simp
 | x :: l,i+1=>by simp[aJB f l i]
theorem bVA {ks:Sh}{kind:Nat}(hk:(ks.kd == kind)=true)(hk2:ks.kd≠3):kind<=2:=by
 have:=eq_of_beq hk
 subst this
 cases ks <;> simp_all[Sh.kd]
theorem aI9 {β γ:Type}{o:Option β}{b:β}{k:β->M γ}(h:o=some b):oret o k=k b:=by rw[h];rfl
theorem bNB {kind:Nat}{zero:V}{ok:Bool}{kk:DS->MS R}{k':D->M α}(h:∀ d,Ok F Q (kk d) (k' d.enc))(u:S)(d:DS) :
  Ok F Q (aR0 (fun _ ks vs _ xs=>gdS (ks.kd == kind&&decide (kind<=2)) (ooS (ks.prj u) fun a=>ooS zero.toS fun zs=>ooS (vs.prj zs) fun z=>kk (bGG ok (vs.inj (aFh ks a xs z)) (aRy ks a xs)))) d)
   (mpO (fun _ _ es=>oret (mix kind u.enc es) fun j=>k' (mqR ok zero (bAs es j))) d.enc):=
 aOc (fun key ks vs c xs=>aHp fun hk=>aGb fun a ha=>aGb fun zs hz=>aGb fun z hz2=>by
  rw[Bool.and_eq_true,decide_eq_true_iff]at hk
  rw[aGO ha,aI9 (aJa hk.1 hk.2 a xs)]
  have e0:vs.enc z=zero:=by rw[<- aGO hz2,V.toS_enc hz]
  have:=h (bGG ok (vs.inj (aFh ks a xs z)) (aRy ks a xs))
  have e1:(bGG ok (vs.inj (aFh ks a xs z)) (aRy ks a xs)).enc=mqR ok zero (bAs (bA6 ks vs xs) (aLY ks a xs)):=by
   cases hm:aLY ks a xs with
   | none=>cases ok <;> simp[bGG,mqR,aFh,aRy,hm,DS.enc,DS.encs,S.enc,aLz,bAs,e0]
   | some i=>
     have hi:=aPR ks a xs i hm
     cases ok <;> simp[bGG,mqR,aFh,aRy,hm,DS.enc,DS.encs,S.enc,aLz,bAs,List.getElem?_eq_getElem hi]
  rwa [e1]at this) d
theorem bP2 {kind:Nat}{kk:DS->MS R}{k':D->M α}(h:∀ d,Ok F Q (kk d) (k' d.enc))(u y:S)(d:DS) :
  Ok F Q (aR0 (fun key ks vs c xs=>gdS (ks.kd == kind&&decide (kind<=2)) (ooS (ks.prj u) fun a=>ooS (vs.prj y) fun b=>aNz key (.mp ks vs (aGp ks a c xs) (aOS ks a b c xs)) (kk .und))) d)
   (mpO (fun key c es=>oret (mix kind u.enc es) fun j=>.set key (.mp (bAq u.enc y.enc c es j).1 (bAq u.enc y.enc c es j).2) (k' .und)) d.enc):=
 aOc (fun key ks vs c xs=>aHp fun hk=>aGb fun a ha=>aGb fun b hb=>by
  rw[Bool.and_eq_true,decide_eq_true_iff]at hk
  rw[aGO ha,aGO hb,aI9 (aJa hk.1 hk.2 a xs)]
  refine aHB ?_ (h .und)
  cases hm:aLY ks a xs with
  | none=>simp[ObS.enc,aGp,aOS,hm,bAq]
  | some i=>
   simp only[ObS.enc,aGp,aOS,hm,bAq]
   rw[aHQ (fun x:ks.den×Nat×vs.den=>(ks.enc x.1,x.2.1,vs.enc x.2.2)) (fun e=>(a,e.2.1,b)) (fun e=>(ks.enc a,e.2.1,vs.enc b)) (fun _=>rfl)]) d
theorem bOe {kind:Nat}{zero:V}{kk:DS->MS R}{k':D->M α}(h:∀ d,Ok F Q (kk d) (k' d.enc))(u:S)(d:DS) :
  Ok F Q (aR0 (fun key ks vs c xs=>gdS (ks.kd == kind&&decide (kind<=2)) (ooS (ks.prj u) fun a=>ooS zero.toS fun zs=>ooS (vs.prj zs) fun z=>aNz key (.mp ks vs (aGp ks a c xs) (aYc ks a z c xs)) (kk (.tup [.p (vs.inj (aFh ks a xs z)),.p (.i .i64 (aRK ks a c xs:Nat))])))) d)
   (mpO (fun key c es=>oret (mix kind u.enc es) fun j=>.set key (.mp (aLS u.enc zero c es j).1 (aLS u.enc zero c es j).2.1) (k' (.tup [.p (aLS u.enc zero c es j).2.2.1,.p (.i .i64 (aLS u.enc zero c es j).2.2.2)]))) d.enc):=
 aOc (fun key ks vs c xs=>aHp fun hk=>aGb fun a ha=>aGb fun zs hz=>aGb fun z hz2=>by
  rw[Bool.and_eq_true,decide_eq_true_iff]at hk
  rw[aGO ha,aI9 (aJa hk.1 hk.2 a xs)]
  have e0:vs.enc z=zero:=by rw[<- aGO hz2,V.toS_enc hz]
  have:=h (.tup [.p (vs.inj (aFh ks a xs z)),.p (.i .i64 (aRK ks a c xs:Nat))])
  have e1:(DS.tup [.p (vs.inj (aFh ks a xs z)),.p (.i .i64 (aRK ks a c xs:Nat))]).enc=.tup [.p (aLS (ks.enc a) zero c (bA6 ks vs xs) (aLY ks a xs)).2.2.1,.p (.i .i64 (aLS (ks.enc a) zero c (bA6 ks vs xs) (aLY ks a xs)).2.2.2)]:=by
   cases hm:aLY ks a xs with
   | none=>simp[aFh,aRK,hm,DS.enc,DS.encs,S.enc,aLz,aLS,e0]
   | some i=>
     have hi:=aPR ks a xs i hm
     simp[aFh,aRK,hm,DS.enc,DS.encs,S.enc,aLz,aLS,List.getElem?_eq_getElem hi]
  rw[e1]at this
  refine aHB ?_ this
  cases hm:aLY ks a xs with
  | none=>simp[ObS.enc,aGp,aYc,hm,aLS,e0]
  | some i=>
   simp only[ObS.enc,aGp,aYc,hm,aLS]
   rw[aHQ (fun x:ks.den×Nat×vs.den=>(ks.enc x.1,x.2.1,vs.enc x.2.2)) (fun e=>(a,e.2.1,e.2.2)) (fun e=>(ks.enc a,e.2.1,e.2.2)) (fun _=>rfl)]) d
theorem aKH {ks vs:Sh}{n:Int}:∀ xs:List (ks.den×Nat×vs.den),(bA6 ks vs xs).findIdx? (fun e=>(e.2.1:Int) == n)=xs.findIdx? (fun e=>(e.2.1:Int) == n)
 | []=>rfl
 | e :: r=>by
  have:=aKH (n:=n) r
  unfold bA6 at this ⊢
  rw[List.map_cons,List.findIdx?_cons,List.findIdx?_cons,this]
theorem bNU {n:Int}{kk:DS->MS R}{k':D->M α}(h:∀ d,Ok F Q (kk d) (k' d.enc))(y:S)(d:DS) :
  Ok F Q (aR0 (fun key ks vs c xs=>ooS (vs.prj y) fun b=>gdS (bMe n xs) (aNz key (.mp ks vs c (bOn n b xs)) (kk .und))) d)
   (mpO (fun key c es=>oret (es.findIdx? fun e=>(e.2.1:Int) == n) fun j=>.set key (.mp c (es.modify j fun e=>(e.1,e.2.1,y.enc))) (k' .und)) d.enc):=
 aOc (fun key ks vs c xs=>aGb fun b hb=>aHp fun hs=>by
  rw[aKH,aGO hb]
  cases hm:xs.findIdx? fun e=>(e.2.1:Int) == n with
  | none=>simp[bMe,hm]at hs
  | some j=>
   refine aHB ?_ (h .und)
   simp only[ObS.enc,bOn,hm]
   rw[aHQ (fun x:ks.den×Nat×vs.den=>(ks.enc x.1,x.2.1,vs.enc x.2.2)) (fun e=>(e.1,e.2.1,b)) (fun e=>(e.1,e.2.1,vs.enc b)) (fun _=>rfl)]) d
theorem bOD {kind:Nat}{kk:DS->MS R}{k':D->M α}(h:∀ d,Ok F Q (kk d) (k' d.enc))(u:S)(d:DS) :
  Ok F Q (aR0 (fun key ks vs c xs=>gdS (ks.kd == kind&&decide (kind<=2)) (ooS (ks.prj u) fun a=>aNz key (.mp ks vs c (aYy ks a xs)) (kk (.tup [])))) d)
   (mpO (fun key c es=>oret (mix kind u.enc es) fun j=>.set key (.mp c (bHN es j)) (k' (.tup []))) d.enc):=
 aOc (fun key ks vs c xs=>aHp fun hk=>aGb fun a ha=>by
  rw[Bool.and_eq_true,decide_eq_true_iff]at hk
  rw[aGO ha,aI9 (aJa hk.1 hk.2 a xs)]
  refine aHB ?_ (h (.tup []))
  cases hm:aLY ks a xs with
  | none=>simp[ObS.enc,aYy,hm,bHN]
  | some i=>simp only[ObS.enc,aYy,hm,bHN];rw[aJB]) d
theorem aMD:∀ xs:List Int,aP7 xs=true->aKX (xs.map fun n=>[V.i .u8 n])=some (xs.map fun n=>UInt8.ofNat n.toNat)
 | [],_=>rfl
 | n :: r,h=>by
  simp only[aP7,List.all_cons,Bool.and_eq_true,decide_eq_true_eq]at h
  simp only[List.map_cons,aKX,if_pos h.1]
  rw[aMD r h.2];rfl
theorem bB4 {kk:ByteArray->MS R}{k':ByteArray->M α}(h:∀ s,Ok F Q (kk s) (k' s))(e:EL):Ok F Q (bKQ kk e) (oret (aKX e.xs) fun l=>k' ⟨l.toArray⟩):=by
 cases e with
 | t es xs=>
  refine aGb fun ys hy=>aHp fun hb=>?_
  have:=(EL.as_enc hy).2
  rw[this]
  have e1:List.map (aKa [.i .u8]) ys=ys.map fun n=>[V.i .u8 n]:=rfl
  rw[e1,aMD ys hb]
  exact h (bLc ys)
 | e sz=>exact h (bLc [])
theorem bIV {kk:ByteArray->MS R}{k':ByteArray->M α}(h:∀ s,Ok F Q (kk s) (k' s))(d:DS):Ok F Q (bPL kk d) (asS k' d.enc):=by
 unfold bPL;split
 ·exact h _
 ·exact aAr
theorem bJL {FS:CfS R}(hF:FOK FS F){H:Nat->Option (List Sh)}{nm:Nat}{kk:DS->MS R}{k':D->M α}(h:∀ d,Ok F Q (kk d) (k' d.enc)):∀ o:O,Ok F Q (bLs FS H nm kk o) (evO nm k' o)
 | .mv x=>aCw h x
 | .pk c a b=>aCw (aUo fun t=>bNt h) c
 | .bi op x y=>aCw (aMt fun u=>aCw (aMt fun w=>bIh (fun r=>h (.p r)) u w) y) x
 | .bb ne x y=>aCw (aUo fun u=>aCw (aUo fun w=>by
  have:=h (.p (.b (bif ne then u != w else u == w)))
  cases ne <;> exact this) y) x
 | .bn ne kind x=>aCw (aYG (fun t=>h (.p (.b (ne != t)))) kind) x
 | .ba ne ks x y=>aCw (aQW fun u=>aCw (aQW fun w=>aHm fun t ht=>⟨t,bEi _ _ _ _ ht,h (.p (.b (ne != t)))⟩) y) x
 | .un op x=>aCw (bNc h op) x
 | .ld n a=>aCw (bJS h) a
 | .st n a v=>aCw (fun d=>aCw (fun x=>aHm fun xs hx=>⟨DS.encs xs,bEl hx,bHP (h .und) d⟩) v) a
 | .fa off x=>aCw (aVF h) x
 | .fd off n x=>aCw (aQW fun xs=>aVI h n) x
 | .ix sz x i=>aCw (fun d=>aCw (aJe fun _ n=>bHf h d) i) x
 | .xa len sz x i=>aCw (fun d=>aCw (aJe fun _ n=>aQh len fun j=>aVF h d) i) x
 | .xv len sz n x i=>aCw (aQW fun xs=>aCw (aJe fun _ m=>aQh len fun j=>aVI h n) i) x
 | .xs x i=>aCw (fun d=>aCw (aJe fun _ n=>bJm h d) i) x
 | .ln kind x=>aCw (bKH (fun n=>h (.p (.i .i64 n))) kind) x
 | .ap sz bytes x y=>aCw (fun d=>aCw (aI5 fun ys=>aHp fun hs=>by
  have hs:=eq_of_beq hs
  exact aKW hs (bAK hs h d)) y) x
 | .apa sz bytes x y=>aCw (fun d=>aCw (aI5 fun ys=>aHp fun hs=>by
  have hs:=eq_of_beq hs
  exact aKW hs (bAK hs (aVW h) d)) y) x
 | .bl zero parts=>aKY parts fun ps=>aHm fun cs hc=>⟨aRi cs,by
  have:=aKe _ _ _ hc
  rwa [show aRi (zero.map fun _=>none)=zero.map fun _=>none by simp[aRi,Function.comp_def]]at this,aKt zero nm cs fun ds=>h (.agg ds)⟩
 | .bs sz len zero parts=>aKY parts fun ps=>aGb fun zs hz=>by
  have:=V.toSs_enc hz
  rw[S.encs_map]at this
  simp only[<- this]
  refine aPb ps zs fun vs=>aGb fun e he=>aHU ?_ (h (.own nm))
  have:=bHH he
  rw[aL8]
  simp only[ObS.enc,this.1,this.2]
 | .bx x=>aCw (bO4 h) x
 | .al zero=>aMV zero (nm+1) fun ds=>aHU rfl (h (.ptr nm 0))
 | .ms sz bytes zero x y=>aCw (aJe fun _ n=>aCw (aJe fun _ c=>aHp fun h1=>aHp fun h2=>aGb fun zs hz=>aGb fun e he=>by
  have h1:=of_decide_eq_true h1
  have h2:=room_iff.1 h2
  refine aKW ⟨h1.1,h1.2,h2⟩ (aHU ?_ (h (.own nm)))
  have e1:=bDH he
  have e2:=V.toSs_enc hz
  rw[S.encs_map]at e2
  simp only[ObS.enc,e1.1,e1.2,e2]) y) x
 | .sl x sz lo hi mx=>aCw (aVW h) x
 | .sk x sz lo hi mx=>aCw (aVW (aTv h)) x
 | .nc x=>aCw (bPg h) x
 | .ex x i=>aCw (bHr h) x
 | .ca v ms args=>aOL args fun ds=>by
  show Ok F Q (aOV ms ds _) (aJN ms (DS.encs ds) (callO (ms.contains 9) nm v (aL3 ms (DS.encs ds)) k'))
  rw[aNl]
  exact aNN ds ms fun ds'=>aM5 hF h ds'
 | .cx x ms args=>aCw (fun d=>aOL args fun ds=>by
  rw[aNl]
  exact aNN ds ms fun ds'=>bP1 hF h d) x
 | .mf v caps=>aOL caps fun ds=>bOq h ds
 | .ci kd x=>aCw (aJe fun _ n=>h (.p (.i kd (kd.wrap n)))) x
 | .mm mx xs=>aOL xs fun ds=>bMU h ds
 | .s2b x=>aCw (bIV fun s=>by
  have:=h (.p (.l (.t [.i .u8] (aO9 s))))
  have e1:(DS.p (.l (.t [.i .u8] (aO9 s)))).enc=.p (.sl 1 (aIw s)):=by
   show D.p (.sl 1 (List.map (fun n=>[V.i .u8 n]) (aO9 s)))=_
   unfold aO9 aIw;rw[List.map_map];rfl
  rwa [e1]at this) x
 | .b2s x=>aCw (aI5 fun e=>bB4 (fun s=>h (.p (.s s))) e) x
 | .mk=>aGb fun z hz=>aHU rfl (h (.mp nm))
 | .mq kind zero ok x i=>aCw (fun d=>aCw (aMt fun u=>bNB h u d) i) x
 | .mu kind x i v=>aCw (fun d=>aCw (aMt fun u=>aCw (fun dv=>aOG 300 dv fun y=>bP2 h u y d) v) i) x
 | .me kind zero x i=>aCw (fun d=>aCw (aMt fun u=>bOe h u d) i) x
 | .mt x s v=>aCw (fun d=>aCw (aJe fun _ n=>aCw (fun dv=>aOG 300 dv fun y=>bNU h y d) v) s) x
 | .md kind x i=>aCw (fun d=>aCw (aMt fun u=>bOD h u d) i) x
theorem aSz {dst:Option Nat}{m:MS R}{m':M α}(h:Ok F Q m m')(d:DS):Ok F Q (aRO dst m d) (aRf dst m' d.enc):=by
 cases dst with
 | none=>exact h
 | some t=>exact bP5 h
theorem aKz {s:StS}{g:Nat}{x:Bool}(h:lk s.env g=some (.p (.b x))):(⟨aZ1 s.env g x,s.heap⟩:StS)=s:=by
 rw[aTX h]
theorem bAT {FS:CfS R}(hF:FOK FS F){H:Nat->Option (List Sh)}{m:MS R}{m':M α}(h:Ok F Q m m')(o:AO):Ok F Q (bHs FS H o m) (exO o m'):=by
 cases hg:o.g with
 | none=>
  simp only[bHs,exO,hg]
  exact bJL hF (fun d=>aSz h d) o.op
 | some gw=>
  obtain⟨g,want⟩:=gw
  simp only[bHs,exO,hg]
  have h1:Ok F Q (bLs FS H o.nm (aRO o.dst m) o.op) (evO o.nm (aRf o.dst m') o.op):=bJL hF (fun d=>aSz h d) o.op
  have h2:Ok F Q (aRO o.dst m .und) (aRf o.dst m' .und):=aSz h .und
  intro s l k r hr
  unfold rdS at hr
  split at hr
  ·rename_i d hd
   simp only[M.runA,StS.enc,aK5,hd,Option.map_some,Option.bind_some]
   unfold bQW at hr
   split at hr
   ·rename_i x
    simp only[DS.enc,S.enc,guO]
    cases x with
    | true=>
     rw[cond_true,aKz hd]at hr
     cases want with
     | true=>exact h1 s l k r hr
     | false=>exact h2 s l k r hr
    | false=>
     rw[cond_false,aKz hd]at hr
     cases want with
     | true=>exact h2 s l k r hr
     | false=>exact h1 s l k r hr
   ·exact h2 s l k r hr
   ·cases hr
  ·cases hr
theorem aST {FS:CfS R}(hF:FOK FS F){H:Nat->Option (List Sh)}{m:MS R}{m':M α}(h:Ok F Q m m'):∀ l:List AO,Ok F Q (bEQ FS H l m) (bGq l m')
 | []=>h
 | o :: r=>bAT hF (aST hF h r) o
end
section
variable {R:Type} {F:Cf}
theorem aZd:Ok F (fun (_:Unit) s l k r=>k s l=some r) (bOg:MS R) (.ret ()):=fun s l k r hr=>⟨(),s,l,rfl,hr⟩
theorem aOH {FS:CfS R}(hF:FOK FS F){H:Nat->Option (List Sh)}:∀ (ops:List AO) (i:Nat) (done:List (Nat×List Acc)) (s:StS) (k:StS->Option R) (r:R),aQ2 FS H i ops done s k=some r ->
  ∃ s',aJj F i ops done s.enc=some s'.enc∧k s'=some r
 | [],_,_,s,_,_,h=>⟨s,rfl,h⟩
 | o :: ops,i,done,s,k,r,h=>by
  obtain⟨a,s1,l1,h1,h2⟩:=bAT hF (aZd (F:=F)) o _ _ _ _ h
  replace h2:cond (aKI i o l1 done) (aQ2 FS H (i+1) ops ((i,l1) :: done) s1 k) none=some r:=h2
  cases hf:aKI i o l1 done with
  | false=>rw[hf]at h2;cases h2
  | true=>
   rw[hf]at h2
   obtain⟨s',h3,h4⟩:=aOH hF ops _ _ _ _ _ h2
   refine⟨s',?_,h4⟩
   simp only[aJj]
   rw[h1]
   simp only[Option.bind_some]
   rw[if_pos hf]
   exact h3
def LOK (F:Cf)(Lp:Nat->StS->KS R->Option R):Nat->C->Prop
 | p,.seq a b=>LOK F Lp (2*p) a∧LOK F Lp (2*p+1) b
 | p,.cond _ a b=>LOK F Lp (2*p) a∧LOK F Lp (2*p+1) b
 | p,.block _ c=>LOK F Lp (2*p) c
 | p,.loop keep c=>∀ s k r,Lp p s k=some r->∃ e s',aUB F keep c s.enc=some (e,s'.enc)∧k e s'=some r
 | _,_=>True
theorem aFb {FS:CfS R}(hF:FOK FS F){H:Nat->Option (List Sh)}{Lp:Nat->StS->KS R->Option R}{X:Nat->List SP}:∀ (c:C) (p:Nat),LOK F Lp p c->∀ (s:StS) (k:KS R) (r:R),exS FS H Lp X p c s k=some r ->
  ∃ e s',aNT F c s.enc=some (e,s'.enc)∧k e s'=some r
 | .skip,p,_,s,k,r,h=>⟨.nrm,s,aVb _ _,h⟩
 | .reg ops,p,_,s,k,r,h=>by
  obtain⟨a,s1,l1,h1,h2⟩:=aST hF (aZd (F:=F)) ops _ _ _ _ h
  refine⟨.nrm,s1,?_,h2⟩
  rw[aYA,aNy _ _ _ _ _ _ h1];rfl
 | .drw ops,p,_,s,k,r,h=>by
  obtain⟨s',h1,h2⟩:=aOH hF ops 0 [] s _ r h
  refine⟨.nrm,s',?_,h2⟩
  rw[aXR,h1];rfl
 | .seq a b,p,hl,s,k,r,h=>by
  obtain⟨e,s1,h1,h2⟩:=aFb hF a _ hl.1 _ _ _ h
  rw[aX3,h1]
  cases e with
  | nrm=>exact aFb hF b _ hl.2 _ _ _ h2
  | ex id=>exact⟨_,s1,rfl,h2⟩
  | ret=>exact⟨_,s1,rfl,h2⟩
 | .cond x a b,p,hl,s,k,r,h=>by
  simp only[exS]at h
  rw[aXo]
  unfold bIF at h
  split at h
  ·rename_i n
   split at h
   ·rename_i t ht
    simp only[vl,M.run,StS.enc,aK5,ht,Option.map_some,Option.bind_some,DS.enc,S.enc,aXH]
    cases t with
    | true=>rw[cond_true,aKz ht]at h;exact aFb hF a _ hl.1 _ _ _ h
    | false=>rw[cond_false,aKz ht]at h;exact aFb hF b _ hl.2 _ _ _ h
   ·cases h
  ·rename_i t
   simp only[vl,M.run,Option.bind_some,aXH]
   cases t with
   | true=>exact aFb hF a _ hl.1 _ _ _ h
   | false=>exact aFb hF b _ hl.2 _ _ _ h
  ·cases h
 | .block id c,p,hl,s,k,r,h=>by
  obtain⟨e,s1,h1,h2⟩:=aFb hF c _ hl _ _ _ h
  rw[aRm,h1]
  cases e with
  | nrm=>exact⟨_,s1,rfl,h2⟩
  | ex id'=>
   simp only[bRH]at h2
   simp only[Option.bind_some,aRW]
   by_cases hi:id'=id
   ·rw[if_pos hi]at h2;rw[if_pos hi];exact⟨_,s1,rfl,h2⟩
   ·rw[if_neg hi]at h2;rw[if_neg hi];exact⟨_,s1,rfl,h2⟩
  | ret=>exact⟨_,s1,rfl,h2⟩
 | .loop keep c,p,hl,s,k,r,h=>by
  obtain⟨s0,h1,h2⟩:=Option.bind_eq_some_iff.1 h
  rw[aUg,aHD h1]
  exact hl s0 k r h2
 | .exit keep id,p,_,s,k,r,h=>by
  obtain⟨s0,h1,h2⟩:=Option.bind_eq_some_iff.1 h
  obtain⟨s1,h3,h4⟩:=aNJ h2
  rw[aVP,aHD h1,h3]
  exact⟨_,s1,rfl,h4⟩
 | .ret keep,p,_,s,k,r,h=>by
  obtain⟨s0,h1,h2⟩:=Option.bind_eq_some_iff.1 h
  obtain⟨s1,h3,h4⟩:=aNJ h2
  rw[aYP,aHD h1,h3]
  exact⟨_,s1,rfl,h4⟩
section
variable {α:Type} {Q:α->StS->List Acc->(StS->List Acc->Option R)->R->Prop}
theorem aXn {own:Bool}{kk:DS->MS R}{k':D->M α}(h:∀ d,Ok F Q (kk d) (k' d.enc))(d:DS):Ok F Q (aTI own kk d) (aXZ own k' d.enc):=by
 cases own with
 | true=>cases d <;> first | exact h (.agg _) | exact h _
 | false=>
  have key:∀ d,aTI false kk d=toS true 300 d (fun v=>kk (.p v))->aXZ false k' d.enc=toV true 300 d.enc (fun v=>k' (.p v))->Ok F Q (aTI false kk d) (aXZ false k' d.enc):=by
   intro d h1 h2
   rw[h1,h2]
   exact aOG 300 d fun u=>h (.p u)
  cases d with
  | agg xs=>exact aIa 300 xs fun vs=>by have:=h (.agg (vs.map .p));rwa [DS.enc,DS.encs_p]at this
  | _=>exact key _ rfl rfl
theorem aP4 {own:Bool}:∀ (rs:List Rs) {kk:List DS->MS R} {k':List D->M α},(∀ ds,Ok F Q (kk ds) (k' (DS.encs ds)))->Ok F Q (aRM own rs kk) (aXt own rs k')
 | [],_,_,h=>h []
 | .t n :: r,_,_,h=>bGi (aXn fun d=>aP4 r fun ds=>h (d :: ds))
 | .c a n :: r,_,_,h=>bGi (bJS (aXn fun d=>aP4 r fun ds=>h (d :: ds)))
end
theorem aWh (n:Nat)(ds:List DS):(DS.encs ds).drop n=DS.encs (ds.drop n):=by simp[DS.encs_map]
theorem aVN (n:Nat)(ds:List DS):(DS.encs ds).take n=DS.encs (ds.take n):=by simp[DS.encs_map]
theorem bEm {rp:List AP}{k:List Nat->List DS->aBq->Option R}{ds:List DS}{s:StS}{r:R}(h:bDD rp k ds s=some r) :
  ∃ roots res h',bFm (DS.encs ds,s.enc)=some (roots,DS.encs res,aE2 h')∧k roots res h'=some r:=by
 unfold bDD at h
 obtain⟨c,h1,h2⟩:=Option.bind_eq_some_iff.1 h
 obtain⟨res,h',e1,e2,h2⟩:=aQb h2
 refine⟨_,_,_,?_,h2⟩
 rw[<- e1,<- e2]
 have h3:=aLu (ds':=c.1) (h':=c.2) h1
 simp only[bFm,StS.enc,aMi,aQo,<- DS.encs_app,h3,Option.bind_some,bO3]
 simp only[aL0,List.length_map,aWh,aVN,DS.refsL_enc]
theorem bFI {rp:List AP}{ver:Ver}{k:List Nat->List DS->aBq->Option R}{e:Ex}{s:StS}{r:R}(h:bRt rp ver.own ver.res k e s=some r) :
  ∃ roots res h',aZT F ver (e,s.enc)=some (roots,DS.encs res,aE2 h')∧k roots res h'=some r:=by
 have main:∀ s:StS,aRM ver.own ver.res (fun ds s l _=>bDD rp k ds s) s [] (fun _ _=>none)=some r->∃ roots res h',((aXt ver.own ver.res .ret).run F s.enc).bind bFm=some (roots,DS.encs res,aE2 h')∧k roots res h'=some r:=by
  intro s h
  have hq:∀ ds:List DS,Ok F (fun (a:List D) s l _ r=>∃ ds,a=DS.encs ds∧bDD rp k ds s=some r) (fun s l _=>bDD rp k ds s) (.ret (DS.encs ds)):=fun ds s l k0 r hr=>⟨DS.encs ds,s,l,rfl,ds,rfl,hr⟩
  obtain⟨a,s1,l1,h1,ds,rfl,h3⟩:=aP4 ver.res hq s [] _ r h
  have:=aNy _ _ _ _ _ _ h1
  rw[this]
  exact bEm h3
 cases e with
 | ex id=>cases h
 | nrm=>exact main s h
 | ret=>exact main s h
theorem aRS {T:Tab}{FS:CfS R}(hF:FOK FS (aAo T)){H:Nat->Option (List Sh)}{Lp:Nat->StS->KS R->Option R}{X:Nat->List SP}{rp:List AP}{v:Nat}{ver:Ver}(hv:T.ver v=some ver)(hl:LOK (aAo T) Lp 1 ver.code)
  {args:List DS} {h:aBq} {k:List Nat->List DS->aBq->Option R} {r:R} (hr:bJD FS H Lp X rp ver args h k=some r) :
  ∃ roots res h',aAo T v (DS.encs args) (aE2 h)=some (roots,DS.encs res,aE2 h')∧k roots res h'=some r:=by
 unfold bJD at hr
 cases hn:args.length == ver.np with
 | false=>rw[hn]at hr;cases hr
 | true=>
  rw[hn]at hr
  have hn':(DS.encs args).length=ver.np:=by rw[DS.encs_map,List.length_map];exact eq_of_beq hn
  obtain⟨e,s',h1,h2⟩:=aFb hF ver.code 1 hl _ _ _ hr
  obtain⟨roots,res,h',h3,h4⟩:=bFI (F:=aAo T) h2
  refine⟨roots,res,h',?_,h4⟩
  rw[bEx hv _ hn']
  have e1:(⟨params 0 (DS.encs args) (aI1 0 (DS.encs args++aFi (DS.encs args) (aE2 h))),aE2 h⟩:St)=StS.enc ⟨aKR 0 args (aRk 0 (args++aL1 args h)),h⟩:=by
   simp only[StS.enc,aKG,<- DS.encs_app,aQX,aMz]
  rw[e1,h1]
  exact h3
end
end Am
end Go.Proofs.YtkmbhgggpfbffaaGreatDoor
