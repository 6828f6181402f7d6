/- What is lent; other names for objects. -/
import Derived.Test.YtkmbhgggpfbffaaGreatDoorAm16
set_option linter.unusedVariables false
set_option linter.unusedSimpArgs false
set_option linter.constructorNameAsVariable false
namespace Go.Proofs.YtkmbhgggpfbffaaGreatDoor
namespace Am
section
variable {P:Program} {fo:Fo} {vm:FuncId->Nat} {φ:Lay} {Im:Nat->Prop} {w:World} {h:aAR} {a:Act} {av:List Value} {e:Env} {F:Cf} {β:Type} {r:β×St}
theorem aXe {off len c:Nat}{ad:Option Addr}{l:RL}(a3:len<=c)(a5:c≠0->l.real=true∧ad=some ⟨l.blk,l.off+off*l.sz,none⟩){Im':Nat->Prop}{xs:List (List V)}{sz:Nat}(hI:∀ g,Im g->Im' g)(e1:l.sz=sz)
  (e4:∀ i (h:i<xs.length),xs[i].length=sz) (him:l.real=true->Im' l.blk) (hle:off+len<=xs.length)
  (e6:l.real=true->∀ i j (hi:i<xs.length) (hj:j<xs[i].length),∃ x,w.cell? ⟨l.blk,l.off+i*sz+j,none⟩=some x∧RepV fo Im w xs[i][j] x):RepV fo Im' w (.sl sz ((xs.drop off).take len)) (.slice ad len c):=by
 have hlen:((xs.drop off).take len).length=len:=by simp;omega
 have hne':(xs.drop off).take len≠[]->c≠0:=by
  intro hne
  have:=List.length_pos_iff.2 hne
  omega
 have:=aMd (fo:=fo) (w:=w) (Im':=Im') (sz:=sz) (xs:=(xs.drop off).take len) (g:=l.blk) (o:=l.off+off*sz) (fun i hi=>by simp only[List.getElem_take,List.getElem_drop];exact e4 _ _) (fun hne=>him (a5 (hne' hne)).1) (fun i j hi hj=>by
  have hi2:off+i<xs.length:=by rw[hlen]at hi;omega
  have hj2:j<xs[off+i].length:=by simpa[List.getElem_take,List.getElem_drop]using hj
  have hne:(xs.drop off).take len≠[]:=by intro h0;rw[h0]at hi;simp at hi
  obtain⟨x,p1,p2⟩:=e6 (a5 (hne' hne)).1 (off+i) j hi2 hj2
  refine⟨x,?_,by simpa[List.getElem_take,List.getElem_drop]using p2.mono hI (fun _ _=>rfl)⟩
  rw[<- p1,Nat.add_mul];congr 2;omega) (ad:=ad) (c:=c) (by omega) (fun hne=>by rw[(a5 (hne' hne)).2,e1])
 rw[hlen]at this
 exact this
theorem bAu {i off:Nat}{l:RL}(hre:l.real=true){Im2:Nat->Prop}{xs:List (List V)}{cs:List V}{sz:Nat}(e1:l.sz=sz)(hcs:xs[i]? = some cs)(hI:∀ g,Im g->Im2 g)(hg:Im2 l.blk)
  (e6:l.real=true->∀ i j (hi:i<xs.length) (hj:j<xs[i].length),∃ x,w.cell? ⟨l.blk,l.off+i*sz+j,none⟩=some x∧RepV fo Im w xs[i][j] x) :
  RepV fo Im2 w (.cp (cs.drop off)) (.pointer (some ⟨l.blk,l.off+i*l.sz+off,none⟩)):=by
 obtain⟨hlt,hcs⟩:=List.getElem?_eq_some_iff.1 hcs
 subst hcs
 have hv:∀ j:Nat,∃ x,∀ (hj:off+j<xs[i].length),w.cell? ⟨l.blk,l.off+i*sz+(off+j),none⟩=some x∧RepV fo Im w xs[i][off+j] x:=by
  intro j
  by_cases hj:off+j<xs[i].length
  · obtain⟨x,q⟩:=e6 hre i (off+j) hlt hj;exact⟨x,fun _=>q⟩
  · exact⟨undef,fun h=>absurd h hj⟩
 refine .cp _ l.blk _ (fun j=>Classical.choose (hv j)) hg (fun j hj=>?_) (fun j hj=>?_)
 ·simp at hj
  rw[e1,Nat.add_assoc]
  exact (Classical.choose_spec (hv j) (by omega)).1
 ·simp at hj
  simp only[List.getElem_drop]
  exact (Classical.choose_spec (hv j) (by omega)).2.mono hI (fun _ _=>rfl)
def Bl (φ:Lay)(h:aAR)(K:Nat->Prop)(g:Nat):Prop:=∃ key o l,K key∧lk h key=some o∧o.mut=true∧φ key=some l∧l.real=true∧l.blk=g
def Clo (h:aAR)(K:Nat->Prop):Prop:=∀ key o,K key->lk h key=some o->∀ k',k'∈o.refs->K k'
theorem refsL_mem {ds:List D}{k:Nat}:k∈D.refsL ds↔∃ d,d∈ds∧k∈d.refs:=by
 induction ds with
 | nil=>simp[D.refsL]
 | cons d ds ih=>simp[D.refsL,ih]
def TF (fo:Fo)(φ:Lay)(Im:Nat->Prop)(w:World)(h:aAR)(e:Env)(F:Cf)(β:Type)(r:β×St)(K:Nat->Prop)(n:Nat):Prop:=
 ∀ (d:D) (k:V->M β) (v:Value),RepD fo φ Im w d v->(∀ key,key∈d.refs->K key)->(toV false n d k).run F ⟨e,h⟩=some r->∃ u,(k u).run F ⟨e,h⟩=some r∧RepV fo (fun g=>Im g∨Bl φ h K g) w u v
def TFs (fo:Fo)(φ:Lay)(Im:Nat->Prop)(w:World)(h:aAR)(e:Env)(F:Cf)(β:Type)(r:β×St)(K:Nat->Prop)(n:Nat):Prop:=
 ∀ (ds:List D) (k:List V->M β) (vs:List Value),ds.length=vs.length->(∀ i (hi:i<ds.length) (hi':i<vs.length),RepD fo φ Im w ds[i] vs[i])->(∀ key,key∈D.refsL ds->K key)->(aRE false n ds k).run F ⟨e,h⟩=some r ->
  ∃ us,(k us).run F ⟨e,h⟩=some r∧us.length=vs.length∧∀ i (hi:i<us.length) (hi':i<vs.length),RepV fo (fun g=>Im g∨Bl φ h K g) w us[i] vs[i]
theorem aMm {c:Bool}{key:Nat}{o:Ob}{m:M β}(hr:(frz (false&&c) key o m).run F ⟨e,h⟩=some r):m.run F ⟨e,h⟩=some r:=hr
theorem aYa {K:Nat->Prop}(n:Nat)(ht:TF fo φ Im w h e F β r K n)(hts:TFs fo φ Im w h e F β r K n):TFs fo φ Im w h e F β r K (n+1):=by
 intro ds k vs hl hrep hK hr
 cases ds with
 | nil=>
  have:vs=[]:=List.eq_nil_of_length_eq_zero hl.symm
  subst this
  exact⟨[],hr,rfl,fun i hi=>absurd hi (by simp)⟩
 | cons d ds=>
  cases vs with
  | nil=>simp at hl
  | cons v vs=>
   obtain⟨u,g1,r1⟩:=ht d _ v (hrep 0 (by simp) (by simp)) (fun key hk=>hK key (by simp[D.refsL,hk])) hr
   obtain⟨us,g2,hl2,r2⟩:=hts ds _ vs (by simpa using hl) (fun i hi hi'=>hrep (i+1) (by simpa using hi) (by simpa using hi')) (fun key hk=>hK key (by simp[D.refsL,hk])) g1
   refine⟨u :: us,g2,by simp[hl2],fun i hi hi'=>?_⟩
   cases i with
   | zero=>exact r1
   | succ i=>exact r2 i (by simpa using hi) (by simpa using hi')
theorem aUv {K:Nat->Prop}(hs:HS fo φ Im w h)(hclo:Clo h K)(n:Nat)(hts:∀ m,m<=n->TFs fo φ Im w h e F β r K m):TF fo φ Im w h e F β r K (n+1):=by
 intro d k v hd hK hr
 have hI:∀ g,Im g->Im g∨Bl φ h K g:=fun _ h=>.inl h
 cases d with
 | p u=>exact⟨u,hr,hd.p_inv.mono hI (fun _ _=>rfl)⟩
 | own key=>
  obtain⟨o,hk,g1⟩:=aBN hr
  have hKk:=hK key (by simp[D.refs])
  cases hd with
  | own _ l a0 hφ=>
   rcases aCI g1 with⟨sz,xs,rfl,g⟩ | ⟨sz,xs,rfl,g⟩
   ·obtain⟨e1,e2,e3,e4,e5,e6⟩:=aCG hs hk (.inl rfl) hφ
    refine⟨_,aMm g,?_⟩
    obtain⟨ad,c,q1,q2,q3⟩:=aJs l a0 xs e2 e3 e5
    rw[q1]
    refine aMd (g:=l.blk) (o:=l.off) e4 (fun hne=>.inr ⟨key,_,l,hKk,hk,rfl,hφ,(q3 hne).2,rfl⟩) (fun i j hi hj=>?_) q2 (fun hne=>(q3 hne).1)
    have hne:xs≠[]:=by intro h0;subst h0;simp at hi
    obtain⟨x,p1,p2⟩:=e6 (q3 hne).2 i j hi hj
    exact⟨x,p1,p2.mono hI (fun _ _=>rfl)⟩
   ·obtain⟨e1,e2,e3,e4,e5,e6⟩:=aCG hs hk (.inr rfl) hφ
    refine⟨_,aMm g,?_⟩
    obtain⟨ad,c,q1,q2,q3⟩:=aJs l a0 xs e2 e3 e5
    rw[q1]
    have hrp:=hs.rep key _ hk
    obtain⟨l',p1,_,_,_,_,_,p7⟩:=hrp
    rw[p1]at hφ;injection hφ with hφ;subst hφ
    refine aMd (g:=l'.blk) (o:=l'.off) e4 (fun hne=>.inl (p7 (q3 hne).2).1) (fun i j hi hj=>?_) q2 (fun hne=>(q3 hne).1)
    obtain⟨x,p1,p2⟩:=e6 (q3 (by intro h0;subst h0;simp at hi)).2 i j hi hj
    exact⟨x,p1,p2.mono hI (fun _ _=>rfl)⟩
 | arr key off len ap=>
  obtain⟨o,hk,g1⟩:=aBN hr
  have hKk:=hK key (by simp[D.refs])
  cases hd with
  | arr _ _ _ _ l ad c hφ a1 a2 a3 a4 a5=>
   rcases aCI g1 with⟨sz,xs,rfl,g⟩ | ⟨sz,xs,rfl,g⟩
   ·obtain⟨e1,e2,e3,e4,e5,e6⟩:=aCG hs hk (.inl rfl) hφ
    obtain⟨hle,g3⟩:=aAU (aMm g)
    exact⟨_,g3,aXe a3 a5 hI e1 e4 (fun hre=>.inr ⟨key,_,l,hKk,hk,rfl,hφ,hre,rfl⟩) hle e6⟩
   ·obtain⟨e1,e2,e3,e4,e5,e6⟩:=aCG hs hk (.inr rfl) hφ
    obtain⟨hle,g3⟩:=aAU (aMm g)
    have hrp:=hs.rep key _ hk
    obtain⟨l',p1,_,_,_,_,_,p7⟩:=hrp
    rw[p1]at hφ;injection hφ with hφ;subst hφ
    exact⟨_,g3,aXe a3 a5 hI e1 e4 (fun hre=>.inl (p7 hre).1) hle e6⟩
 | ptr key off=>
  obtain⟨o,hk,g1⟩:=aBN hr
  have hKk:=hK key (by simp[D.refs])
  cases hd with
  | ptr _ _ g hφ=>
   cases n with
   | zero=>cases g1
   | succ n=>
    have hrp:=hs.rep key _ hk
    cases o with
    | box cs=>
     obtain⟨g',el,vs,h1,h2,h3,h4,h5⟩:=hrp
     rw[h1]at hφ;injection hφ with hφ;injection hφ with hφ;subst hφ
     obtain⟨us,g2,hl1,r1⟩:=hts n (by omega) cs _ vs h3 h5 (fun k' hk'=>hclo key _ hKk hk k' hk') g1
     refine⟨_,g2,.cp _ g' off (fun j=>vs.getD (off+j) undef) (.inr ⟨key,_,RL.box g',hKk,hk,rfl,h1,rfl,rfl⟩) (fun j hj=>?_) (fun j hj=>?_)⟩
     ·simp at hj
      have hjv:off+j<vs.length:=by omega
      simp[World.cell?,h2,List.getD,List.getElem?_eq_getElem hjv]
     ·simp at hj
      simp only[List.getElem_drop]
      have:=r1 (off+j) (by omega) (by omega)
      simpa[List.getD,List.getElem?_eq_getElem (show off+j<vs.length by omega)]using this
    | fbx us=>
     obtain⟨g',h1,h2,h3⟩:=hrp
     rw[h1]at hφ;injection hφ with hφ;injection hφ with hφ;subst hφ
     have hv:∀ j:Nat,∃ x,∀ (hj:off+j<us.length),w.cell? ⟨g',off+j,none⟩=some x∧RepV fo Im w us[off+j] x:=by
      intro j
      by_cases hj:off+j<us.length
      ·obtain⟨x,e1⟩:=h3 (off+j) hj;exact⟨x,fun _=>e1⟩
      ·exact⟨undef,fun h=>absurd h hj⟩
     refine⟨_,g1,.cp _ g' off (fun j=>Classical.choose (hv j)) (.inl h2) (fun j hj=>(Classical.choose_spec (hv j) (by simp at hj;omega)).1) (fun j hj=>?_)⟩
     simp only[List.getElem_drop]
     exact (Classical.choose_spec (hv j) (by simp at hj;omega)).2.mono hI (fun _ _=>rfl)
    | _=>cases g1
 | ep key i off=>
  obtain⟨o,hk,g1⟩:=aBN hr
  have hKk:=hK key (by simp[D.refs])
  cases hd with
  | ep _ _ _ l hφ hi hre=>
   rcases aCI g1 with⟨sz,xs,rfl,g⟩ | ⟨sz,xs,rfl,g⟩
   ·obtain⟨e1,e2,e3,e4,e5,e6⟩:=aCG hs hk (.inl rfl) hφ
    obtain⟨cs,hcs,g3⟩:=aBO (aMm g)
    exact⟨_,g3,bAu hre e1 hcs hI (.inr ⟨key,_,l,hKk,hk,rfl,hφ,hre,rfl⟩) e6⟩
   ·obtain⟨e1,e2,e3,e4,e5,e6⟩:=aCG hs hk (.inr rfl) hφ
    obtain⟨cs,hcs,g3⟩:=aBO (aMm g)
    have hrp:=hs.rep key _ hk
    obtain⟨l',p1,_,_,_,_,_,p7⟩:=hrp
    rw[p1]at hφ;injection hφ with hφ;subst hφ
    exact⟨_,g3,bAu hre e1 hcs hI (.inl (p7 hre).1) e6⟩
 | fn v caps=>
  cases hd with
  | fn _ f _ vs hf hl hrr=>
   obtain⟨us,g1,hl1,r1⟩:=hts n (Nat.le_refl _) caps _ vs hl hrr hK hr
   exact⟨_,g1,.fn v f us vs hf hl1 r1⟩
 | ifc t ag xs=>
  cases hd with
  | if1 _ x v ho hrr=>
   obtain⟨us,g1,hl1,r1⟩:=hts n (Nat.le_refl _) [x] _ [v] rfl (fun i hi hi'=>by
    have:i=0:=by simpa using hi
    subst this;exact hrr) hK hr
   cases us with
   | nil=>simp at hl1
   | cons u us=>
    have:us=[]:=by simpa using hl1
    subst this
    exact⟨_,g1,.if1 t u v (r1 0 (by simp) (by simp))⟩
  | if2 _ _ vs hl ho hrr=>
   obtain⟨us,g1,hl1,r1⟩:=hts n (Nat.le_refl _) xs _ vs hl hrr hK hr
   exact⟨_,g1,.if2 t us vs hl1 r1⟩
 | mp key=>cases hr
 | agg xs=>cases hr
 | tup xs=>cases hr
 | und=>cases hr
theorem aN2 {K:Nat->Prop}(hs:HS fo φ Im w h)(hclo:Clo h K):∀ n,TFs fo φ Im w h e F β r K n:=by
 intro n
 induction n using Nat.strongRecOn with
 | _ n ih=>
  cases n with
  | zero=>intro ds k vs hl hrep hK hr;cases hr
  | succ n=>
   refine aYa n ?_ (ih n (by omega))
   cases n with
   | zero=>intro d k v hd hK hr;cases hr
   | succ n=>exact aUv hs hclo n (fun m hm=>ih m (by omega))
theorem aX4 {K:Nat->Prop}(hs:HS fo φ Im w h)(hclo:Clo h K)(n:Nat):TF fo φ Im w h e F β r K n:=by
 cases n with
 | zero=>intro d k v hd hK hr;cases hr
 | succ n=>exact aUv hs hclo n (fun m _=>aN2 hs hclo m)
theorem aCd (f:Nat->Nat)(ds:List D):D.renL f ds=ds.map (D.ren f):=by
 induction ds with
 | nil=>rfl
 | cons d ds ih=>simp[D.renL,ih]
theorem flatL_mem {ds:List D}:D.flatL ds=true↔∀ d,d∈ds->d.flat=true:=by
 induction ds with
 | nil=>simp[D.flatL]
 | cons d ds ih=>simp[D.flatL,ih]
theorem boxyL_mem {ds:List D}:D.boxyL ds=true↔∀ d,d∈ds->d.boxy=true:=by
 induction ds with
 | nil=>simp[D.boxyL]
 | cons d ds ih=>simp[D.boxyL,ih]
theorem aM2 (f:Nat->Nat)(d:D):(d.ren f).one=d.one:=by cases d <;> rfl
theorem RepD.ren {φ':Lay}{f:Nat->Nat}{d:D}{v:Value}(hd:RepD fo φ Im w d v):(∀ k,k∈d.refs->φ' (f k)=φ k)->RepD fo φ' Im w (d.ren f) v:=by
 induction hd with
 | p u x h=>intro _;exact .p u x h
 | own k l a0 h=>intro hf;exact .own (f k) l a0 ((hf k (by simp[D.refs])).trans h)
 | arr k off n ap l a c h h1 h2 h3 h4 h5=>intro hf;exact .arr (f k) off n ap l a c ((hf k (by simp[D.refs])).trans h) h1 h2 h3 h4 h5
 | ptr k off g h=>intro hf;exact .ptr (f k) off g ((hf k (by simp[D.refs])).trans h)
 | ep k i off l h hi hr=>intro hf;exact .ep (f k) i off l ((hf k (by simp[D.refs])).trans h) hi hr
 | mp k g h=>intro hf;exact .mp (f k) g ((hf k (by simp[D.refs])).trans h)
 | fn v g caps vs hg hl hr ih=>
  intro hf
  simp only[D.ren,aCd]
  refine .fn v g _ vs hg (by simpa using hl) (fun i hi hi'=>?_)
  simp only[List.getElem_map]
  exact ih i (by simpa using hi) hi' (fun k hk=>hf k (by simp only[D.refs];exact refsL_mem.2 ⟨_,List.getElem_mem _,hk⟩))
 | if1 t x v ho hr ih=>
  intro hf
  simp only[D.ren,D.renL]
  exact .if1 t _ v (by rw[aM2];exact ho) (ih (fun k hk=>hf k (by simp[D.refs,D.refsL,hk])))
 | if2 t xs vs hl ho hr ih=>
  intro hf
  simp only[D.ren,aCd]
  refine .if2 t _ vs (by simpa using hl) (fun d hd=>?_) (fun i hi hi'=>?_)
  ·obtain⟨d',h1,rfl⟩:=List.mem_map.1 hd
   rw[aM2];exact ho d' h1
  ·simp only[List.getElem_map]
   exact ih i (by simpa using hi) hi' (fun k hk=>hf k (by simp only[D.refs];exact refsL_mem.2 ⟨_,List.getElem_mem _,hk⟩))
 | agg xs vs hl ho hr ih=>
  intro hf
  simp only[D.ren,aCd]
  refine .agg _ vs (by simpa using hl) (fun d hd=>?_) (fun i hi hi'=>?_)
  ·obtain⟨d',h1,rfl⟩:=List.mem_map.1 hd
   rw[aM2];exact ho d' h1
  ·simp only[List.getElem_map]
   exact ih i (by simpa using hi) hi' (fun k hk=>hf k (by simp only[D.refs];exact refsL_mem.2 ⟨_,List.getElem_mem _,hk⟩))
 | tup xs vs hl hr ih=>
  intro hf
  simp only[D.ren,aCd]
  refine .tup _ vs (by simpa using hl) (fun i hi hi'=>?_)
  simp only[List.getElem_map]
  exact ih i (by simpa using hi) hi' (fun k hk=>hf k (by simp only[D.refs];exact refsL_mem.2 ⟨_,List.getElem_mem _,hk⟩))
 | und=>intro _;exact .und
theorem RepD.flat {Im':Nat->Prop}{w':World}{d:D}{v:Value}(hd:RepD fo φ Im w d v):d.flat=true->RepD fo φ Im' w' d v:=by
 induction hd with
 | p u x h=>intro hf;exact .p u x (h.flat hf)
 | own k l a0 h=>intro _;exact .own k l a0 h
 | arr k off n ap l a c h h1 h2 h3 h4 h5=>intro _;exact .arr k off n ap l a c h h1 h2 h3 h4 h5
 | ptr k off g h=>intro _;exact .ptr k off g h
 | ep k i off l h hi hr=>intro _;exact .ep k i off l h hi hr
 | mp k g h=>intro _;exact .mp k g h
 | fn v g caps vs hg hl hr ih=>intro hf;exact .fn v g caps vs hg hl (fun i hi hi'=>ih i hi hi' (flatL_mem.1 hf _ (List.getElem_mem _)))
 | if1 t x v ho hr ih=>intro hf;exact .if1 t x v ho (ih (flatL_mem.1 hf _ (by simp)))
 | if2 t xs vs hl ho hr ih=>intro hf;exact .if2 t xs vs hl ho (fun i hi hi'=>ih i hi hi' (flatL_mem.1 hf _ (List.getElem_mem _)))
 | agg xs vs hl ho hr ih=>intro hf;exact .agg xs vs hl ho (fun i hi hi'=>ih i hi hi' (flatL_mem.1 hf _ (List.getElem_mem _)))
 | tup xs vs hl hr ih=>intro hf;exact .tup xs vs hl (fun i hi hi'=>ih i hi hi' (flatL_mem.1 hf _ (List.getElem_mem _)))
 | und=>intro _;exact .und
theorem RepD.roots {φ2:Lay}{Im2:Nat->Prop}{w2:World}{g:Nat->Nat}{d:D}{v:Value}(hd:RepD fo φ Im w d v):d.boxy=true->RepD fo φ2 Im2 w2 (d.ren g) v->∀ k,k∈d.refs->∃ b,φ k=some (RL.box b)∧φ2 (g k)=some (RL.box b):=by
 have list:∀ (xs:List D) (vs:List Value),xs.length=vs.length->(∀ i (hi:i<xs.length) (hi':i<vs.length),xs[i].boxy=true->RepD fo φ2 Im2 w2 (xs[i].ren g) vs[i]->∀ k,k∈xs[i].refs->∃ b,φ k=some (RL.box b)∧φ2 (g k)=some (RL.box b)) ->
   D.boxyL xs=true->(∀ i (hi:i<(xs.map (D.ren g)).length) (hi':i<vs.length),RepD fo φ2 Im2 w2 (xs.map (D.ren g))[i] vs[i])->∀ k,k∈D.refsL xs->∃ b,φ k=some (RL.box b)∧φ2 (g k)=some (RL.box b):=by
  intro xs vs hl ih hb hr k hk
  obtain⟨d,h1,h2⟩:=refsL_mem.1 hk
  obtain⟨i,hi,rfl⟩:=List.getElem_of_mem h1
  have:=hr i (by simpa using hi) (by omega)
  simp only[List.getElem_map]at this
  exact ih i hi (by omega) (boxyL_mem.1 hb _ h1) this k h2
 induction hd with
 | p u x h=>intro _ _ k hk;simp[D.refs]at hk
 | own k l a0 h=>intro hb;cases hb
 | arr k off n ap l a c h h1 h2 h3 h4 h5=>intro hb;cases hb
 | ptr k off b h=>
  intro _ h2 k' hk
  have:k'=k:=by simpa[D.refs]using hk
  subst this
  cases h2 with
  | ptr _ _ b' h'=>exact⟨_,h,h'⟩
 | ep k i off l h hi hr=>intro hb;cases hb
 | mp k b h=>
  intro _ h2 k' hk
  have:k'=k:=by simpa[D.refs]using hk
  subst this
  cases h2 with
  | mp _ b' h'=>exact⟨_,h,h'⟩
 | fn v f caps vs hf hl hr ih=>
  intro hb h2
  simp only[D.ren,aCd]at h2
  generalize hx:(Value.func (.func f) #[] vs.toArray)=x at h2
  cases h2 with
  | fn _ f' _ vs' hf' hl' hr'=>
   injection hx with _ _ hx
   have:vs'=vs:=by simpa using hx.symm
   subst this
   exact list caps vs' hl ih hb hr'
 | if1 t x v ho hr ih=>
  intro hb h2
  simp only[D.ren,D.renL]at h2
  cases h2 with
  | if1 _ _ _ _ hr'=>
   intro k hk
   exact ih (by simpa[D.boxy,D.boxyL]using hb) hr' k (by simpa[D.refs,D.refsL]using hk)
 | if2 t xs vs hl ho hr ih=>
  intro hb h2
  simp only[D.ren,aCd]at h2
  generalize hx:(Value.iface t (.agg vs.toArray))=x at h2
  cases h2 with
  | if2 _ _ vs' hl' _ hr'=>
   injection hx with _ hx
   injection hx with hx
   have:vs'=vs:=by simpa using hx.symm
   subst this
   exact list xs vs' hl ih hb hr'
 | agg xs vs hl ho hr ih=>
  intro hb h2
  simp only[D.ren,aCd]at h2
  generalize hx:(Value.agg vs.toArray)=x at h2
  cases h2 with
  | agg _ vs' hl' _ hr'=>
   injection hx with hx
   have:vs'=vs:=by simpa using hx.symm
   subst this
   exact list xs vs' hl ih hb hr'
 | tup xs vs hl hr ih=>
  intro hb h2
  simp only[D.ren,aCd]at h2
  generalize hx:(Value.tuple vs.toArray)=x at h2
  cases h2 with
  | tup _ vs' hl' hr'=>
   injection hx with hx
   have:vs'=vs:=by simpa using hx.symm
   subst this
   exact list xs vs' hl ih hb hr'
 | und=>intro _ _ k hk;simp[D.refs]at hk
end
end Am
end Go.Proofs.YtkmbhgggpfbffaaGreatDoor
