/- What the abstract machine's data stand for in the program's memory. -/
import Derived.Test.YtkmbhgggpfbffaaGreatDoorAm2
import Derived.Below
import Derived.Laws.World
import Derived.Laws.Sem
set_option linter.unusedVariables false
set_option linter.unusedSimpArgs false
set_option linter.constructorNameAsVariable false
namespace Go.Proofs.YtkmbhgggpfbffaaGreatDoor
namespace Am
structure RL where
 blk:Nat
 off:Nat
 len:Nat
 cap:Nat
 sz:Nat
 real:Bool
def RL.box (g:Nat):RL:=⟨g,0,0,0,0,true⟩
abbrev Lay:=Nat->Option RL
structure Fo where
 fn:Nat->Option FuncId
 tab:Nat->Option (Array Value):=fun _=>none
instance:CoeFun Fo fun _=>Nat->Option FuncId:=⟨Fo.fn⟩
instance:Coe Fo (Nat->Option FuncId):=⟨Fo.fn⟩
inductive RepV (fo:Fo) (Im:Nat->Prop) (w:World):V->Value->Prop
 | i (k:IntKind) (n:Int):RepV fo Im w (.i k n) (.int k n)
 | b (t:Bool):RepV fo Im w (.b t) (.bool t)
 | s (s:ByteArray):RepV fo Im w (.s s) (.string s)
 | sl (sz:Nat) (xs:List (List V)) (a:Option Addr) (n c:Nat) (vals:Nat->Nat->Value) (hn:xs.length=n) (hcap:n<=c)
  (hl:∀ i (h:i<xs.length),xs[i].length=sz)
  (ha:n≠0->∃ g o,a=some ⟨g,o,none⟩∧Im g∧∀ i j,i<n->j<sz->w.cell? ⟨g,o+i*sz+j,none⟩=some (vals i j))
  (hr:∀ i j (hi:i<xs.length) (hj:j<xs[i].length),RepV fo Im w xs[i][j] (vals i j)):RepV fo Im w (.sl sz xs) (.slice a n c)
 | cp (cells:List V) (g o:Nat) (vals:Nat->Value) (hI:Im g) (hc:∀ j,j<cells.length->w.cell? ⟨g,o+j,none⟩=some (vals j))
  (hr:∀ j (hj:j<cells.length),RepV fo Im w cells[j] (vals j)):RepV fo Im w (.cp cells) (.pointer (some ⟨g,o,none⟩))
 | fn (v:Nat) (f:FuncId) (caps:List V) (vs:List Value) (hf:fo v=some f) (hl:caps.length=vs.length)
  (hr:∀ i (h:i<caps.length) (h':i<vs.length),RepV fo Im w caps[i] vs[i]):RepV fo Im w (.fn v caps) (.func (.func f) #[] vs.toArray)
 | n0:RepV fo Im w (.nl 0) (.pointer none)
 | n1:RepV fo Im w (.nl 1) .nilFunc
 | n2:RepV fo Im w (.nl 2) (.map none)
 | n3:RepV fo Im w (.nl 3) .nilIface
 | n4:RepV fo Im w (.nl 4) (.slice none 0 0)
 | if1 (t:Nat) (x:V) (v:Value) (hr:RepV fo Im w x v):RepV fo Im w (.ifc t false [x]) (.iface t v)
 | if2 (t:Nat) (xs:List V) (vs:List Value) (hl:xs.length=vs.length) (hr:∀ i (h:i<xs.length) (h':i<vs.length),RepV fo Im w xs[i] vs[i]):RepV fo Im w (.ifc t true xs) (.iface t (.agg vs.toArray))
inductive RepD (fo:Fo) (φ:Lay) (Im:Nat->Prop) (w:World):D->Value->Prop
 | p (u:V) (x:Value) (h:RepV fo Im w u x):RepD fo φ Im w (.p u) x
 | own (k:Nat) (l:RL) (a0:Option Addr) (hφ:φ k=some l):RepD fo φ Im w (.own k) (if l.real=true then .slice (some ⟨l.blk,l.off,none⟩) l.len l.cap else .slice a0 0 0)
 | arr (k off n:Nat) (ap:Bool) (l:RL) (a:Option Addr) (c:Nat) (hφ:φ k=some l) (h1:off+n<=l.len) (h2:off+c<=l.cap) (h3:n<=c) (h4:ap=true->off+c=l.cap)
  (h5:c≠0->l.real=true∧a=some ⟨l.blk,l.off+off*l.sz,none⟩):RepD fo φ Im w (.arr k off n ap) (.slice a n c)
 | ptr (k off g:Nat) (hφ:φ k=some (RL.box g)):RepD fo φ Im w (.ptr k off) (.pointer (some ⟨g,off,none⟩))
 | ep (k i off:Nat) (l:RL) (hφ:φ k=some l) (hi:i<l.len) (hreal:l.real=true):RepD fo φ Im w (.ep k i off) (.pointer (some ⟨l.blk,l.off+i*l.sz+off,none⟩))
 | mp (k g:Nat) (hφ:φ k=some (RL.box g)):RepD fo φ Im w (.mp k) (.map (some g))
 | fn (v:Nat) (f:FuncId) (caps:List D) (vs:List Value) (hf:fo v=some f) (hl:caps.length=vs.length)
  (hr:∀ i (h:i<caps.length) (h':i<vs.length),RepD fo φ Im w caps[i] vs[i]):RepD fo φ Im w (.fn v caps) (.func (.func f) #[] vs.toArray)
 | if1 (t:Nat) (x:D) (v:Value) (ho:x.one=true) (hr:RepD fo φ Im w x v):RepD fo φ Im w (.ifc t false [x]) (.iface t v)
 | if2 (t:Nat) (xs:List D) (vs:List Value) (hl:xs.length=vs.length) (ho:∀ d,d∈xs->d.one=true) (hr:∀ i (h:i<xs.length) (h':i<vs.length),RepD fo φ Im w xs[i] vs[i]):RepD fo φ Im w (.ifc t true xs) (.iface t (.agg vs.toArray))
 | agg (xs:List D) (vs:List Value) (hl:xs.length=vs.length) (ho:∀ d,d∈xs->d.one=true) (hr:∀ i (h:i<xs.length) (h':i<vs.length),RepD fo φ Im w xs[i] vs[i]):RepD fo φ Im w (.agg xs) (.agg vs.toArray)
 | tup (xs:List D) (vs:List Value) (hl:xs.length=vs.length) (hr:∀ i (h:i<xs.length) (h':i<vs.length),RepD fo φ Im w xs[i] vs[i]):RepD fo φ Im w (.tup xs) (.tuple vs.toArray)
 | und:RepD fo φ Im w .und undef
def RepOb (fo:Fo)(φ:Lay)(Im:Nat->Prop)(w:World)(k:Nat):Ob->Prop
 | .box cs=>∃ g e vs,φ k=some (RL.box g)∧w.heap[g]? = some (.cells (List.toArray vs) e (0,0))∧cs.length=vs.length∧(∀ d,d∈cs->d.one=true) ∧
  ∀ i (h:i<cs.length) (h':i<vs.length),RepD fo φ Im w cs[i] vs[i]
 | .arr sz xs=>∃ l:RL,φ k=some l∧l.sz=sz∧xs.length=l.len∧l.len<=l.cap∧(∀ i (h:i<xs.length),xs[i].length=sz)∧(l.real=false->l.cap=0) ∧
  (l.real=true->∃ c e,w.heap[l.blk]? = some (.cells c e (0,0))∧l.off+l.cap*sz<=c.size ∧
    ∀ i j (hi:i<xs.length) (hj:j<xs[i].length),∃ x,c[l.off+i*sz+j]? = some x∧RepV fo Im w xs[i][j] x)
 | .frz sz xs=>∃ l:RL,φ k=some l∧l.sz=sz∧xs.length=l.len∧l.len<=l.cap∧(∀ i (h:i<xs.length),xs[i].length=sz)∧(l.real=false->l.cap=0) ∧
  (l.real=true->Im l.blk∧∀ i j (hi:i<xs.length) (hj:j<xs[i].length),∃ x,w.cell? ⟨l.blk,l.off+i*sz+j,none⟩=some x∧RepV fo Im w xs[i][j] x)
 | .fbx vs=>∃ g,φ k=some (RL.box g)∧Im g∧∀ j (hj:j<vs.length),∃ x,w.cell? ⟨g,j,none⟩=some x∧RepV fo Im w vs[j] x
 | .mp c es=>∃ g es',φ k=some (RL.box g)∧w.heap[g]? = some (.map (List.toArray es') c)∧es.length=es'.length ∧
  ∀ i (h:i<es.length) (h':i<es'.length),RepV fo Im w es[i].1 es'[i].key∧es[i].2.1=es'[i].born∧RepV fo Im w es[i].2.2 es'[i].val
 | .dead=>True
def Own (φ:Lay)(h:aAR)(g:Nat):Prop:=∃ k o l,lk h k=some o∧o.mut=true∧φ k=some l∧l.real=true∧l.blk=g
structure HS (fo:Fo) (φ:Lay) (Im:Nat->Prop) (w:World) (h:aAR):Prop where
 rep:∀ k o,lk h k=some o->RepOb fo φ Im w k o
 sep:∀ k k' o o' l l',lk h k=some o->lk h k'=some o'->o.mut=true->o'.mut=true->φ k=some l->φ k'=some l'->l.real=true->l'.real=true->k≠k'->l.blk≠l'.blk
 imm:∀ g,Own φ h g->¬Im g
 imb:∀ g,Im g->g<w.heap.size
 dom:∀ k,lk h k=none->φ k=none
 tb:∀ g cs,fo.tab g=some cs->Im g∧∃ t f,w.heap[g]? = some (.cells cs t f)
structure Fr (fo:Fo) (w0:World) (Own0 Im0:Nat->Prop) (φ:Lay) (Im:Nat->Prop) (w:World) (h:aAR):Prop where
 hs:HS fo φ Im w h
 im:∀ g,Im0 g->Im g
 frame:∀ g,g<w0.heap.size->¬Own0 g->w.heap[g]? = w0.heap[g]?
 own:∀ g,Own φ h g->Own0 g∨w0.heap.size<=g
 imnew:∀ g,Im g->Im0 g∨Own0 g∨w0.heap.size<=g
 size:w0.heap.size<=w.heap.size
 os:w.os=w0.os
 tape:w.tape=w0.tape
 output:w.output=w0.output
structure Stp (fo:Fo) (φ:Lay) (Im:Nat->Prop) (w:World) (h:aAR) (φ':Lay) (Im':Nat->Prop) (w':World) (h':aAR):Prop where
 fr:Fr fo w (Own φ h) Im φ' Im' w' h'
 up:∀ k l,φ k=some l->φ' k=some l
section basics
variable {fo:Fo} {φ φ':Lay} {Im Im':Nat->Prop} {w w':World}
theorem aI7 {g o:Nat}(h:w'.heap[g]? = w.heap[g]?):w'.cell? ⟨g,o,none⟩=w.cell? ⟨g,o,none⟩:=by
 simp only[World.cell?,h]
theorem RepV.mono {u:V}{x:Value}(h:RepV fo Im w u x)(hI:∀ g,Im g->Im' g)(hw:∀ g,Im g->w'.heap[g]? = w.heap[g]?):RepV fo Im' w' u x:=by
 induction h with
 | i k n=>exact .i k n
 | b t=>exact .b t
 | s s=>exact .s s
 | sl sz xs a n c vals hn hcap hl ha hr ih=>
  refine .sl sz xs a n c vals hn hcap hl (fun h0=>?_) ih
  obtain⟨g,o,e,hi,hc⟩:=ha h0
  exact⟨g,o,e,hI _ hi,fun i j h1 h2=>(aI7 (hw _ hi)).trans (hc i j h1 h2)⟩
 | cp cells g o vals hi hc hr ih=>exact .cp cells g o vals (hI _ hi) (fun j hj=>(aI7 (hw _ hi)).trans (hc j hj)) ih
 | fn v f caps vs hf hl hr ih=>exact .fn v f caps vs hf hl ih
 | n0=>exact .n0
 | n1=>exact .n1
 | n2=>exact .n2
 | n3=>exact .n3
 | n4=>exact .n4
 | if1 t x v hr ih=>exact .if1 t x v ih
 | if2 t xs vs hl hr ih=>exact .if2 t xs vs hl ih
theorem RepV.one {u:V}{x:Value}(h:RepV fo Im w u x):x.oneCell'=true:=by cases h <;> rfl
theorem aOh:∀ {us:List V},V.flatL us=true->∀ i (h:i<us.length),us[i].flat=true
 | [],_,i,h=>absurd h (by simp)
 | u :: r,hf,i,h=>by
  simp only[V.flatL,Bool.and_eq_true]at hf
  cases i with
  | zero=>exact hf.1
  | succ i=>exact aOh hf.2 i (by simpa using h)
theorem RepV.flat {u:V}{x:Value}(h:RepV fo Im w u x)(hf:u.flat=true):RepV fo Im' w' u x:=by
 revert hf
 induction h with
 | i k n=>intro _;exact .i k n
 | b t=>intro _;exact .b t
 | s s=>intro _;exact .s s
 | sl sz xs a n c vals hn hcap hl ha hr=>
  intro hf
  have h0:xs=[]:=by simpa[V.flat]using hf
  subst h0
  exact .sl sz [] a n c vals hn hcap hl (fun h=>absurd hn.symm h) (fun i j hi=>absurd hi (by simp))
 | cp=>intro hf;simp[V.flat]at hf
 | fn v f caps vs h0 hl hr ih=>
  intro hf
  simp only[V.flat]at hf
  exact .fn v f caps vs h0 hl fun i h h'=>ih i h h' (aOh hf i h)
 | n0=>intro _;exact .n0
 | n1=>intro _;exact .n1
 | n2=>intro _;exact .n2
 | n3=>intro _;exact .n3
 | n4=>intro _;exact .n4
 | if1=>intro hf;simp[V.flat]at hf
 | if2=>intro hf;simp[V.flat]at hf
theorem RepD.mono {d:D}{x:Value}(h:RepD fo φ Im w d x)(hφ:∀ k l,φ k=some l->φ' k=some l)(hI:∀ g,Im g->Im' g)(hw:∀ g,Im g->w'.heap[g]? = w.heap[g]?):RepD fo φ' Im' w' d x:=by
 induction h with
 | p u x h=>exact .p u x (h.mono hI hw)
 | own k l a0 h=>exact .own k l a0 (hφ _ _ h)
 | arr k off n ap l a c h h1 h2 h3 h4 h5=>exact .arr k off n ap l a c (hφ _ _ h) h1 h2 h3 h4 h5
 | ptr k off g h=>exact .ptr k off g (hφ _ _ h)
 | ep k i off l h hi hr=>exact .ep k i off l (hφ _ _ h) hi hr
 | mp k g h=>exact .mp k g (hφ _ _ h)
 | fn v f caps vs hf hl hr ih=>exact .fn v f caps vs hf hl ih
 | if1 t x v ho hr ih=>exact .if1 t x v ho ih
 | if2 t xs vs hl ho hr ih=>exact .if2 t xs vs hl ho ih
 | agg xs vs hl ho hr ih=>exact .agg xs vs hl ho ih
 | tup xs vs hl hr ih=>exact .tup xs vs hl ih
 | und=>exact .und
theorem RepD.ptr_inv {k off:Nat}{x:Value}(h:RepD fo φ Im w (.ptr k off) x):∃ l,φ k=some l∧x=.pointer (some ⟨l.blk,l.off+off,none⟩):=by
 cases h with
 | ptr _ _ g h=>exact⟨RL.box g,h,by simp[RL.box]⟩
theorem RepD.one {d:D}{x:Value}(h:RepD fo φ Im w d x)(ho:d.one=true):x.oneCell'=true:=by
 cases h with
 | p u x h=>exact h.one
 | own k l a0 h=>split <;> rfl
 | agg=>simp[D.one]at ho
 | tup=>simp[D.one]at ho
 | und=>simp[D.one]at ho
 | _=>rfl
theorem RepOb.keep {k:Nat}{o:Ob}(h:RepOb fo φ Im w k o)(hφ:∀ k l,φ k=some l->φ' k=some l)(hI:∀ g,Im g->Im' g)(hw:∀ g,Im g->w'.heap[g]? = w.heap[g]?)
  (ho:∀ l,φ k=some l->o.mut=true->l.real=true->w'.heap[l.blk]? = w.heap[l.blk]?):RepOb fo φ' Im' w' k o:=by
 cases o with
 | box cs=>
  obtain⟨g,e,vs,h1,h2,h3,h4,h5⟩:=h
  exact⟨g,e,vs,hφ _ _ h1,(ho _ h1 rfl rfl).trans h2,h3,h4,fun i a b=>(h5 i a b).mono hφ hI hw⟩
 | arr sz xs=>
  obtain⟨l,h1,h2,h3,h4,h5,h6,h7⟩:=h
  refine⟨l,hφ _ _ h1,h2,h3,h4,h5,h6,fun hr=>?_⟩
  obtain⟨c,e,g1,g3,g4⟩:=h7 hr
  refine⟨c,e,(ho _ h1 rfl hr).trans g1,g3,fun i j hi hj=>?_⟩
  obtain⟨x,e1,e2⟩:=g4 i j hi hj
  exact⟨x,e1,e2.mono hI hw⟩
 | frz sz xs=>
  obtain⟨l,h1,h2,h3,h4,h5,h6,h7⟩:=h
  refine⟨l,hφ _ _ h1,h2,h3,h4,h5,h6,fun hr=>?_⟩
  obtain⟨hi,g4⟩:=h7 hr
  refine⟨hI _ hi,fun i j a b=>?_⟩
  obtain⟨x,e1,e2⟩:=g4 i j a b
  exact⟨x,(aI7 (hw _ hi)).trans e1,e2.mono hI hw⟩
 | fbx vs=>
  obtain⟨g,h1,h2,h3⟩:=h
  refine⟨g,hφ _ _ h1,hI _ h2,fun j hj=>?_⟩
  obtain⟨x,e1,e2⟩:=h3 j hj
  exact⟨x,(aI7 (hw _ h2)).trans e1,e2.mono hI hw⟩
 | mp c es=>
  obtain⟨g,es',h1,h2,h3,h4⟩:=h
  exact⟨g,es',hφ _ _ h1,(ho _ h1 rfl rfl).trans h2,h3,fun i a b=>⟨(h4 i a b).1.mono hI hw,(h4 i a b).2.1,(h4 i a b).2.2.mono hI hw⟩⟩
 | dead=>trivial
end basics
theorem aH4 {Im Im':Nat->Prop}{w w':World}{g:Nat}{cs:Array Value}(h:Im g∧∃ t f,w.heap[g]? = some (.cells cs t f))(hI:Im g->Im' g)(hw:Im g->w'.heap[g]? = w.heap[g]?):Im' g∧∃ t f,w'.heap[g]? = some (.cells cs t f):=by
 obtain⟨h1,t,f,h2⟩:=h
 exact⟨hI h1,t,f,(hw h1).trans h2⟩
section heap
variable {fo:Fo} {φ:Lay} {Im:Nat->Prop} {w:World} {h:aAR}
theorem aAV {α:Type}(k:Nat)(o:α)(h:List (Nat×α))(t:Nat):lk ((k,o) :: h) t=if k=t then some o else lk h t:=rfl
theorem aIx {k:Nat}{o:Ob}{l:RL}(hs:HS fo φ Im w h)(hk:lk h k=some o)(hm:o.mut=true)(hφ:φ k=some l)(hr:l.real=true):l.blk<w.heap.size:=by
 have:=hs.rep k o hk
 cases o with
 | box cs=>
  obtain⟨g,e,vs,h1,h2,_⟩:=this
  rw[h1]at hφ;injection hφ with hφ;subst hφ
  exact (Array.getElem?_eq_some_iff.1 h2).1
 | arr sz xs=>
  obtain⟨l',h1,_,_,_,_,_,h7⟩:=this
  rw[h1]at hφ;injection hφ with hφ;subst hφ
  obtain⟨c,e,g1,_⟩:=h7 hr
  exact (Array.getElem?_eq_some_iff.1 g1).1
 | mp c es=>
  obtain⟨g,es',h1,h2,_⟩:=this
  rw[h1]at hφ;injection hφ with hφ;subst hφ
  exact (Array.getElem?_eq_some_iff.1 h2).1
 | _=>simp[Ob.mut]at hm
theorem aY2 (hs:HS fo φ Im w h){g:Nat}(ho:Own φ h g):g<w.heap.size:=by
 obtain⟨k,o,l,h1,h2,h3,h4,rfl⟩:=ho
 exact aIx hs h1 h2 h3 h4
theorem HS.update (hs:HS fo φ Im w h){k:Nat}{o:Ob}{φ':Lay}{Im':Nat->Prop}{w':World}
  (hup:∀ k l,φ k=some l->φ' k=some l) (hdom:∀ k',k'≠k->φ' k'=φ k')
  (hI:∀ g,Im g->Im' g) (hw:∀ g,Im g->w'.heap[g]? = w.heap[g]?)
  (hoth:∀ k' o' l,k'≠k->lk h k'=some o'->o'.mut=true->φ k'=some l->l.real=true->w'.heap[l.blk]? = w.heap[l.blk]?)
  (ho:RepOb fo φ' Im' w' k o)
  (hsep:∀ l,φ' k=some l->o.mut=true->l.real=true->¬Im' l.blk∧∀ k' o' l',k'≠k->lk h k'=some o'->o'.mut=true->φ k'=some l'->l'.real=true->l'.blk≠l.blk)
  (himm:∀ k' o' l',k'≠k->lk h k'=some o'->o'.mut=true->φ k'=some l'->l'.real=true->¬Im' l'.blk)
  (himb:∀ g,Im' g->g<w'.heap.size):HS fo φ' Im' w' ((k,o) :: h) where
 rep k1 o1 h1:=by
  rw[aAV]at h1
  split at h1
  · rename_i e;subst e;injection h1 with h1;subst h1;exact ho
  · rename_i e
    refine (hs.rep k1 o1 h1).keep hup hI hw fun l hl hm hr=>hoth k1 o1 l (fun e'=>e e'.symm) h1 hm hl hr
 sep k1 k2 o1 o2 l1 l2 h1 h2 m1 m2 p1 p2 r1 r2 hne:=by
  rw[aAV]at h1 h2
  split at h1
  · rename_i e;subst e;injection h1 with h1;subst h1
    rw[if_neg hne]at h2
    have hne':k2≠k:=fun e=>hne e.symm
    rw[hdom k2 hne']at p2
    exact fun e=>(hsep l1 p1 m1 r1).2 k2 o2 l2 hne' h2 m2 p2 r2 e.symm
  · rename_i e
    have e':k1≠k:=fun x=>e x.symm
    rw[hdom k1 e']at p1
    split at h2
    ·rename_i e2;subst e2;injection h2 with h2;subst h2
     exact (hsep l2 p2 m2 r2).2 k1 o1 l1 e' h1 m1 p1 r1
    ·rename_i e2
     rw[hdom k2 (fun x=>e2 x.symm)]at p2
     exact hs.sep k1 k2 o1 o2 l1 l2 h1 h2 m1 m2 p1 p2 r1 r2 hne
 imm g hg:=by
  obtain⟨k1,o1,l1,h1,m1,p1,r1,rfl⟩:=hg
  rw[aAV]at h1
  split at h1
  · rename_i e;subst e;injection h1 with h1;subst h1;exact (hsep l1 p1 m1 r1).1
  · rename_i e
    rw[hdom k1 (fun x=>e x.symm)]at p1
    exact himm k1 o1 l1 (fun x=>e x.symm) h1 m1 p1 r1
 imb:=himb
 dom k1 h1:=by
  rw[aAV]at h1
  split at h1
  · cases h1
  · rename_i e
    rw[hdom k1 (fun x=>e x.symm)]
    exact hs.dom k1 h1
 tb g o ho:=aH4 (hs.tb g o ho) (hI g) (hw g)
theorem Fr.refl (hs:HS fo φ Im w h):Fr fo w (Own φ h) Im φ Im w h:=
 ⟨hs,fun _ h=>h,fun _ _ _=>rfl,fun _ h=>.inl h,fun _ h=>.inl h,Nat.le_refl _,rfl,rfl,rfl⟩
theorem Stp.refl (hs:HS fo φ Im w h):Stp fo φ Im w h φ Im w h:=⟨.refl hs,fun _ _ h=>h⟩
theorem Fr.trans {w0:World}{Own0 Im0:Nat->Prop}{φ':Lay}{Im':Nat->Prop}{w':World}{h':aAR}(a:Fr fo w0 Own0 Im0 φ Im w h)(b:Fr fo w (Own φ h) Im φ' Im' w' h'):Fr fo w0 Own0 Im0 φ' Im' w' h' where
 hs:=b.hs
 im g hg:=b.im g (a.im g hg)
 frame g hg hn:=by
  have hno:¬Own φ h g:=fun ho=>(a.own g ho).elim hn (fun hle=>by omega)
  exact (b.frame g (Nat.lt_of_lt_of_le hg a.size) hno).trans (a.frame g hg hn)
 own g hg:=(b.own g hg).elim (a.own g) (fun hle=>.inr (Nat.le_trans a.size hle))
 imnew g hg:=(b.imnew g hg).elim (a.imnew g) (fun ho=>ho.elim (fun ho=>(a.own g ho).elim (fun x=>.inr (.inl x)) (fun x=>.inr (.inr x))) (fun hle=>.inr (.inr (Nat.le_trans a.size hle))))
 size:=Nat.le_trans a.size b.size
 os:=b.os.trans a.os
 tape:=b.tape.trans a.tape
 output:=b.output.trans a.output
theorem Stp.trans {φ1 φ2:Lay}{Im1 Im2:Nat->Prop}{w1 w2:World}{h1 h2:aAR}(a:Stp fo φ Im w h φ1 Im1 w1 h1)(b:Stp fo φ1 Im1 w1 h1 φ2 Im2 w2 h2):Stp fo φ Im w h φ2 Im2 w2 h2:=
 ⟨a.fr.trans b.fr,fun k l hl=>b.up k l (a.up k l hl)⟩
theorem Fr.imold {w0:World}{Own0 Im0:Nat->Prop}(a:Fr fo w0 Own0 Im0 φ Im w h)(h0:∀ g,Im0 g->g<w0.heap.size)(hn:∀ g,Im0 g->¬Own0 g):∀ g,Im0 g->w.heap[g]? = w0.heap[g]? :=
 fun g hg=>a.frame g (h0 g hg) (hn g hg)
theorem Stp.imold {φ':Lay}{Im':Nat->Prop}{w':World}{h':aAR}(a:Stp fo φ Im w h φ' Im' w' h')(hs:HS fo φ Im w h):∀ g,Im g->w'.heap[g]? = w.heap[g]? :=
 a.fr.imold hs.imb (fun g hg ho=>hs.imm g ho hg)
theorem RepD.stp {φ':Lay}{Im':Nat->Prop}{w':World}{h':aAR}{d:D}{x:Value}(r:RepD fo φ Im w d x)(hs:HS fo φ Im w h)(a:Stp fo φ Im w h φ' Im' w' h'):RepD fo φ' Im' w' d x:=
 r.mono a.up a.fr.im (a.imold hs)
theorem RepV.stp {φ':Lay}{Im':Nat->Prop}{w':World}{h':aAR}{u:V}{x:Value}(r:RepV fo Im w u x)(hs:HS fo φ Im w h)(a:Stp fo φ Im w h φ' Im' w' h'):RepV fo Im' w' u x:=
 r.mono a.fr.im (a.imold hs)
end heap
end Am
end Go.Proofs.YtkmbhgggpfbffaaGreatDoor
