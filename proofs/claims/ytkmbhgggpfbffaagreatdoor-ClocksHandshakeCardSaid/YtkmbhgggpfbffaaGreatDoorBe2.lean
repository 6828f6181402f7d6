/- graph.below: which nodes lie below some nodes, by its contract. -/
import Derived.Test.YtkmbhgggpfbffaaGreatDoorBe1
set_option linter.unusedVariables false
set_option linter.unusedSimpArgs false
set_option linter.constructorNameAsVariable false
namespace Go.Proofs.YtkmbhgggpfbffaaGreatDoor
open Go.RowKit Go.Shelf
attribute [local go_sem] Oper.semAt_some
def Blk (W:World)(B:Nat)(t:TypeId)(c:Array Value):Prop:=W.heap[B]? = some (.cells c t (0,0))
theorem Blk.lt {W:World}{B:Nat}{t:TypeId}{c:Array Value}(h:Blk W B t c):B<W.heap.size:=(Array.getElem?_eq_some_iff.1 h).1
theorem Blk.cell {W:World}{B:Nat}{t:TypeId}{c:Array Value}(h:Blk W B t c)(i:Nat):W.cell? ⟨B,i,none⟩=c[i]? := by simp[World.cell?,show W.heap[B]? = _ from h]
theorem Blk.frozen {W:World}{B:Nat}{t:TypeId}{c:Array Value}(h:Blk W B t c)(i:Nat):W.frozen? ⟨B,i,none⟩=false:=by simp[World.frozen?,show W.heap[B]? = _ from h]
theorem Blk.new (W:World)(t:TypeId)(c:Array Value):Blk (W.alloc (.cells c t)) W.heap.size t c:=World.alloc_heap_new W _
theorem Blk.kept {W W':World}{row:Option Nat}{B:Nat}{t:TypeId}{c:Array Value}(h:Blk W B t c)(hg:W.grownBy W' row)(hne:some B≠row):Blk W' B t c:=(hg.block B h.lt hne).trans h
theorem Blk.alloc {W:World}{B:Nat}{t:TypeId}{c:Array Value}(h:Blk W B t c)(o:Obj):Blk (W.alloc o) B t c:=h.kept (World.grownBy_alloc W o none) (by simp)
theorem Blk.set {W:World}{B i:Nat}{t:TypeId}{c:Array Value}(v:Value)(h:Blk W B t c):Blk (W.setCell ⟨B,i,none⟩ v) B t (c.setIfInBounds i v):=by
 obtain⟨hlt,hk⟩:=Array.getElem?_eq_some_iff.1 h
 show (W.heap.modify B _)[B]? = _
 rw[Array.getElem?_eq_getElem (by rw[Array.size_modify];exact hlt),Array.getElem_modify_self,hk]
 rfl
theorem Blk.setO {W:World}{B B' i:Nat}{t:TypeId}{c:Array Value}(v:Value)(h:Blk W B t c)(hne:B'≠B):Blk (W.setCell ⟨B',i,none⟩ v) B t c:=by
 show (W.heap.modify B' _)[B]? = _
 rw[Array.getElem?_modify,if_neg hne]
 exact h
theorem aNM {β:Type}(B:Nat)(t:TypeId)(f:β->Array Value):Own (fun s W=>Blk W B t (f s)):=fun s X Y row hs hg hrow=>
 hs.kept hg (fun e'=>by obtain⟨o,ho,hc⟩:=hrow B e'.symm;rw[show X.heap[B]? = _ from hs]at ho;cases ho;cases hc)
set_option maxHeartbeats 1000000 in
theorem bGl (F:Fence)(n:Nat)(hf:F.fn 345)(hro:F.round=none)(a:Option Addr)(len cap:Nat)(w:World) :
  CallsIn F n Tryz.prog 345 #[.slice a len cap] w fun e w'=>e=.returned (.func (.func 347) #[] #[.pointer (some ⟨w.heap.size,0,none⟩)])∧w'=w.alloc (.cells #[.slice a len cap] 26):=by
 refine callsIn_of_wp Tryz.func345 rfl hf ?_ hro
 simp only[Tryz.ntmps345,List.size_toArray,List.length_cons,List.length_nil,Nat.reduceAdd,Nat.reduceSub,Array.replicate_succ,Array.replicate_zero,List.push_toArray,List.append_toArray,List.nil_append,List.cons_append]
 gi_wp2
 go_ret
 exact⟨rfl,rfl⟩
def aIZ (l:List Bool):Array Value:=(l.map Value.bool).toArray
theorem aKr {l:List Bool}{i:Nat}(h:i<l.length):(aIZ l)[i]? = some (.bool l[i]):=by simp[aIZ,h]
theorem aON (l:List Bool)(i:Nat)(b:Bool):(aIZ l).setIfInBounds i (.bool b)=aIZ (l.set i b):=by
 unfold aIZ
 rw[List.setIfInBounds_toArray,List.map_set]
theorem aVh:(Tryz.prog.info? 4).map (fun i=>(i.zero,i.size,i.bytes))=some (some (.bool false),1,1):=by kernel_rfl
theorem aWR (n:Nat):madeCells (Value.bool false).cells n=aIZ (List.replicate n false):=by
 have:(Value.bool false).cells=#[.bool false]:=rfl
 rw[this]
 apply Array.ext_getElem?
 intro i
 unfold aIZ madeCells
 by_cases h:i<n
 ·simp[h,Nat.mod_one]
 ·simp[h]
theorem aRh (w:World)(len:Nat)(h:len<=1000000):(Instr.makeSlice 267 (.int .i64 (len:Int)) (.int .i64 (len:Int))).run Tryz.prog w=.ok (.slice (some ⟨w.heap.size,0,none⟩) len len) (w.alloc (.cells (aIZ (List.replicate len false)) 4)):=by
 obtain⟨i,hi,hz0,hz1,hz2⟩:=info_parts aVh
 have:=run_make (P:=Tryz.prog) w 267 4 i (.bool false) (by kernel_rfl) hi hz0 .i64 .i64 (len:Int) (len:Int) (by omega) (by omega) (by rw[hz2];omega) (by omega)
 rw[this,Int.toNat_natCast,hz1,Nat.mul_one,aWR]
def aGR (out:List Bool):List Int->List Bool
 | []=>out
 | a :: r=>aGR (out.set a.toNat true) r
def aFM (k:Nat)(out:List Bool):List Int->List Bool
 | []=>out
 | a :: r=>aFM k (out.set a.toNat ((out[a.toNat]?).getD false||(out[k]?).getD false)) r
theorem aHC:∀ (l:List Int) (out:List Bool),(aGR out l).length=out.length
 | [],out=>rfl
 | a :: r,out=>by unfold aGR;rw[aHC r];simp
theorem aH7 (k:Nat):∀ (l:List Int) (out:List Bool),(aFM k out l).length=out.length
 | [],out=>rfl
 | a :: r,out=>by unfold aFM;rw[aH7 k r];simp
theorem aN3 {len:Nat}(ar:Nat->List Int):∀ (l:List (Fin len)) (out:List Bool),(l.foldl (fun o k=>aFM k.1 o (ar k.1)) out).length=out.length
 | [],out=>rfl
 | k :: r,out=>by rw[List.foldl_cons,aN3 ar r,aH7]
theorem aOX:∀ (l m:List Int) (out:List Bool),aGR out (l++m)=aGR (aGR out l) m
 | [],m,out=>rfl
 | a :: r,m,out=>aOX r m _
theorem aPd (k:Nat):∀ (l m:List Int) (out:List Bool),aFM k out (l++m)=aFM k (aFM k out l) m
 | [],m,out=>rfl
 | a :: r,m,out=>aPd k r m _
theorem aO2 {l:List Int}{k:Nat}(h:k<l.length):l.take (k+1)=l.take k++[l[k]]:=(List.take_append_getElem h).symm
set_option maxRecDepth 100000 in
set_option maxHeartbeats 1000000 in
theorem aOZ (F:Fence)(n:Nat)(hf:F.fn 347)(hro:F.round=none)(l Bs:Nat)(a:Option Addr)(cap:Nat)(J:List (Fin 0)->World->Prop)(W:World)(hBs:W.cell? ⟨Bs,0,none⟩=some (.slice a 0 cap))(h0:J [] W) :
  CallsIn F n Tryz.prog 347 #[.func (.yield l) #[] #[],.pointer (some ⟨Bs,0,none⟩)] W fun e W'=>(∃ v,e=.returned v)∧J [] W':=by
 refine callsIn_of_wp Tryz.func347 rfl hf ?_ hro
 simp only[Tryz.ntmps347,List.size_toArray,List.length_cons,List.length_nil,Nat.reduceAdd,Nat.reduceSub,Array.replicate_succ,Array.replicate_zero,List.push_toArray,List.append_toArray,List.nil_append,List.cons_append]
 gi_wp2
 gi_loopw [3] (fun i wr=>i=.int .i64 (-1)∧J [] wr) (fun _ _=>0)
 case atStart=>exact⟨rfl,h0⟩
 case round=>
  obtain⟨rfl,hJs⟩:=hrel
  gi_wp2
  go_end0
  exact⟨⟨_,rfl⟩,hJs⟩
def ndE (v0 v1 v2 v3:Nat->Value)(x:Nat):Array Value:=#[.int .i64 (x:Int),.agg #[v0 x,v1 x,v2 x,v3 x]]
theorem aRF (n:Nat)(hn:1<=n)(m Bs:Nat)(an:Option Addr)(len cap:Nat)(v0 v1 v2 v3:Nat->Value)(hlen:len<=1000000)(w0:World)(t:TypeId)(hBs:Blk w0 Bs t #[.slice an len cap])(hm:m<=w0.heap.size)
  (hN:len≠0->∃ b off,an=some ⟨b,off,none⟩∧b<m∧∀ j,j<len->w0.cell? ⟨b,off+j*4,none⟩=some (v0 j)∧w0.cell? ⟨b,off+j*4+1,none⟩=some (v1 j)∧w0.cell? ⟨b,off+j*4+2,none⟩=some (v2 j)∧w0.cell? ⟨b,off+j*4+3,none⟩=some (v3 j)) :
  SeqStopsK Fence.wide n Tryz.prog 347 #[.pointer (some ⟨Bs,0,none⟩)] (fun x:Fin len=>ndE v0 v1 v2 v3 x.1) (KpB m Bs) (fun ys=>ys=aPj len len (Nat.le_refl _)) (fun _=>True) len w0:=fun l J Jx W hW _ _ hY h0=>by
 have hc':W.cell? ⟨Bs,0,none⟩=some (.slice an len cap):=by
  have:=(hW.cell (p:=⟨Bs,0,none⟩) hBs.lt).trans (hBs.cell 0)
  simpa using this
 by_cases hz:len=0
 ·subst hz
  exact (aOZ Fence.wide n trivial rfl l Bs an cap J W hc' h0).mono fun e W' ⟨he,hj⟩=>⟨he,.inl ⟨_,rfl,hj⟩⟩
 ·obtain⟨b,off,rfl,hb,hcs⟩:=hN hz
  have hcell:∀ k,W.cell? ⟨b,k,none⟩=w0.cell? ⟨b,k,none⟩:=fun k=>hW.cell (p:=⟨b,k,none⟩) (by show b<_;omega)
  exact aYJ Fence.wide n trivial rfl hn l Bs m b off len cap v0 v1 v2 v3 hlen hb J Jx hY W hc' (fun j hj=>by simpa only[hcell]using hcs j hj) h0
def bD3 (ops:Array Oper):Bool:=ops.toList.all fun o=>match o.op with
 | .defer _=>false
 | _=>true
theorem aKj {ops:Array Oper}(h:bD3 ops=true)(i:Nat)(o:Oper)(hi:ops[i]? = some o)(c:Call):o.op≠.defer c:=fun e=>by
 have:=List.all_eq_true.1 h o (List.mem_of_getElem? (by rw[Array.getElem?_toList];exact hi))
 rw[e]at this;cases this
theorem aNX {F:Fence}{n:Nat}{P:Program}{ops:Array Oper}{Q:Exit->Act->World->Prop}(l0:Nat)(hro:F.round=none)(hd:∀ (i:Nat) (o:Oper),ops[i]? = some o->∀ c,o.op≠.defer c){i:Nat}{K K':Act->World->Prop}(hK:∀ a w,K a w->K' a w){a:Act}{w:World}
  (h:wpOpIn F n P ops Q i K a w):wpOpIn (F.inRound l0) n P ops Q i K' a w:=by
 have h:=wpOpIn_mono hK h
 unfold wpOpIn at h ⊢
 split at h
 ·exact h
 ·rename_i o ho
  split at h
  · rename_i hw
    rw[if_pos hw]
    refine⟨h.1,?_⟩
    have h2:=h.2
    rw[hro,Oper.semAt_none]at h2
    rw[show (F.inRound l0).round=some l0 from rfl,Oper.semAt_some l0 _ o (hd i o ho)]
    exact h2
  · rename_i hw
    rw[if_neg hw]
    exact h
theorem aHG {F:Fence}{n:Nat}{P:Program}{md:Region.Mode}{ops:Array Oper}{Q:Exit->Act->World->Prop}(l0:Nat)(hro:F.round=none)(hd:∀ (i:Nat) (o:Oper),ops[i]? = some o->∀ c,o.op≠.defer c):∀ (fuel:Nat) (listed:Array Bool) (a:Act) (w:World),
  wpAnyIn F n P md ops Q fuel listed a w->wpAnyIn (F.inRound l0) n P md ops Q fuel listed a w
 | 0,_,_,_,h=>h
 | fuel+1,listed,a,w,h=>⟨h.1,fun i hi=>aNX l0 hro hd (fun a w h=>aHG l0 hro hd fuel _ a w h) (h.2 i hi)⟩
theorem aXK {k:Nat}(h:k<=2000000):Value.int IntKind.i64 (wrap64 ((k:Int)+1))=Value.int IntKind.i64 ((k+1:Nat):Int):=by
 have:wrap64 ((k:Int)+1)=((k+1:Nat):Int):=by unfold wrap64;omega
 rw[this]
theorem aKk {k m:Nat}(h:k<m)(h2:k<=2000000):m-(intOf (Value.int IntKind.i64 (wrap64 ((k:Int)+1)))).toNat<m-(intOf (Value.int IntKind.i64 (k:Int))).toNat:=by
 rw[aXK h2]
 simp only[intOf]
 omega
end Go.Proofs.YtkmbhgggpfbffaaGreatDoor
