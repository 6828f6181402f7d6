/- The iterator slices.Backward over nodes: what it hands out. -/
import Derived.RangeFuncNested
import Derived.RangeFuncBound
import Derived.RangeFuncCalls
import Derived.RangeFuncLeaves
import Derived.Shelf.Abstract
import Derived.Shelf.RegionOpen
import Derived.WalkKit
import Derived.OwnWalkIn
import Derived.TacticsInMore
import Derived.LoopNIn
import Derived.LoopIn
import Derived.Test.YtkmbhgggpfbffaaGreatDoorProg
set_option linter.unusedVariables false
set_option linter.unusedSimpArgs false
set_option linter.constructorNameAsVariable false
namespace Go.Proofs.YtkmbhgggpfbffaaGreatDoor
open Go.RowKit Go.Shelf
attribute [local go_sem] Oper.semAt_some
def KpB (m B:Nat)(W W':World):Prop:=Below m W W'∧W'.heap[B]? = W.heap[B]?
theorem KpB.trans {m B:Nat}{X Y Z:World}(h:KpB m B X Y)(h':KpB m B Y Z):KpB m B X Z:=⟨h.1.trans h'.1,h'.2.trans h.2⟩
def aPj (len k:Nat)(h:k<=len):List (Fin len):=(List.range k).attach.map fun j=>⟨len-1-j.1,by have:=List.mem_range.1 j.2;omega⟩
theorem aOJ (len k:Nat)(h:k+1<=len):aPj len (k+1) h=aPj len k (by omega)++[⟨len-1-k,by omega⟩]:=by
 apply List.ext_getElem
 ·simp[aPj]
 ·intro i h1 h2
  by_cases c:i<k
  ·rw[List.getElem_append_left (by simpa[aPj]using c)]
   simp[aPj]
  ·have:i=k:=by simp[aPj]at h1;omega
   subst this
   rw[List.getElem_append_right (by simp[aPj])]
   simp[aPj]
theorem aPW (len k:Nat)(h:k<=len):(aPj len k h).length=k:=by simp[aPj]
set_option maxRecDepth 100000 in
set_option maxHeartbeats 2000000 in
theorem aYJ (F:Fence)(n:Nat)(hf:F.fn 347)(hro:F.round=none)(hn:1<=n)(l Bs m b off len cap:Nat)(v0 v1 v2 v3:Nat->Value)(hlen:len<=1000000)(hb:b<m)(J Jx:List (Fin len)->World->Prop)
  (hY:∀ pre (x:Fin len) W,J pre W->pre.length<len->YieldAt F (n-1) Tryz.prog l #[.int .i64 (x.1:Int),.agg #[v0 x.1,v1 x.1,v2 x.1,v3 x.1]] W fun e W'=>
    (e=.returned (.bool true)∧J (pre++[x]) W'∧KpB m Bs W W')∨(e=.returned (.bool false)∧Jx (pre++[x]) W'))
  (W:World) (hBs:W.cell? ⟨Bs,0,none⟩=some (.slice (some ⟨b,off,none⟩) len cap)) (hc:∀ j,j<len->W.cell? ⟨b,off+j*4,none⟩=some (v0 j)∧W.cell? ⟨b,off+j*4+1,none⟩=some (v1 j)∧W.cell? ⟨b,off+j*4+2,none⟩=some (v2 j)∧W.cell? ⟨b,off+j*4+3,none⟩=some (v3 j)) (h0:J [] W) :
  CallsIn F n Tryz.prog 347 #[.func (.yield l) #[] #[],.pointer (some ⟨Bs,0,none⟩)] W fun e W'=>(∃ v,e=.returned v) ∧
    ((∃ ys,ys=aPj len len (Nat.le_refl _)∧J ys W')∨(∃ pre,True∧Jx pre W')):=by
 refine callsIn_of_wp Tryz.func347 rfl hf ?_ hro
 simp only[Tryz.ntmps347,List.size_toArray,List.length_cons,List.length_nil,Nat.reduceAdd,Nat.reduceSub,Array.replicate_succ,Array.replicate_zero,List.push_toArray,List.append_toArray,List.nil_append,List.cons_append]
 gi_wp2
 gi_loopw [3] (fun i wr=>∃ k:Nat,∃ h:k<=len,i=.int .i64 ((len:Int)-1-k)∧J (aPj len k h) wr∧KpB m Bs W wr)
  (fun i _=>(intOf i+1).toNat)
 case atStart=>exact⟨0,Nat.zero_le _,by simp,h0,Below.refl _ _,rfl⟩
 case round=>
  obtain⟨k,hk,rfl,hJs,hnx⟩:=hrel
  have hBs':wr.cell? ⟨Bs,0,none⟩=some (.slice (some ⟨b,off,none⟩) len cap):=by
    have:wr.cell? ⟨Bs,0,none⟩=W.cell? ⟨Bs,0,none⟩:=by simp only[World.cell?,hnx.2]
    rw[this];exact hBs
  by_cases hlt:k<len
  · obtain⟨fn,tmps,assign,body,hy,hR⟩:=hY _ ⟨len-1-k,by omega⟩ wr hJs (by rw[aPW];exact hlt)
    dsimp only at hy
    have hcx:=hc (len-1-k) (by omega)
    have hc0:=(hnx.1.cell (p:=⟨b,off+(len-1-k)*4,none⟩) hb).trans hcx.1
    have hc1:=(hnx.1.cell (p:=⟨b,off+(len-1-k)*4+1,none⟩) hb).trans hcx.2.1
    have hc2:=(hnx.1.cell (p:=⟨b,off+(len-1-k)*4+2,none⟩) hb).trans hcx.2.2.1
    have hc3:=(hnx.1.cell (p:=⟨b,off+(len-1-k)*4+3,none⟩) hb).trans hcx.2.2.2
    have hi:(len:Int)-1-k=((len-1-k:Nat):Int):=by omega
    rw[hi]
    gi_wp2
    refine hR.mono ?_
    rintro e W3 (⟨rfl,hJ3,hk3⟩ | ⟨rfl,hJx3⟩)
    · gi_wp2
      go_roundw
      case rel=>exact⟨k+1,by omega,by simp;omega,by rw[aOJ len k (by omega)];exact hJ3,hnx.trans hk3⟩
      case measure=>first | (simp[intOf];done) | (simp[intOf];omega)
    · gi_wp2
      refine bodyPost_ret (results_none rfl _ _ _) rfl ?_
      exact⟨⟨_,rfl⟩,.inr ⟨_,trivial,hJx3⟩⟩
  · obtain rfl:k=len:=by omega
    gi_wp2
    go_end0
    exact⟨⟨_,rfl⟩,.inl ⟨_,rfl,hJs⟩⟩
end Go.Proofs.YtkmbhgggpfbffaaGreatDoor
