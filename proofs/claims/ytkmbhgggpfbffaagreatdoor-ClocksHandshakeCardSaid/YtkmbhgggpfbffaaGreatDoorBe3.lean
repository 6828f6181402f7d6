/- graph.below by its contract: the walk. -/
import Derived.Test.YtkmbhgggpfbffaaGreatDoorBe2
set_option linter.unusedVariables false
set_option linter.unusedSimpArgs false
set_option linter.constructorNameAsVariable false
namespace Go.Proofs.YtkmbhgggpfbffaaGreatDoor
open Go.RowKit Go.Shelf
attribute [local go_sem] Oper.semAt_some
set_option maxRecDepth 100000 in
set_option maxHeartbeats 4000000 in
theorem aYw (n:Nat)(hn:6<=n)(an af:Option Addr)(len cn cf:Nat)(o0 o1 o3:Nat->Int)(ad:Nat->Option Addr)(ca:Nat->Nat)(ar:Nat->List Int)(fr:List Int)(w:World)(hlen:len<=1000000)
  (hN:len≠0->∃ b off,an=some ⟨b,off,none⟩∧b<w.heap.size∧∀ j,j<len->w.cell? ⟨b,off+j*4,none⟩=some (.int .i64 (o0 j))∧w.cell? ⟨b,off+j*4+1,none⟩=some (.int .i64 (o1 j))∧w.cell? ⟨b,off+j*4+2,none⟩=some (.slice (ad j) (ar j).length (ca j))∧w.cell? ⟨b,off+j*4+3,none⟩=some (.int .i64 (o3 j)))
  (hA:∀ j,j<len->(ar j)≠[]->∃ g o,ad j=some ⟨g,o,none⟩∧g<w.heap.size∧∀ i (h:i<(ar j).length),w.cell? ⟨g,o+i,none⟩=some (.int .i64 (ar j)[i]))
  (hF:fr≠[]->∃ g o,af=some ⟨g,o,none⟩∧g<w.heap.size∧∀ i (h:i<fr.length),w.cell? ⟨g,o+i,none⟩=some (.int .i64 fr[i]))
  (hfl:fr.length<=1000000) (hal:∀ j,j<len->(ar j).length<=1000000) (hfv:∀ x,x∈fr->0<=x∧x<len) (hav:∀ j,j<len->∀ x,x∈ar j->0<=x∧x<len) :
  CallsIn Fence.wide n Tryz.prog 334 #[.slice an len cn,.slice af fr.length cf] w fun e W'=>∃ B,w.heap.size<=B∧e=.returned (.slice (some ⟨B,0,none⟩) len len)∧Blk W' B 4 (aIZ ((aPj len len (Nat.le_refl _)).foldl (fun o k=>aFM k.1 o (ar k.1)) (aGR (List.replicate len false) fr)))∧Below w.heap.size w W':=by
 have h1:1<=n:=by omega
 refine callsIn_of_wp_marks Tryz.func334 rfl trivial ?_ rfl
 simp only[Tryz.ntmps334,List.size_toArray,List.length_cons,List.length_nil,Nat.reduceAdd,Nat.reduceSub,Array.replicate_succ,Array.replicate_zero,List.push_toArray,List.append_toArray,List.nil_append,List.cons_append]
 have hmk:=aRh w len hlen
 gi_wp2
 gi_loopw [17] (fun i wr=>∃ k:Nat,k<=fr.length∧i=.int .i64 (k:Int)∧Blk wr (w.heap.size+1) 267 #[.slice (some ⟨w.heap.size,0,none⟩) len len]∧Blk wr w.heap.size 4 (aIZ (aGR (List.replicate len false) (fr.take k)))∧Below w.heap.size w wr)
  (fun i _=>fr.length-(intOf i).toNat)
 case atStart=>
  refine⟨0,Nat.zero_le _,rfl,?_,?_,?_⟩
  · have:=Blk.new (w.alloc (.cells (aIZ (List.replicate len false)) 4)) 267 #[.slice (some ⟨w.heap.size,0,none⟩) len len]
    rwa [World.size_alloc]at this
  · exact (Blk.new w 4 (aIZ (List.replicate len false))).alloc _
  · exact ((Below.refl _ w).alloc (Nat.le_refl _) _).alloc (by simp) _
 case round=>
  obtain⟨k,hk,rfl,hb1,hb2,hbw⟩:=hrel
  by_cases hlt:k<fr.length
  · obtain⟨g,o,rfl,hg,hcs⟩:=hF (by intro e;rw[e]at hlt;simp at hlt)
    have hcf:=(hbw.cell (p:=⟨g,o+k,none⟩) hg).trans (hcs k hlt)
    have hx:=hfv _ (List.getElem_mem hlt)
    have hbx:=hb1.cell 0
    have hbz:=hb2.frozen
    obtain⟨x,hxe⟩:∃ x:Nat,fr[k]=(x:Int):=⟨fr[k].toNat,by omega⟩
    rw[hxe]at hcf hx
    have hxl:x<len:=by omega
    have hbc:=hb2.cell x
    have hbl:x<(aGR (List.replicate len false) (fr.take k)).length:=by rw[aHC,List.length_replicate];exact hxl
    rw[aKr hbl]at hbc
    have hbf:=hb2.frozen x
    simp only[List.getElem?_toArray,List.getElem?_cons_zero]at hbx
    gi_wp2
    refine⟨⟨k+1,by omega,by simp,hb1.setO _ (by omega),?_,hbw.setCell (p:=⟨w.heap.size,x,none⟩) (Nat.le_refl _) _⟩,by simp[intOf];omega⟩
    rw[aO2 hlt,aOX]
    have:=hb2.set (i:=x) (.bool true)
    rw[aON]at this
    rw[hxe]
    exact this
  · obtain rfl:k=fr.length:=by omega
    rw[List.take_length]at hb2
    gi_wp2_with (refine⟨trivial,?_⟩;gi_at_call 345;refine (bGl Fence.wide (n-1) trivial rfl _ _ _ _).mono ?_;rintro e w' ⟨rfl,rfl⟩)
    have bN:=Blk.new wr 26 #[.slice an len cn]
    have hsz:=hbw.size
    have c1:=hb1.alloc (.cells #[.slice an len cn] 26)
    have c2:=hb2.alloc (.cells #[.slice an len cn] 26)
    have hB0:=hbw.alloc hsz (.cells #[.slice an len cn] 26)
    have hsz0:(wr.alloc (.cells #[.slice an len cn] 26)).heap.size=wr.heap.size+1:=by simp
    obtain⟨W0,hW0⟩:∃ W0,wr.alloc (.cells #[.slice an len cn] 26)=W0:=⟨_,rfl⟩
    rw[hW0]at bN c1 c2 hB0 hsz0 ⊢
    clear hW0
    have hl1:=hb1.lt
    obtain⟨m1,hm1⟩:∃ m1,wr.heap.size=m1:=⟨_,rfl⟩
    rw[hm1]at bN hsz hsz0 hl1 ⊢
    have hN0:len≠0->∃ b off,an=some ⟨b,off,none⟩∧b<w.heap.size∧∀ j,j<len->W0.cell? ⟨b,off+j*4,none⟩=some (.int .i64 (o0 j))∧W0.cell? ⟨b,off+j*4+1,none⟩=some (.int .i64 (o1 j))∧W0.cell? ⟨b,off+j*4+2,none⟩=some (.slice (ad j) (ar j).length (ca j))∧W0.cell? ⟨b,off+j*4+3,none⟩=some (.int .i64 (o3 j)):=fun h=>by
     obtain⟨b,off,e,hb,hc⟩:=hN h
     have hcell:∀ k,W0.cell? ⟨b,k,none⟩=w.cell? ⟨b,k,none⟩:=fun k=>hB0.cell (p:=⟨b,k,none⟩) hb
     exact⟨b,off,e,hb,fun j hj=>by simpa only[hcell]using hc j hj⟩
    refine wpIn_rangeFunc_ownH (α:=Fin len) rfl h1 (gf:=347) (lb:=#[.pointer (some ⟨m1,0,none⟩)]) rfl trivial (enters_of Tryz.func347 (by kernel_rfl) rfl)
     (aRF (n-1) (by omega) w.heap.size m1 an len cn (fun j=>.int .i64 (o0 j)) (fun j=>.int .i64 (o1 j)) (fun j=>.slice (ad j) (ar j).length (ca j)) (fun j=>.int .i64 (o3 j)) hlen W0 26 bN (by omega) hN0) (fun h k=>h.trans k)
     (fun W l o o' hl ho h3 h4=>⟨belowK_b (w:=W0) (by omega) W l o o' hl ho h3 h4,World.putObj_heap_other (by omega)⟩) (Below.refl _ _) (fun _=>rfl)
     (fun pre W=>(Blk W (w.heap.size+1) 267 #[.slice (some ⟨w.heap.size,0,none⟩) len len]∧Blk W w.heap.size 4 (aIZ (pre.foldl (fun o k=>aFM k.1 o (ar k.1)) (aGR (List.replicate len false) fr))))∧(Blk W m1 26 #[.slice an len cn]∧Below w.heap.size w W))
     (fun _ _ _=>False)
     (OwnFrom.and (OwnFrom.and (Own.from (aNM _ _ _) _) (Own.from (aNM _ _ _) _)) (OwnFrom.and (Own.from (aNM _ _ _) _) (ownFrom_below (Nat.le_refl _) (by omega))))
     (fun _ _ _ _ _ hs _ _=>hs)
     ⟨⟨c1,c2⟩,bN,hB0⟩
     (fun x a' W=>∃ Bx,m1<Bx∧Blk W Bx 167 #[.int .i64 (o0 x.1),.int .i64 (o1 x.1),.slice (ad x.1) (ar x.1).length (ca x.1),.int .i64 (o3 x.1)]∧a'={ tmps:=#[Value.slice an len cn,Value.slice af fr.length cf,undef,undef,Value.slice none 0 0,Value.pointer (some ⟨w.heap.size+1,0,none⟩),undef,u7,.int .i64 (x.1:Int),.pointer (some ⟨Bx,0,none⟩),undef,undef,Value.slice an len cn,Value.int IntKind.i64 (len:Int),Value.slice (some ⟨w.heap.size,0,none⟩) len len,Value.slice af fr.length cf,Value.int IntKind.i64 (fr.length:Int),Value.int IntKind.i64 (fr.length:Int),Value.bool false,u19,u20,u21,u22,u23,u24,Value.slice an len cn,Value.func (Fn.func 347) #[] #[Value.pointer (some ⟨m1,0,none⟩)],.int .i64 (x.1:Int),.agg #[.int .i64 (o0 x.1),.int .i64 (o1 x.1),.slice (ad x.1) (ar x.1).length (ca x.1),.int .i64 (o3 x.1)],undef,undef,undef,undef,undef,undef,undef,undef,undef,undef,undef,undef,undef,undef,undef,undef,undef,undef,undef,undef,undef,undef],defers:=[] })
     (fun x a' _ X Y row hs hg hr=>by obtain⟨Bx,h1,h2,h3⟩:=hs;exact⟨Bx,h1,aNM Bx 167 (fun (_:Unit)=>_) () X Y row h2 hg (fun r e=>(hr r e).2),h3⟩)
     ?assign ?body ?done ?stop
    case assign=>
     rintro l pre x W K ⟨⟨d1,d2⟩,d3,hB1⟩ hK
     unfold ndE
     gi_wp2
     exact hK _ _ ((KeepsOthers.alloc _ _).from _) ⟨(Below.refl _ W).alloc hB1.size _,Below.heap_alloc W _ m1 d3.lt⟩ ⟨⟨d1.alloc _,d2.alloc _⟩,d3.alloc _,hB1.alloc hB1.size _⟩ ⟨W.heap.size,d3.lt,Blk.new W 167 _,rfl⟩
    case body=>
     rintro l pre x a' W hl ⟨r,hr⟩ ⟨⟨d1,d2⟩,d3,hB1⟩ ⟨Bx,hBx,bX,rfl⟩ hlt'
     have x2:=bX.cell 2
     simp only[List.getElem?_toArray,List.getElem?_cons_zero,List.getElem?_cons_succ]at x2
     obtain⟨cur,hcur⟩:∃ cur,List.foldl (fun o k=>aFM k.1 o (ar k.1)) (aGR (List.replicate len false) fr) pre=cur:=⟨_,rfl⟩
     have hcl:cur.length=len:=by
       rw[<- hcur,aN3,aHC,List.length_replicate]
     rw[hcur]at d2
     have hxl:=x.2
     gi_wp2
     gi_loopw [32] (fun i wr=>∃ k:Nat,k<=(ar x.1).length∧i=.int .i64 (k:Int)∧Blk wr (w.heap.size+1) 267 #[.slice (some ⟨w.heap.size,0,none⟩) len len]∧Blk wr w.heap.size 4 (aIZ (aFM x.1 cur ((ar x.1).take k)))∧Below w.heap.size W wr∧wr.heap[m1]? = W.heap[m1]? ∧ KeepsFrom W0.heap.size W wr)
       (fun i _=>(ar x.1).length-(intOf i).toNat)
     case atStart=>exact⟨0,Nat.zero_le _,rfl,d1,d2,Below.refl _ _,rfl,KeepsFrom.refl _ _⟩
     case round=>
       obtain⟨k,hk,rfl,hb1,hb2,hbw,hbB,hbK⟩:=hrel
       have hbx:=hb1.cell 0
       simp only[List.getElem?_toArray,List.getElem?_cons_zero]at hbx
       by_cases hlt:k<(ar x.1).length
       · obtain⟨g,o,hge,hg,hcs⟩:=hA x.1 hxl (by intro e;rw[e]at hlt;simp at hlt)
         have hcf:=(hB1.trans hbw).cell (p:=⟨g,o+k,none⟩) hg |>.trans (hcs k hlt)
         have hx:=hav x.1 hxl _ (List.getElem_mem hlt)
         obtain⟨y,hye⟩:∃ y:Nat,(ar x.1)[k]=(y:Int):=⟨(ar x.1)[k].toNat,by omega⟩
         rw[hye]at hcf hx
         have hyl:y<len:=by omega
         have hsl:(aFM x.1 cur ((ar x.1).take k)).length=len:=by rw[aH7,hcl]
         have hby:=hb2.cell y
         rw[aKr (by rw[hsl];exact hyl)]at hby
         have hbk:=hb2.cell x.1
         rw[aKr (by rw[hsl];exact hxl)]at hbk
         have hfy:=hb2.frozen y
         have hset:=hb2.set (i:=y) (.bool ((aFM x.1 cur ((ar x.1).take k))[y]'(by rw[hsl];exact hyl)||(aFM x.1 cur ((ar x.1).take k))[x.1]'(by rw[hsl];exact hxl)))
         rw[aON]at hset
         have hnext:aFM x.1 cur ((ar x.1).take (k+1))=(aFM x.1 cur ((ar x.1).take k)).set y ((aFM x.1 cur ((ar x.1).take k))[y]'(by rw[hsl];exact hyl)||(aFM x.1 cur ((ar x.1).take k))[x.1]'(by rw[hsl];exact hxl)):=by
          rw[aO2 hlt,aPd,hye]
          show (List.set _ _ _)=_
          rw[Int.toNat_natCast,List.getElem?_eq_getElem (by rw[hsl];exact hyl),List.getElem?_eq_getElem (by rw[hsl];exact hxl)]
          rfl
         rw[<- hnext]at hset
         have hset1:∀ b,Blk (wr.setCell ⟨w.heap.size,y,none⟩ (.bool b)) (w.heap.size+1) 267 #[.slice (some ⟨w.heap.size,0,none⟩) len len]:=fun b=>hb1.setO _ (by omega)
         rw[hge]
         cases hv1:(aFM x.1 cur ((ar x.1).take k))[y]'(by rw[hsl];exact hyl)
         ·obtain⟨b2,hb2e⟩:∃ b2,(aFM x.1 cur ((ar x.1).take k))[x.1]'(by rw[hsl];exact hxl)=b2:=⟨_,rfl⟩
          rw[hv1]at hby hset
          rw[hb2e]at hbk hset
          rw[Bool.false_or]at hset
          gi_wp2
          refine wpIn_region_any (by kernel_rfl) (aHG l rfl (aKj (by kernel_rfl)) _ _ _ _ ?_)
          try (change wpAnyIn _ _ _ _ _ _ _ _ _ (World.drew _))
          refine wpAnyIn_take (i:=1) (v:=?_) rfl rfl (by kernel_rfl) (by kernel_rfl) (by kernel_rfl) (fun _ _ _ h=>h) ⟨Or.inl ⟨by rfl,?_⟩,fun _=>rfl⟩ ?_
          rotate_left
          ·(intro w;go_simp;try with_reducible rfl)
          refine wpAnyIn_take (i:=3) (v:=?_) rfl rfl (by kernel_rfl) (by kernel_rfl) (by kernel_rfl) (fun _ _ _ h=>h) ⟨Or.inl ⟨by rfl,?_⟩,fun _=>rfl⟩ ?_
          rotate_left
          ·(intro w;go_simp;try with_reducible rfl)
          refine wpAnyIn_ready (rs:=[0,2]) (by kernel_rfl) (by simp) (AllReadyIn.cons rfl (fun K hK=>?_) (AllReadyIn.cons rfl (fun K hK=>?_) AllReadyIn.nil))
          ·go_simp
           refine hK _ _ ?_
           clear hK K
           refine wpAnyIn_ready (rs:=[2]) (by kernel_rfl) (by simp) (AllReadyIn.cons rfl (fun K hK=>?_) AllReadyIn.nil)
           · go_simp
             refine hK _ _ ?_
             clear hK K
             refine wpAnyIn_take (i:=4) (v:=?_) rfl rfl (by kernel_rfl) (by kernel_rfl) (by kernel_rfl) (fun _ _ _ h=>h) ⟨Or.inl ⟨by rfl,?_⟩,fun _=>rfl⟩ ?_
             rotate_left
             · (intro w;go_simp;try with_reducible rfl)
             refine wpAnyIn_ready (rs:=[5]) (by kernel_rfl) (by simp) (AllReadyIn.cons rfl (fun K hK=>?_) AllReadyIn.nil)
             · go_simp
               refine hK _ _ ?_
               clear hK K
               refine wpAnyIn_take (i:=6) (v:=?_) rfl rfl (by kernel_rfl) (by kernel_rfl) (by kernel_rfl) (fun _ _ _ h=>h) ⟨Or.inl ⟨by rfl,?_⟩,fun _=>rfl⟩ ?_
               rotate_left
               · (intro w;go_simp;try with_reducible rfl)
               refine wpAnyIn_take (i:=8) (v:=?_) rfl rfl (by kernel_rfl) (by kernel_rfl) (by kernel_rfl) (fun _ _ _ h=>h) ⟨Or.inl ⟨by rfl,?_⟩,fun _=>rfl⟩ ?_
               rotate_left
               · (intro w;go_simp;try with_reducible rfl)
               refine wpAnyIn_ready (rs:=[7]) (by kernel_rfl) (by simp) (AllReadyIn.cons rfl (fun K hK=>?_) AllReadyIn.nil)
               · go_simp
                 refine hK _ _ ?_
                 clear hK K
                 refine wpAnyIn_take (i:=9) (v:=?_) rfl rfl (by kernel_rfl) (by kernel_rfl) (by kernel_rfl) (fun _ _ _ h=>h) ⟨Or.inl ⟨by rfl,?_⟩,fun _=>rfl⟩ ?_
                 rotate_left
                 · (intro w;go_simp;try with_reducible rfl)
                 refine wpAnyIn_ready (rs:=[10]) (by kernel_rfl) (by simp) (AllReadyIn.cons rfl (fun K hK=>?_) AllReadyIn.nil)
                 · go_simp
                   refine hK _ _ ?_
                   clear hK K
                   refine wpAnyIn_take (i:=11) (v:=?_) rfl rfl (by kernel_rfl) (by kernel_rfl) (by kernel_rfl) (fun _ _ _ h=>h) ⟨Or.inl ⟨by rfl,?_⟩,fun _=>rfl⟩ ?_
                   rotate_left
                   · (intro w;go_simp;try with_reducible rfl)
                   refine wpAnyIn_take (i:=12) (v:=?_) rfl rfl (by kernel_rfl) (by kernel_rfl) (by kernel_rfl) (fun _ _ _ h=>h) ⟨Or.inl ⟨by rfl,?_⟩,fun _=>rfl⟩ ?_
                   rotate_left
                   · (intro w;go_simp;try with_reducible rfl)
                   refine wpAnyIn_ready (rs:=[13]) (by kernel_rfl) (by simp) (AllReadyIn.cons rfl (fun K hK=>?_) AllReadyIn.nil)
                   · go_simp
                     refine hK _ _ ?_
                     clear hK K
                     refine wpAnyIn_done (by kernel_rfl) ?_ _
                     (gi_wp2;exact⟨⟨k+1,hlt,aXK (by have:=hal x.1 hxl;omega),hset1 _,hset,(hbw.setCell (p:=⟨w.heap.size,y,none⟩) (Nat.le_refl _) _).drew,(Below.heap_setCell wr ⟨w.heap.size,y,none⟩ _ m1 (by show m1≠w.heap.size;omega)).trans hbB,(hbK.trans ((KeepsOthers.setCell _ _ _).from _)).trans ((KeepsOthers.drew _).from _)⟩,aKk hlt (by have:=hal x.1 hxl;omega)⟩)
          ·go_simp
           refine hK _ _ ?_
           clear hK K
           refine wpAnyIn_take (i:=4) (v:=?_) rfl rfl (by kernel_rfl) (by kernel_rfl) (by kernel_rfl) (fun _ _ _ h=>h) ⟨Or.inl ⟨by rfl,?_⟩,fun _=>rfl⟩ ?_
           rotate_left
           · (intro w;go_simp;try with_reducible rfl)
           refine wpAnyIn_ready (rs:=[0,5]) (by kernel_rfl) (by simp) (AllReadyIn.cons rfl (fun K hK=>?_) (AllReadyIn.cons rfl (fun K hK=>?_) AllReadyIn.nil))
           · go_simp
             refine hK _ _ ?_
             clear hK K
             refine wpAnyIn_ready (rs:=[5]) (by kernel_rfl) (by simp) (AllReadyIn.cons rfl (fun K hK=>?_) AllReadyIn.nil)
             · go_simp
               refine hK _ _ ?_
               clear hK K
               refine wpAnyIn_take (i:=6) (v:=?_) rfl rfl (by kernel_rfl) (by kernel_rfl) (by kernel_rfl) (fun _ _ _ h=>h) ⟨Or.inl ⟨by rfl,?_⟩,fun _=>rfl⟩ ?_
               rotate_left
               · (intro w;go_simp;try with_reducible rfl)
               refine wpAnyIn_take (i:=8) (v:=?_) rfl rfl (by kernel_rfl) (by kernel_rfl) (by kernel_rfl) (fun _ _ _ h=>h) ⟨Or.inl ⟨by rfl,?_⟩,fun _=>rfl⟩ ?_
               rotate_left
               · (intro w;go_simp;try with_reducible rfl)
               refine wpAnyIn_ready (rs:=[7]) (by kernel_rfl) (by simp) (AllReadyIn.cons rfl (fun K hK=>?_) AllReadyIn.nil)
               · go_simp
                 refine hK _ _ ?_
                 clear hK K
                 refine wpAnyIn_take (i:=9) (v:=?_) rfl rfl (by kernel_rfl) (by kernel_rfl) (by kernel_rfl) (fun _ _ _ h=>h) ⟨Or.inl ⟨by rfl,?_⟩,fun _=>rfl⟩ ?_
                 rotate_left
                 · (intro w;go_simp;try with_reducible rfl)
                 refine wpAnyIn_ready (rs:=[10]) (by kernel_rfl) (by simp) (AllReadyIn.cons rfl (fun K hK=>?_) AllReadyIn.nil)
                 · go_simp
                   refine hK _ _ ?_
                   clear hK K
                   refine wpAnyIn_take (i:=11) (v:=?_) rfl rfl (by kernel_rfl) (by kernel_rfl) (by kernel_rfl) (fun _ _ _ h=>h) ⟨Or.inl ⟨by rfl,?_⟩,fun _=>rfl⟩ ?_
                   rotate_left
                   · (intro w;go_simp;try with_reducible rfl)
                   refine wpAnyIn_take (i:=12) (v:=?_) rfl rfl (by kernel_rfl) (by kernel_rfl) (by kernel_rfl) (fun _ _ _ h=>h) ⟨Or.inl ⟨by rfl,?_⟩,fun _=>rfl⟩ ?_
                   rotate_left
                   · (intro w;go_simp;try with_reducible rfl)
                   refine wpAnyIn_ready (rs:=[13]) (by kernel_rfl) (by simp) (AllReadyIn.cons rfl (fun K hK=>?_) AllReadyIn.nil)
                   · go_simp
                     refine hK _ _ ?_
                     clear hK K
                     refine wpAnyIn_done (by kernel_rfl) ?_ _
                     (gi_wp2;exact⟨⟨k+1,hlt,aXK (by have:=hal x.1 hxl;omega),hset1 _,hset,(hbw.setCell (p:=⟨w.heap.size,y,none⟩) (Nat.le_refl _) _).drew,(Below.heap_setCell wr ⟨w.heap.size,y,none⟩ _ m1 (by show m1≠w.heap.size;omega)).trans hbB,(hbK.trans ((KeepsOthers.setCell _ _ _).from _)).trans ((KeepsOthers.drew _).from _)⟩,aKk hlt (by have:=hal x.1 hxl;omega)⟩)
           · go_simp
             refine hK _ _ ?_
             clear hK K
             refine wpAnyIn_take (i:=6) (v:=?_) rfl rfl (by kernel_rfl) (by kernel_rfl) (by kernel_rfl) (fun _ _ _ h=>h) ⟨Or.inl ⟨by rfl,?_⟩,fun _=>rfl⟩ ?_
             rotate_left
             · (intro w;go_simp;try with_reducible rfl)
             refine wpAnyIn_take (i:=8) (v:=?_) rfl rfl (by kernel_rfl) (by kernel_rfl) (by kernel_rfl) (fun _ _ _ h=>h) ⟨Or.inl ⟨by rfl,?_⟩,fun _=>rfl⟩ ?_
             rotate_left
             · (intro w;go_simp;try with_reducible rfl)
             refine wpAnyIn_ready (rs:=[0,7]) (by kernel_rfl) (by simp) (AllReadyIn.cons rfl (fun K hK=>?_) (AllReadyIn.cons rfl (fun K hK=>?_) AllReadyIn.nil))
             · go_simp
               refine hK _ _ ?_
               clear hK K
               refine wpAnyIn_ready (rs:=[7]) (by kernel_rfl) (by simp) (AllReadyIn.cons rfl (fun K hK=>?_) AllReadyIn.nil)
               · go_simp
                 refine hK _ _ ?_
                 clear hK K
                 refine wpAnyIn_take (i:=9) (v:=?_) rfl rfl (by kernel_rfl) (by kernel_rfl) (by kernel_rfl) (fun _ _ _ h=>h) ⟨Or.inl ⟨by rfl,?_⟩,fun _=>rfl⟩ ?_
                 rotate_left
                 · (intro w;go_simp;try with_reducible rfl)
                 refine wpAnyIn_ready (rs:=[10]) (by kernel_rfl) (by simp) (AllReadyIn.cons rfl (fun K hK=>?_) AllReadyIn.nil)
                 · go_simp
                   refine hK _ _ ?_
                   clear hK K
                   refine wpAnyIn_take (i:=11) (v:=?_) rfl rfl (by kernel_rfl) (by kernel_rfl) (by kernel_rfl) (fun _ _ _ h=>h) ⟨Or.inl ⟨by rfl,?_⟩,fun _=>rfl⟩ ?_
                   rotate_left
                   · (intro w;go_simp;try with_reducible rfl)
                   refine wpAnyIn_take (i:=12) (v:=?_) rfl rfl (by kernel_rfl) (by kernel_rfl) (by kernel_rfl) (fun _ _ _ h=>h) ⟨Or.inl ⟨by rfl,?_⟩,fun _=>rfl⟩ ?_
                   rotate_left
                   · (intro w;go_simp;try with_reducible rfl)
                   refine wpAnyIn_ready (rs:=[13]) (by kernel_rfl) (by simp) (AllReadyIn.cons rfl (fun K hK=>?_) AllReadyIn.nil)
                   · go_simp
                     refine hK _ _ ?_
                     clear hK K
                     refine wpAnyIn_done (by kernel_rfl) ?_ _
                     (gi_wp2;exact⟨⟨k+1,hlt,aXK (by have:=hal x.1 hxl;omega),hset1 _,hset,(hbw.setCell (p:=⟨w.heap.size,y,none⟩) (Nat.le_refl _) _).drew,(Below.heap_setCell wr ⟨w.heap.size,y,none⟩ _ m1 (by show m1≠w.heap.size;omega)).trans hbB,(hbK.trans ((KeepsOthers.setCell _ _ _).from _)).trans ((KeepsOthers.drew _).from _)⟩,aKk hlt (by have:=hal x.1 hxl;omega)⟩)
             · go_simp
               refine hK _ _ ?_
               clear hK K
               refine wpAnyIn_take (i:=9) (v:=?_) rfl rfl (by kernel_rfl) (by kernel_rfl) (by kernel_rfl) (fun _ _ _ h=>h) ⟨Or.inl ⟨by rfl,?_⟩,fun _=>rfl⟩ ?_
               rotate_left
               · (intro w;go_simp;try with_reducible rfl)
               refine wpAnyIn_ready (rs:=[0,10]) (by kernel_rfl) (by simp) (AllReadyIn.cons rfl (fun K hK=>?_) (AllReadyIn.cons rfl (fun K hK=>?_) AllReadyIn.nil))
               · go_simp
                 refine hK _ _ ?_
                 clear hK K
                 refine wpAnyIn_ready (rs:=[10]) (by kernel_rfl) (by simp) (AllReadyIn.cons rfl (fun K hK=>?_) AllReadyIn.nil)
                 · go_simp
                   refine hK _ _ ?_
                   clear hK K
                   refine wpAnyIn_take (i:=11) (v:=?_) rfl rfl (by kernel_rfl) (by kernel_rfl) (by kernel_rfl) (fun _ _ _ h=>h) ⟨Or.inl ⟨by rfl,?_⟩,fun _=>rfl⟩ ?_
                   rotate_left
                   · (intro w;go_simp;try with_reducible rfl)
                   refine wpAnyIn_take (i:=12) (v:=?_) rfl rfl (by kernel_rfl) (by kernel_rfl) (by kernel_rfl) (fun _ _ _ h=>h) ⟨Or.inl ⟨by rfl,?_⟩,fun _=>rfl⟩ ?_
                   rotate_left
                   · (intro w;go_simp;try with_reducible rfl)
                   refine wpAnyIn_ready (rs:=[13]) (by kernel_rfl) (by simp) (AllReadyIn.cons rfl (fun K hK=>?_) AllReadyIn.nil)
                   · go_simp
                     refine hK _ _ ?_
                     clear hK K
                     refine wpAnyIn_done (by kernel_rfl) ?_ _
                     (gi_wp2;exact⟨⟨k+1,hlt,aXK (by have:=hal x.1 hxl;omega),hset1 _,hset,(hbw.setCell (p:=⟨w.heap.size,y,none⟩) (Nat.le_refl _) _).drew,(Below.heap_setCell wr ⟨w.heap.size,y,none⟩ _ m1 (by show m1≠w.heap.size;omega)).trans hbB,(hbK.trans ((KeepsOthers.setCell _ _ _).from _)).trans ((KeepsOthers.drew _).from _)⟩,aKk hlt (by have:=hal x.1 hxl;omega)⟩)
               · go_simp
                 refine hK _ _ ?_
                 clear hK K
                 refine wpAnyIn_take (i:=11) (v:=?_) rfl rfl (by kernel_rfl) (by kernel_rfl) (by kernel_rfl) (fun _ _ _ h=>h) ⟨Or.inl ⟨by rfl,?_⟩,fun _=>rfl⟩ ?_
                 rotate_left
                 · (intro w;go_simp;try with_reducible rfl)
                 refine wpAnyIn_ready (rs:=[0]) (by kernel_rfl) (by simp) (AllReadyIn.cons rfl (fun K hK=>?_) AllReadyIn.nil)
                 · go_simp
                   refine hK _ _ ?_
                   clear hK K
                   refine wpAnyIn_take (i:=12) (v:=?_) rfl rfl (by kernel_rfl) (by kernel_rfl) (by kernel_rfl) (fun _ _ _ h=>h) ⟨Or.inl ⟨by rfl,?_⟩,fun _=>rfl⟩ ?_
                   rotate_left
                   · (intro w;go_simp;try with_reducible rfl)
                   refine wpAnyIn_ready (rs:=[13]) (by kernel_rfl) (by simp) (AllReadyIn.cons rfl (fun K hK=>?_) AllReadyIn.nil)
                   · go_simp
                     refine hK _ _ ?_
                     clear hK K
                     refine wpAnyIn_done (by kernel_rfl) ?_ _
                     (gi_wp2;exact⟨⟨k+1,hlt,aXK (by have:=hal x.1 hxl;omega),hset1 _,hset,(hbw.setCell (p:=⟨w.heap.size,y,none⟩) (Nat.le_refl _) _).drew,(Below.heap_setCell wr ⟨w.heap.size,y,none⟩ _ m1 (by show m1≠w.heap.size;omega)).trans hbB,(hbK.trans ((KeepsOthers.setCell _ _ _).from _)).trans ((KeepsOthers.drew _).from _)⟩,aKk hlt (by have:=hal x.1 hxl;omega)⟩)
         ·rw[hv1]at hby hset
          rw[Bool.true_or]at hset
          gi_wp2
          refine wpIn_region_any (by kernel_rfl) (aHG l rfl (aKj (by kernel_rfl)) _ _ _ _ ?_)
          try (change wpAnyIn _ _ _ _ _ _ _ _ _ (World.drew _))
          refine wpAnyIn_take (i:=1) (v:=?_) rfl rfl (by kernel_rfl) (by kernel_rfl) (by kernel_rfl) (fun _ _ _ h=>h) ⟨Or.inl ⟨by rfl,?_⟩,fun _=>rfl⟩ ?_
          rotate_left
          ·(intro w;go_simp;try with_reducible rfl)
          refine wpAnyIn_take (i:=3) (v:=?_) rfl rfl (by kernel_rfl) (by kernel_rfl) (by kernel_rfl) (fun _ _ _ h=>h) ⟨Or.inl ⟨by rfl,?_⟩,fun _=>rfl⟩ ?_
          rotate_left
          ·(intro w;go_simp;try with_reducible rfl)
          refine wpAnyIn_ready (rs:=[0,2]) (by kernel_rfl) (by simp) (AllReadyIn.cons rfl (fun K hK=>?_) (AllReadyIn.cons rfl (fun K hK=>?_) AllReadyIn.nil))
          ·go_simp
           refine hK _ _ ?_
           clear hK K
           refine wpAnyIn_ready (rs:=[2]) (by kernel_rfl) (by simp) (AllReadyIn.cons rfl (fun K hK=>?_) AllReadyIn.nil)
           · go_simp
             refine hK _ _ ?_
             clear hK K
             refine wpAnyIn_take (i:=4) (v:=?_) rfl rfl (by kernel_rfl) (by kernel_rfl) (by kernel_rfl) (fun _ _ _ h=>h) ⟨Or.inl ⟨by rfl,?_⟩,fun _=>rfl⟩ ?_
             rotate_left
             · (intro w;go_simp;try with_reducible rfl)
             refine wpAnyIn_ready (rs:=[5]) (by kernel_rfl) (by simp) (AllReadyIn.cons rfl (fun K hK=>?_) AllReadyIn.nil)
             · go_simp
               refine hK _ _ ?_
               clear hK K
               refine wpAnyIn_take (i:=6) (v:=?_) rfl rfl (by kernel_rfl) (by kernel_rfl) (by kernel_rfl) (fun _ _ _ h=>h) ⟨Or.inl ⟨by rfl,?_⟩,fun _=>rfl⟩ ?_
               rotate_left
               · (intro w;go_simp;try with_reducible rfl)
               refine wpAnyIn_take (i:=7) (v:=undef) rfl rfl (by kernel_rfl) (by kernel_rfl) (by kernel_rfl) (fun _ _ _ h=>h) ⟨Or.inr ⟨by rfl,rfl⟩,fun _=>rfl⟩ ?_
               refine wpAnyIn_take (i:=8) (v:=undef) rfl rfl (by kernel_rfl) (by kernel_rfl) (by kernel_rfl) (fun _ _ _ h=>h) ⟨Or.inr ⟨by rfl,rfl⟩,fun _=>rfl⟩ ?_
               refine wpAnyIn_take (i:=9) (v:=undef) rfl rfl (by kernel_rfl) (by kernel_rfl) (by kernel_rfl) (fun _ _ _ h=>h) ⟨Or.inr ⟨by rfl,rfl⟩,fun _=>rfl⟩ ?_
               refine wpAnyIn_take (i:=10) (v:=undef) rfl rfl (by kernel_rfl) (by kernel_rfl) (by kernel_rfl) (fun _ _ _ h=>h) ⟨Or.inr ⟨by rfl,rfl⟩,fun _=>rfl⟩ ?_
               refine wpAnyIn_take (i:=11) (v:=?_) rfl rfl (by kernel_rfl) (by kernel_rfl) (by kernel_rfl) (fun _ _ _ h=>h) ⟨Or.inl ⟨by rfl,?_⟩,fun _=>rfl⟩ ?_
               rotate_left
               · (intro w;go_simp;try with_reducible rfl)
               refine wpAnyIn_take (i:=12) (v:=?_) rfl rfl (by kernel_rfl) (by kernel_rfl) (by kernel_rfl) (fun _ _ _ h=>h) ⟨Or.inl ⟨by rfl,?_⟩,fun _=>rfl⟩ ?_
               rotate_left
               · (intro w;go_simp;try with_reducible rfl)
               refine wpAnyIn_ready (rs:=[13]) (by kernel_rfl) (by simp) (AllReadyIn.cons rfl (fun K hK=>?_) AllReadyIn.nil)
               · go_simp
                 refine hK _ _ ?_
                 clear hK K
                 refine wpAnyIn_done (by kernel_rfl) ?_ _
                 (gi_wp2;exact⟨⟨k+1,hlt,aXK (by have:=hal x.1 hxl;omega),hset1 _,hset,(hbw.setCell (p:=⟨w.heap.size,y,none⟩) (Nat.le_refl _) _).drew,(Below.heap_setCell wr ⟨w.heap.size,y,none⟩ _ m1 (by show m1≠w.heap.size;omega)).trans hbB,(hbK.trans ((KeepsOthers.setCell _ _ _).from _)).trans ((KeepsOthers.drew _).from _)⟩,aKk hlt (by have:=hal x.1 hxl;omega)⟩)
          ·go_simp
           refine hK _ _ ?_
           clear hK K
           refine wpAnyIn_take (i:=4) (v:=?_) rfl rfl (by kernel_rfl) (by kernel_rfl) (by kernel_rfl) (fun _ _ _ h=>h) ⟨Or.inl ⟨by rfl,?_⟩,fun _=>rfl⟩ ?_
           rotate_left
           · (intro w;go_simp;try with_reducible rfl)
           refine wpAnyIn_ready (rs:=[0,5]) (by kernel_rfl) (by simp) (AllReadyIn.cons rfl (fun K hK=>?_) (AllReadyIn.cons rfl (fun K hK=>?_) AllReadyIn.nil))
           · go_simp
             refine hK _ _ ?_
             clear hK K
             refine wpAnyIn_ready (rs:=[5]) (by kernel_rfl) (by simp) (AllReadyIn.cons rfl (fun K hK=>?_) AllReadyIn.nil)
             · go_simp
               refine hK _ _ ?_
               clear hK K
               refine wpAnyIn_take (i:=6) (v:=?_) rfl rfl (by kernel_rfl) (by kernel_rfl) (by kernel_rfl) (fun _ _ _ h=>h) ⟨Or.inl ⟨by rfl,?_⟩,fun _=>rfl⟩ ?_
               rotate_left
               · (intro w;go_simp;try with_reducible rfl)
               refine wpAnyIn_take (i:=7) (v:=undef) rfl rfl (by kernel_rfl) (by kernel_rfl) (by kernel_rfl) (fun _ _ _ h=>h) ⟨Or.inr ⟨by rfl,rfl⟩,fun _=>rfl⟩ ?_
               refine wpAnyIn_take (i:=8) (v:=undef) rfl rfl (by kernel_rfl) (by kernel_rfl) (by kernel_rfl) (fun _ _ _ h=>h) ⟨Or.inr ⟨by rfl,rfl⟩,fun _=>rfl⟩ ?_
               refine wpAnyIn_take (i:=9) (v:=undef) rfl rfl (by kernel_rfl) (by kernel_rfl) (by kernel_rfl) (fun _ _ _ h=>h) ⟨Or.inr ⟨by rfl,rfl⟩,fun _=>rfl⟩ ?_
               refine wpAnyIn_take (i:=10) (v:=undef) rfl rfl (by kernel_rfl) (by kernel_rfl) (by kernel_rfl) (fun _ _ _ h=>h) ⟨Or.inr ⟨by rfl,rfl⟩,fun _=>rfl⟩ ?_
               refine wpAnyIn_take (i:=11) (v:=?_) rfl rfl (by kernel_rfl) (by kernel_rfl) (by kernel_rfl) (fun _ _ _ h=>h) ⟨Or.inl ⟨by rfl,?_⟩,fun _=>rfl⟩ ?_
               rotate_left
               · (intro w;go_simp;try with_reducible rfl)
               refine wpAnyIn_take (i:=12) (v:=?_) rfl rfl (by kernel_rfl) (by kernel_rfl) (by kernel_rfl) (fun _ _ _ h=>h) ⟨Or.inl ⟨by rfl,?_⟩,fun _=>rfl⟩ ?_
               rotate_left
               · (intro w;go_simp;try with_reducible rfl)
               refine wpAnyIn_ready (rs:=[13]) (by kernel_rfl) (by simp) (AllReadyIn.cons rfl (fun K hK=>?_) AllReadyIn.nil)
               · go_simp
                 refine hK _ _ ?_
                 clear hK K
                 refine wpAnyIn_done (by kernel_rfl) ?_ _
                 (gi_wp2;exact⟨⟨k+1,hlt,aXK (by have:=hal x.1 hxl;omega),hset1 _,hset,(hbw.setCell (p:=⟨w.heap.size,y,none⟩) (Nat.le_refl _) _).drew,(Below.heap_setCell wr ⟨w.heap.size,y,none⟩ _ m1 (by show m1≠w.heap.size;omega)).trans hbB,(hbK.trans ((KeepsOthers.setCell _ _ _).from _)).trans ((KeepsOthers.drew _).from _)⟩,aKk hlt (by have:=hal x.1 hxl;omega)⟩)
           · go_simp
             refine hK _ _ ?_
             clear hK K
             refine wpAnyIn_take (i:=6) (v:=?_) rfl rfl (by kernel_rfl) (by kernel_rfl) (by kernel_rfl) (fun _ _ _ h=>h) ⟨Or.inl ⟨by rfl,?_⟩,fun _=>rfl⟩ ?_
             rotate_left
             · (intro w;go_simp;try with_reducible rfl)
             refine wpAnyIn_take (i:=7) (v:=undef) rfl rfl (by kernel_rfl) (by kernel_rfl) (by kernel_rfl) (fun _ _ _ h=>h) ⟨Or.inr ⟨by rfl,rfl⟩,fun _=>rfl⟩ ?_
             refine wpAnyIn_take (i:=8) (v:=undef) rfl rfl (by kernel_rfl) (by kernel_rfl) (by kernel_rfl) (fun _ _ _ h=>h) ⟨Or.inr ⟨by rfl,rfl⟩,fun _=>rfl⟩ ?_
             refine wpAnyIn_take (i:=9) (v:=undef) rfl rfl (by kernel_rfl) (by kernel_rfl) (by kernel_rfl) (fun _ _ _ h=>h) ⟨Or.inr ⟨by rfl,rfl⟩,fun _=>rfl⟩ ?_
             refine wpAnyIn_take (i:=10) (v:=undef) rfl rfl (by kernel_rfl) (by kernel_rfl) (by kernel_rfl) (fun _ _ _ h=>h) ⟨Or.inr ⟨by rfl,rfl⟩,fun _=>rfl⟩ ?_
             refine wpAnyIn_take (i:=11) (v:=?_) rfl rfl (by kernel_rfl) (by kernel_rfl) (by kernel_rfl) (fun _ _ _ h=>h) ⟨Or.inl ⟨by rfl,?_⟩,fun _=>rfl⟩ ?_
             rotate_left
             · (intro w;go_simp;try with_reducible rfl)
             refine wpAnyIn_ready (rs:=[0]) (by kernel_rfl) (by simp) (AllReadyIn.cons rfl (fun K hK=>?_) AllReadyIn.nil)
             · go_simp
               refine hK _ _ ?_
               clear hK K
               refine wpAnyIn_take (i:=12) (v:=?_) rfl rfl (by kernel_rfl) (by kernel_rfl) (by kernel_rfl) (fun _ _ _ h=>h) ⟨Or.inl ⟨by rfl,?_⟩,fun _=>rfl⟩ ?_
               rotate_left
               · (intro w;go_simp;try with_reducible rfl)
               refine wpAnyIn_ready (rs:=[13]) (by kernel_rfl) (by simp) (AllReadyIn.cons rfl (fun K hK=>?_) AllReadyIn.nil)
               · go_simp
                 refine hK _ _ ?_
                 clear hK K
                 refine wpAnyIn_done (by kernel_rfl) ?_ _
                 (gi_wp2;exact⟨⟨k+1,hlt,aXK (by have:=hal x.1 hxl;omega),hset1 _,hset,(hbw.setCell (p:=⟨w.heap.size,y,none⟩) (Nat.le_refl _) _).drew,(Below.heap_setCell wr ⟨w.heap.size,y,none⟩ _ m1 (by show m1≠w.heap.size;omega)).trans hbB,(hbK.trans ((KeepsOthers.setCell _ _ _).from _)).trans ((KeepsOthers.drew _).from _)⟩,aKk hlt (by have:=hal x.1 hxl;omega)⟩)
       · obtain rfl:k=(ar x.1).length:=by omega
         rw[List.take_length]at hb2
         gi_wp2
         refine⟨hbK,⟨hbw,hbB⟩,⟨hb1,?_⟩,hbB.trans d3,hB1.trans hbw⟩
         rw[List.foldl_append,hcur]
         exact hb2
    case done=>
     rintro D ys W hD rfl ⟨⟨d1,d2⟩,d3,hB1⟩ hK
     have cB:=d1.cell 0
     simp only[List.getElem?_toArray,List.getElem?_cons_zero]at cB
     gi_wp2
     refine⟨by simp,.inl ⟨_,_,rfl,run_takeDeferred hK,?_⟩⟩
     refine⟨_,results_tmp rfl _ _ _,w.heap.size,Nat.le_refl _,rfl,?_,hB1.trans (belowK_b (w:=w) (Nat.le_refl _) W D _ _ (by omega) hK rfl rfl)⟩
     exact (World.putObj_heap_other (by omega)).trans d2
    case stop=>
     rintro D c pre W _ _ h _
     exact h.elim
end Go.Proofs.YtkmbhgggpfbffaaGreatDoor
