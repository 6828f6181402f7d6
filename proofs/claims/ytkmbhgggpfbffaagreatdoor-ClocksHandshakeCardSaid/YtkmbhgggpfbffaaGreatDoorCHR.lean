/- The row of ClocksHandshake, out of the statement on plain data. -/
import Derived.Test.YtkmbhgggpfbffaaGreatDoorRows
import Derived.Test.YtkmbhgggpfbffaaGreatDoorAs7
import Derived.Test.YtkmbhgggpfbffaaGreatDoorCHP
import Derived.ProofKit
import Derived.Test.YtkmbhgggpfbffaaGreatDoorCards
import Derived.Test.YtkmbhgggpfbffaaGreatDoorTie
import Derived.SevenTiedAt
import Derived.LaidMore
import Derived.OpenShut
import Derived.Stop.Joined
import Derived.Stop.LaidErr
set_option linter.unusedVariables false
set_option linter.unusedSimpArgs false
set_option linter.constructorNameAsVariable false
set_option maxRecDepth 100000
namespace Go.Proofs.YtkmbhgggpfbffaaGreatDoor
open Go.ChangeShapes Go.WideShapes Go.ChangeAt Go.RowKit Am
theorem cGv (hp:bYd):∀ uss,aYi Tryz.prog 20 Tryz.f6.params.toList uss->aAo T 6 (aPS Tryz.prog Tryz.f6.params.toList uss) []=some ([],[.p (.b true)],[]):=by
 intro uss h
 have ht:Tryz.f6.params.toList=[3,56]:=by kernel_rfl
 rw[ht]at h ⊢
 match uss,h with
 | [u0,u1],h=>
  obtain⟨h0,h1,_⟩:=h
  obtain⟨x0,rfl,ok0⟩:=bHx (ss:=[hI]) (by kernel_rfl) h0
  obtain⟨x1,rfl,ok1⟩:=bHx (ss:=[.sl [hI,hI]]) (by kernel_rfl) h1
  obtain⟨N,hN⟩:=hp x0 x1 ok0 ok1
  have e:cF5 N 6 [.p (.i .i64 x0),.p (.l (.t [hI,hI] x1))] [] (fun a b c=>some (a,b,c))=bXd N x0 x1 (fun r0=>some ([],[.p (.b r0)],[])):=by kernel_rfl
  have:=bCw (cC0 N) (v:=6) (ds:=[.p (.i .i64 x0),.p (.l (.t [hI,hI] x1))]) (e.trans (hN _))
  have e0:aX0 Tryz.prog 3 (aKa [hI] x0)=DS.enc (.p (.i .i64 x0)):=bK8 (by kernel_rfl)
  have e1:aX0 Tryz.prog 56 (aKa [.sl [hI,hI]] x1)=DS.enc (.p (.l (.t [hI,hI] x1))):=bK8 (by kernel_rfl)
  show aAo T 6 [aX0 Tryz.prog 3 (aKa [hI] x0),aX0 Tryz.prog 56 (aKa [.sl [hI,hI]] x1)] []=_
  rw[e0,e1]
  exact this
theorem own:ownKnob Tryz.prog.godebug=none:=by kernel_rfl
theorem bEO:laidOutB Tryz.prog=true:=by kernel_rfl
theorem Tryz.pow10ty:(Tryz.prog.globals[0]?).map (·.type)=some 327∧Tryz.prog.underlying 327=some (.array 20 262)∧Tryz.prog.underlying 262=some (.int .u64)∧Tryz.prog.cellsOf 262=1∧Tryz.prog.cellsOf 327=20:=⟨by kernel_rfl,by kernel_rfl,by kernel_rfl,by kernel_rfl,by kernel_rfl⟩
theorem aYB (os:Os)(args:Array Value):laidMetH Tryz.prog Rows.clocksHandshakeRow.laid ((World.doorLaid Tryz.prog 400 os).forCall (fun _ _=>0) ⟨#[],args,[]⟩).memory:=by
 rw[MakeChecks.laidMetH_plain _ _ _ (by kernel_rfl)]
 exact laidMet_of_run' 8 (by kernel_rfl) (by kernel_rfl)
theorem bJ1 (hp:bYd)(os:Os)(started:os.Started)(H:Type)(enc:TypeId×Value->H) :
  ReturnsInHanded {} Tryz.checked os 6 .any (fun w args=>(Rows.clocksHandshakeSpec.pre enc Tryz.prog Tryz.f6 [] false w args∧laidMetH Tryz.prog Rows.clocksHandshakeRow.laid w)∧sizedMet enc Tryz.prog Tryz.f6 (OpenSpec.ofChange Rows.clocksHandshakeSpec) false w args)
    (Rows.clocksHandshakeSpec.post enc Tryz.prog Tryz.f6 false true false false):=by
 refine returnsInHanded_of_change_and (C:=Tryz.checked) (X:=fun w _=>laidMetH Tryz.prog Rows.clocksHandshakeRow.laid w) (fun _ _ _ hh h=>h.of_heap hh) own started (by kernel_rfl) Tryz.func6
  (ChangeSpec.witness_shaped (enc:=enc) (C:=Tryz.checked) (os:=os) (X:=fun w _=>laidMetH Tryz.prog Rows.clocksHandshakeRow.laid w) false (World.doorLaid Tryz.prog 400 os) #[.int .i64 0,.slice none 0 0] 8 rfl (World.shaped_of_RefB (by kernel_rfl) (by kernel_rfl)) (by kernel_rfl) (by kernel_rfl) (by kernel_rfl) (aYB os _)) ?_
 intro W base args ds gs before hval hW _ _ hL _
 have hL':laidMet Tryz.prog Rows.clocksHandshakeRow.laid W:=by
  rwa [MakeChecks.laidMetH_plain _ _ _ (by kernel_rfl)]at hL
 have htab:∀ g cs,theFo.tab g=some cs->∃ t f,W.heap[g]? = some (.cells cs t f):=by
  intro g cs hg
  have hT:laidMet Tryz.prog (Rows.clocksHandshakeRow.laid.drop 2) W:=laidMet.tail (laidMet.tail (hL'))
  by_cases e:g=0
  · subst e
    have e2:aIk=cs:=by simpa[theFo]using hg
    subst e2
    have hty:=Tryz.pow10ty
    exact aPP (rest:=(Rows.clocksHandshakeRow.laid.drop 2).tail) (by kernel_rfl) hty.1 hty.2.1 hty.2.2.1 hty.2.2.2.1 hty.2.2.2.2 (show laidMet Tryz.prog (("internal/strconv.uint64pow10",Lib.tabData .u64 Lib.pow10Tab) :: (Rows.clocksHandshakeRow.laid.drop 2).tail) W from hT)
  · simp[theFo,e]at hg
 refine aUU (n:=20) (fo:=theFo) bC8 rfl Tryz.func6 (by kernel_rfl) (by kernel_rfl) bEO (by kernel_rfl) (tb:=4) (by kernel_rfl) (by kernel_rfl) (by rfl) ?_ (cGv hp) W base args ds gs before hval hW htab
 intro ds hd
 match ds,hd with
 | [d0,d1],_=>exact⟨rfl,rfl,rfl⟩
theorem bJJ:(Rows.clocksHandshakeRow.inPlace == Tryz.pinned.checked.prog.inPlace 6)=true:=by kernel_rfl
theorem bKL:(Rows.clocksHandshakeRow.unfollowed == Tryz.pinned.checked.prog.unfollowed 6)=true:=by kernel_rfl
theorem bKX:(Rows.clocksHandshakeRow.recurses == Tryz.pinned.checked.prog.recurses 6)=true:=by kernel_rfl
theorem bIT:(Rows.clocksHandshakeRow.named == Tryz.pinned.checked.prog.varsNamed 6)=true:=by kernel_rfl
theorem facts:joinedFacts Tryz.pinned.checked.prog 6 Tryz.f6 Rows.clocksHandshakeSpec Rows.clocksHandshakeRow=true:=by
 unfold joinedFacts
 rw[bJJ,bKL,bKX,bIT]
 kernel_rfl
theorem aQV:Tryz.pinned.checked.prog.funcNamed Rows.clocksHandshakeRow.func=some 6:=by kernel_rfl
theorem aJp:Rows.ClocksHandshakeSaid:=
 OpenClaim.holds_of_wide 6 Tryz.f6 rfl rfl rfl rfl rfl rfl rfl ⟨rfl,rfl,rfl,rfl,rfl⟩ rfl rfl rfl rfl rfl aQV Tryz.func6 facts
  (of_decide_eq_true (by kernel_rfl)) (by unfold Func.isWrapper;first | (rw[if_pos (by decide +kernel)];kernel_rfl) | (rw[if_neg (by decide +kernel)];exact⟨rfl,rfl⟩))
  (fun os started H enc _=>bJ1 bYx os started H enc)
theorem bBS:Tryz.pinned.checked.prog.mainIs=some ((true,"06807d05539f34e3ab25c109a86e3c54130d81223492c9983059fa95addfb9a1").fst,(true,"06807d05539f34e3ab25c109a86e3c54130d81223492c9983059fa95addfb9a1").snd.toList):=by kernel_rfl
theorem bUY:false=Rows.clocksHandshakeRow.goesBy Tryz.pinned.checked.prog:=by kernel_rfl
theorem f_holds:Rows.ClocksHandshakeCardSaid:=
 Claim7.holds_tied_plain_at .later [] [.data,.data,.data] true (true,"06807d05539f34e3ab25c109a86e3c54130d81223492c9983059fa95addfb9a1") false
  aJp (fun _ h=>by cases h) (by kernel_rfl) (fun _ h=>by cases h) clocksHandshake_row_tie rfl ⟨rfl,rfl⟩ bBS rfl
  (fun f fn hf hfn=>by
    obtain rfl:f=6:=Option.some.inj ((show Tryz.prog.funcNamed "ratchet/ratchetlaw21.ClocksHandshake" = some 6 from aQV).symm.trans hf) |>.symm
    obtain rfl:fn=Tryz.f6:=(Option.some.inj (Tryz.func6.symm.trans hfn)).symm
    exact⟨by kernel_rfl,fun j t ht=>by
     have hpar:Tryz.f6.params=#[3,56]:=by kernel_rfl
     rw[hpar]at ht
     have hm:t∈[3,56]:=by simpa using Array.mem_of_getElem? ht
     have hall:([3,56].all fun u=>!Tryz.prog.wantsStandIn u)=true:=by kernel_rfl
     exact (show Tryz.prog.wantsStandIn t=false by simpa using List.all_eq_true.1 hall t hm)⟩)
  bUY
end Go.Proofs.YtkmbhgggpfbffaaGreatDoor
