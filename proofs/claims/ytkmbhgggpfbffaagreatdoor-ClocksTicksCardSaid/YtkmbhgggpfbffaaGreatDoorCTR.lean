/- The row of ClocksTicks, out of the statement on plain data. -/
import Derived.Test.YtkmbhgggpfbffaaGreatDoorRows
import Derived.Test.YtkmbhgggpfbffaaGreatDoorAs7
import Derived.Test.YtkmbhgggpfbffaaGreatDoorCTP
import Derived.ProofKit
import Derived.Test.YtkmbhgggpfbffaaGreatDoorCards
import Derived.Test.YtkmbhgggpfbffaaGreatDoorTie
import Derived.SevenTiedAt
import Derived.LaidMore
import Derived.OpenShut
import Derived.Stop.Joined
import Derived.Stop.LaidErr
set_option linter.unusedVariables false
set_option linter.unusedSimpArgs false
set_option linter.constructorNameAsVariable false
set_option maxRecDepth 100000
namespace Go.Proofs.YtkmbhgggpfbffaaGreatDoor
open Go.ChangeShapes Go.WideShapes Go.ChangeAt Go.RowKit Am
theorem cC1 (hp:bXR):∀ uss,aYi Tryz.prog 20 Tryz.f10.params.toList uss->aAo T 10 (aPS Tryz.prog Tryz.f10.params.toList uss) []=some ([],[.p (.b true)],[]):=by
 intro uss h
 have ht:Tryz.f10.params.toList=[31,111,112]:=by kernel_rfl
 rw[ht]at h ⊢
 match uss,h with
 | [u0,u1,u2],h=>
  obtain⟨h0,h1,h2,_⟩:=h
  obtain⟨x0,rfl,ok0⟩:=bHx (ss:=[.s,.sl [.s,hI],.sl [.s,hI,hI,hI,hI],.sl [hI,hI,.sl [hI],hI],.sl [.s,hI,.sl [hI,hI,hI]],.sl [.s,hI],.sl [hI,.sl [hI]]]) (by kernel_rfl) h0
  obtain⟨x1,rfl,ok1⟩:=bHx (ss:=[.sl [hI,.sl [hI]]]) (by kernel_rfl) h1
  obtain⟨x2,rfl,ok2⟩:=bHx (ss:=[hI,hI]) (by kernel_rfl) h2
  obtain⟨N,hN⟩:=hp x0 x1 x2 ok0 ok1 ok2
  have e:cDC N 10 [.agg [.p (.s x0.1),.p (.l (.t [.s,hI] x0.2.1)),.p (.l (.t [.s,hI,hI,hI,hI] x0.2.2.1)),.p (.l (.t [hI,hI,.sl [hI],hI] x0.2.2.2.1)),.p (.l (.t [.s,hI,.sl [hI,hI,hI]] x0.2.2.2.2.1)),.p (.l (.t [.s,hI] x0.2.2.2.2.2.1)),.p (.l (.t [hI,.sl [hI]] x0.2.2.2.2.2.2))],.p (.l (.t [hI,.sl [hI]] x1)),.agg [.p (.i .i64 x2.1),.p (.i .i64 x2.2)]] [] (fun a b c=>some (a,b,c))=bXg N x0.1 x0.2.1 x0.2.2.1 x0.2.2.2.1 x0.2.2.2.2.1 x0.2.2.2.2.2.1 x0.2.2.2.2.2.2 x1 x2.1 x2.2 (fun r0=>some ([],[.p (.b r0)],[])):=by kernel_rfl
  have:=bCw (cCd N) (v:=10) (ds:=[.agg [.p (.s x0.1),.p (.l (.t [.s,hI] x0.2.1)),.p (.l (.t [.s,hI,hI,hI,hI] x0.2.2.1)),.p (.l (.t [hI,hI,.sl [hI],hI] x0.2.2.2.1)),.p (.l (.t [.s,hI,.sl [hI,hI,hI]] x0.2.2.2.2.1)),.p (.l (.t [.s,hI] x0.2.2.2.2.2.1)),.p (.l (.t [hI,.sl [hI]] x0.2.2.2.2.2.2))],.p (.l (.t [hI,.sl [hI]] x1)),.agg [.p (.i .i64 x2.1),.p (.i .i64 x2.2)]]) (e.trans (hN _))
  have e0:aX0 Tryz.prog 31 (aKa [.s,.sl [.s,hI],.sl [.s,hI,hI,hI,hI],.sl [hI,hI,.sl [hI],hI],.sl [.s,hI,.sl [hI,hI,hI]],.sl [.s,hI],.sl [hI,.sl [hI]]] x0)=DS.enc (.agg [.p (.s x0.1),.p (.l (.t [.s,hI] x0.2.1)),.p (.l (.t [.s,hI,hI,hI,hI] x0.2.2.1)),.p (.l (.t [hI,hI,.sl [hI],hI] x0.2.2.2.1)),.p (.l (.t [.s,hI,.sl [hI,hI,hI]] x0.2.2.2.2.1)),.p (.l (.t [.s,hI] x0.2.2.2.2.2.1)),.p (.l (.t [hI,.sl [hI]] x0.2.2.2.2.2.2))]):=aXO (by kernel_rfl)
  have e1:aX0 Tryz.prog 111 (aKa [.sl [hI,.sl [hI]]] x1)=DS.enc (.p (.l (.t [hI,.sl [hI]] x1))):=bK8 (by kernel_rfl)
  have e2:aX0 Tryz.prog 112 (aKa [hI,hI] x2)=DS.enc (.agg [.p (.i .i64 x2.1),.p (.i .i64 x2.2)]):=aXO (by kernel_rfl)
  show aAo T 10 [aX0 Tryz.prog 31 (aKa [.s,.sl [.s,hI],.sl [.s,hI,hI,hI,hI],.sl [hI,hI,.sl [hI],hI],.sl [.s,hI,.sl [hI,hI,hI]],.sl [.s,hI],.sl [hI,.sl [hI]]] x0),aX0 Tryz.prog 111 (aKa [.sl [hI,.sl [hI]]] x1),aX0 Tryz.prog 112 (aKa [hI,hI] x2)] []=_
  rw[e0,e1,e2]
  exact this
theorem own:ownKnob Tryz.prog.godebug=none:=by kernel_rfl
theorem bEO:laidOutB Tryz.prog=true:=by kernel_rfl
theorem Tryz.pow10ty:(Tryz.prog.globals[0]?).map (·.type)=some 327∧Tryz.prog.underlying 327=some (.array 20 262)∧Tryz.prog.underlying 262=some (.int .u64)∧Tryz.prog.cellsOf 262=1∧Tryz.prog.cellsOf 327=20:=⟨by kernel_rfl,by kernel_rfl,by kernel_rfl,by kernel_rfl,by kernel_rfl⟩
theorem aYB (os:Os)(args:Array Value):laidMetH Tryz.prog Rows.clocksTicksRow.laid ((World.doorLaid Tryz.prog 400 os).forCall (fun _ _=>0) ⟨#[],args,[]⟩).memory:=by
 rw[MakeChecks.laidMetH_plain _ _ _ (by kernel_rfl)]
 exact laidMet_of_run' 8 (by kernel_rfl) (by kernel_rfl)
theorem bJ1 (hp:bXR)(os:Os)(started:os.Started)(H:Type)(enc:TypeId×Value->H) :
  ReturnsInHanded {} Tryz.checked os 10 .any (fun w args=>(Rows.clocksTicksSpec.pre enc Tryz.prog Tryz.f10 [] false w args∧laidMetH Tryz.prog Rows.clocksTicksRow.laid w)∧sizedMet enc Tryz.prog Tryz.f10 (OpenSpec.ofChange Rows.clocksTicksSpec) false w args)
    (Rows.clocksTicksSpec.post enc Tryz.prog Tryz.f10 false true false false):=by
 refine returnsInHanded_of_change_and (C:=Tryz.checked) (X:=fun w _=>laidMetH Tryz.prog Rows.clocksTicksRow.laid w) (fun _ _ _ hh h=>h.of_heap hh) own started (by kernel_rfl) Tryz.func10
  (ChangeSpec.witness_shaped (enc:=enc) (C:=Tryz.checked) (os:=os) (X:=fun w _=>laidMetH Tryz.prog Rows.clocksTicksRow.laid w) false (World.doorLaid Tryz.prog 400 os) #[.agg #[.string .empty,.slice none 0 0,.slice none 0 0,.slice none 0 0,.slice none 0 0,.slice none 0 0,.slice none 0 0],.slice none 0 0,.agg #[.int .i64 0,.int .i64 0]] 8 rfl (World.shaped_of_RefB (by kernel_rfl) (by kernel_rfl)) (by kernel_rfl) (by kernel_rfl) (by kernel_rfl) (aYB os _)) ?_
 intro W base args ds gs before hval hW _ _ hL _
 have hL':laidMet Tryz.prog Rows.clocksTicksRow.laid W:=by
  rwa [MakeChecks.laidMetH_plain _ _ _ (by kernel_rfl)]at hL
 have htab:∀ g cs,theFo.tab g=some cs->∃ t f,W.heap[g]? = some (.cells cs t f):=by
  intro g cs hg
  have hT:laidMet Tryz.prog (Rows.clocksTicksRow.laid.drop 2) W:=laidMet.tail (laidMet.tail (hL'))
  by_cases e:g=0
  · subst e
    have e2:aIk=cs:=by simpa[theFo]using hg
    subst e2
    have hty:=Tryz.pow10ty
    exact aPP (rest:=(Rows.clocksTicksRow.laid.drop 2).tail) (by kernel_rfl) hty.1 hty.2.1 hty.2.2.1 hty.2.2.2.1 hty.2.2.2.2 (show laidMet Tryz.prog (("internal/strconv.uint64pow10",Lib.tabData .u64 Lib.pow10Tab) :: (Rows.clocksTicksRow.laid.drop 2).tail) W from hT)
  · simp[theFo,e]at hg
 refine aUU (n:=20) (fo:=theFo) bC8 rfl Tryz.func10 (by kernel_rfl) (by kernel_rfl) bEO (by kernel_rfl) (tb:=4) (by kernel_rfl) (by kernel_rfl) (by rfl) ?_ (cC1 hp) W base args ds gs before hval hW htab
 intro ds hd
 match ds,hd with
 | [d0,d1,d2],_=>exact⟨rfl,rfl,rfl⟩
theorem bJJ:(Rows.clocksTicksRow.inPlace == Tryz.pinned.checked.prog.inPlace 10)=true:=by kernel_rfl
theorem bKL:(Rows.clocksTicksRow.unfollowed == Tryz.pinned.checked.prog.unfollowed 10)=true:=by kernel_rfl
theorem bKX:(Rows.clocksTicksRow.recurses == Tryz.pinned.checked.prog.recurses 10)=true:=by kernel_rfl
theorem bIT:(Rows.clocksTicksRow.named == Tryz.pinned.checked.prog.varsNamed 10)=true:=by kernel_rfl
theorem facts:joinedFacts Tryz.pinned.checked.prog 10 Tryz.f10 Rows.clocksTicksSpec Rows.clocksTicksRow=true:=by
 unfold joinedFacts
 rw[bJJ,bKL,bKX,bIT]
 kernel_rfl
theorem aQV:Tryz.pinned.checked.prog.funcNamed Rows.clocksTicksRow.func=some 10:=by kernel_rfl
theorem aJp:Rows.ClocksTicksSaid:=
 OpenClaim.holds_of_wide 10 Tryz.f10 rfl rfl rfl rfl rfl rfl rfl ⟨rfl,rfl,rfl,rfl,rfl⟩ rfl rfl rfl rfl rfl aQV Tryz.func10 facts
  (of_decide_eq_true (by kernel_rfl)) (by unfold Func.isWrapper;first | (rw[if_pos (by decide +kernel)];kernel_rfl) | (rw[if_neg (by decide +kernel)];exact⟨rfl,rfl⟩))
  (fun os started H enc _=>bJ1 bYi os started H enc)
theorem bBS:Tryz.pinned.checked.prog.mainIs=some ((true,"06807d05539f34e3ab25c109a86e3c54130d81223492c9983059fa95addfb9a1").fst,(true,"06807d05539f34e3ab25c109a86e3c54130d81223492c9983059fa95addfb9a1").snd.toList):=by kernel_rfl
theorem bUY:false=Rows.clocksTicksRow.goesBy Tryz.pinned.checked.prog:=by kernel_rfl
theorem f_holds:Rows.ClocksTicksCardSaid:=
 Claim7.holds_tied_plain_at .later [] [.data,.data,.data] true (true,"06807d05539f34e3ab25c109a86e3c54130d81223492c9983059fa95addfb9a1") false
  aJp (fun _ h=>by cases h) (by kernel_rfl) (fun _ h=>by cases h) clocksTicks_row_tie rfl ⟨rfl,rfl⟩ bBS rfl
  (fun f fn hf hfn=>by
    obtain rfl:f=10:=Option.some.inj ((show Tryz.prog.funcNamed "ratchet/ratchetlaw21.ClocksTicks" = some 10 from aQV).symm.trans hf) |>.symm
    obtain rfl:fn=Tryz.f10:=(Option.some.inj (Tryz.func10.symm.trans hfn)).symm
    exact⟨by kernel_rfl,fun j t ht=>by
     have hpar:Tryz.f10.params=#[31,111,112]:=by kernel_rfl
     rw[hpar]at ht
     have hm:t∈[31,111,112]:=by simpa using Array.mem_of_getElem? ht
     have hall:([31,111,112].all fun u=>!Tryz.prog.wantsStandIn u)=true:=by kernel_rfl
     exact (show Tryz.prog.wantsStandIn t=false by simpa using List.all_eq_true.1 hall t hm)⟩)
  bUY
end Go.Proofs.YtkmbhgggpfbffaaGreatDoor
