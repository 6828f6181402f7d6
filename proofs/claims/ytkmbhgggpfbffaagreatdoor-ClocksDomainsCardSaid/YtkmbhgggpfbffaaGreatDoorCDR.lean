/- The row of ClocksDomains, out of the statement on plain data. -/
import Derived.Test.YtkmbhgggpfbffaaGreatDoorRows
import Derived.Test.YtkmbhgggpfbffaaGreatDoorAs7
import Derived.Test.YtkmbhgggpfbffaaGreatDoorCDP
import Derived.ProofKit
import Derived.Test.YtkmbhgggpfbffaaGreatDoorCards
import Derived.Test.YtkmbhgggpfbffaaGreatDoorTie
import Derived.SevenTiedAt
import Derived.LaidMore
import Derived.OpenShut
import Derived.Stop.Joined
import Derived.Stop.LaidErr
set_option linter.unusedVariables false
set_option linter.unusedSimpArgs false
set_option linter.constructorNameAsVariable false
set_option maxRecDepth 100000
namespace Go.Proofs.YtkmbhgggpfbffaaGreatDoor
open Go.ChangeShapes Go.WideShapes Go.ChangeAt Go.RowKit Am
theorem bWS (hp:aFU):∀ uss,aYi Tryz.prog 20 Tryz.f5.params.toList uss->aAo T 5 (aPS Tryz.prog Tryz.f5.params.toList uss) []=some ([],[.p (.b true)],[]):=by
 intro uss h
 have ht:Tryz.f5.params.toList=[31]:=by kernel_rfl
 rw[ht]at h ⊢
 match uss,h with
 | [u0],h=>
  obtain⟨h0,_⟩:=h
  obtain⟨x0,rfl,ok0⟩:=bHx (ss:=[.s,.sl [.s,hI],.sl [.s,hI,hI,hI,hI],.sl [hI,hI,.sl [hI],hI],.sl [.s,hI,.sl [hI,hI,hI]],.sl [.s,hI],.sl [hI,.sl [hI]]]) (by kernel_rfl) h0
  obtain⟨N,hN⟩:=hp x0 ok0
  have e:bR4 N 5 [.agg [.p (.s x0.1),.p (.l (.t [.s,hI] x0.2.1)),.p (.l (.t [.s,hI,hI,hI,hI] x0.2.2.1)),.p (.l (.t [hI,hI,.sl [hI],hI] x0.2.2.2.1)),.p (.l (.t [.s,hI,.sl [hI,hI,hI]] x0.2.2.2.2.1)),.p (.l (.t [.s,hI] x0.2.2.2.2.2.1)),.p (.l (.t [hI,.sl [hI]] x0.2.2.2.2.2.2))]] [] (fun a b c=>some (a,b,c))=aBP N x0.1 x0.2.1 x0.2.2.1 x0.2.2.2.1 x0.2.2.2.2.1 x0.2.2.2.2.2.1 x0.2.2.2.2.2.2 (fun r0=>some ([],[.p (.b r0)],[])):=by kernel_rfl
  have:=bCw (bCo N) (v:=5) (ds:=[.agg [.p (.s x0.1),.p (.l (.t [.s,hI] x0.2.1)),.p (.l (.t [.s,hI,hI,hI,hI] x0.2.2.1)),.p (.l (.t [hI,hI,.sl [hI],hI] x0.2.2.2.1)),.p (.l (.t [.s,hI,.sl [hI,hI,hI]] x0.2.2.2.2.1)),.p (.l (.t [.s,hI] x0.2.2.2.2.2.1)),.p (.l (.t [hI,.sl [hI]] x0.2.2.2.2.2.2))]]) (e.trans (hN _))
  have e0:aX0 Tryz.prog 31 (aKa [.s,.sl [.s,hI],.sl [.s,hI,hI,hI,hI],.sl [hI,hI,.sl [hI],hI],.sl [.s,hI,.sl [hI,hI,hI]],.sl [.s,hI],.sl [hI,.sl [hI]]] x0)=DS.enc (.agg [.p (.s x0.1),.p (.l (.t [.s,hI] x0.2.1)),.p (.l (.t [.s,hI,hI,hI,hI] x0.2.2.1)),.p (.l (.t [hI,hI,.sl [hI],hI] x0.2.2.2.1)),.p (.l (.t [.s,hI,.sl [hI,hI,hI]] x0.2.2.2.2.1)),.p (.l (.t [.s,hI] x0.2.2.2.2.2.1)),.p (.l (.t [hI,.sl [hI]] x0.2.2.2.2.2.2))]):=aXO (by kernel_rfl)
  show aAo T 5 [aX0 Tryz.prog 31 (aKa [.s,.sl [.s,hI],.sl [.s,hI,hI,hI,hI],.sl [hI,hI,.sl [hI],hI],.sl [.s,hI,.sl [hI,hI,hI]],.sl [.s,hI],.sl [hI,.sl [hI]]] x0)] []=_
  rw[e0]
  exact this
theorem own:ownKnob Tryz.prog.godebug=none:=by kernel_rfl
theorem bEO:laidOutB Tryz.prog=true:=by kernel_rfl
theorem Tryz.pow10ty:(Tryz.prog.globals[0]?).map (·.type)=some 327∧Tryz.prog.underlying 327=some (.array 20 262)∧Tryz.prog.underlying 262=some (.int .u64)∧Tryz.prog.cellsOf 262=1∧Tryz.prog.cellsOf 327=20:=⟨by kernel_rfl,by kernel_rfl,by kernel_rfl,by kernel_rfl,by kernel_rfl⟩
theorem aYB (os:Os)(args:Array Value):laidMetH Tryz.prog Rows.clocksDomainsRow.laid ((World.doorLaid Tryz.prog 400 os).forCall (fun _ _=>0) ⟨#[],args,[]⟩).memory:=by
 rw[MakeChecks.laidMetH_plain _ _ _ (by kernel_rfl)]
 exact laidMet_of_run' 8 (by kernel_rfl) (by kernel_rfl)
theorem bJ1 (hp:aFU)(os:Os)(started:os.Started)(H:Type)(enc:TypeId×Value->H) :
  ReturnsInHanded {} Tryz.checked os 5 .any (fun w args=>(Rows.clocksDomainsSpec.pre enc Tryz.prog Tryz.f5 [] false w args∧laidMetH Tryz.prog Rows.clocksDomainsRow.laid w)∧sizedMet enc Tryz.prog Tryz.f5 (OpenSpec.ofChange Rows.clocksDomainsSpec) false w args)
    (Rows.clocksDomainsSpec.post enc Tryz.prog Tryz.f5 false true false false):=by
 refine returnsInHanded_of_change_and (C:=Tryz.checked) (X:=fun w _=>laidMetH Tryz.prog Rows.clocksDomainsRow.laid w) (fun _ _ _ hh h=>h.of_heap hh) own started (by kernel_rfl) Tryz.func5
  (ChangeSpec.witness_shaped (enc:=enc) (C:=Tryz.checked) (os:=os) (X:=fun w _=>laidMetH Tryz.prog Rows.clocksDomainsRow.laid w) false (World.doorLaid Tryz.prog 400 os) #[.agg #[.string .empty,.slice none 0 0,.slice none 0 0,.slice none 0 0,.slice none 0 0,.slice none 0 0,.slice none 0 0]] 8 rfl (World.shaped_of_RefB (by kernel_rfl) (by kernel_rfl)) (by kernel_rfl) (by kernel_rfl) (by kernel_rfl) (aYB os _)) ?_
 intro W base args ds gs before hval hW _ _ hL _
 have hL':laidMet Tryz.prog Rows.clocksDomainsRow.laid W:=by
  rwa [MakeChecks.laidMetH_plain _ _ _ (by kernel_rfl)]at hL
 have htab:∀ g cs,theFo.tab g=some cs->∃ t f,W.heap[g]? = some (.cells cs t f):=by
  intro g cs hg
  have hT:laidMet Tryz.prog (Rows.clocksDomainsRow.laid.drop 2) W:=laidMet.tail (laidMet.tail (hL'))
  by_cases e:g=0
  · subst e
    have e2:aIk=cs:=by simpa[theFo]using hg
    subst e2
    have hty:=Tryz.pow10ty
    exact aPP (rest:=(Rows.clocksDomainsRow.laid.drop 2).tail) (by kernel_rfl) hty.1 hty.2.1 hty.2.2.1 hty.2.2.2.1 hty.2.2.2.2 (show laidMet Tryz.prog (("internal/strconv.uint64pow10",Lib.tabData .u64 Lib.pow10Tab) :: (Rows.clocksDomainsRow.laid.drop 2).tail) W from hT)
  · simp[theFo,e]at hg
 refine aUU (n:=20) (fo:=theFo) bC8 rfl Tryz.func5 (by kernel_rfl) (by kernel_rfl) bEO (by kernel_rfl) (tb:=4) (by kernel_rfl) (by kernel_rfl) (by rfl) ?_ (bWS hp) W base args ds gs before hval hW htab
 intro ds hd
 match ds,hd with
 | [d0],_=>exact⟨rfl,rfl,rfl⟩
theorem bJJ:(Rows.clocksDomainsRow.inPlace == Tryz.pinned.checked.prog.inPlace 5)=true:=by kernel_rfl
theorem bKL:(Rows.clocksDomainsRow.unfollowed == Tryz.pinned.checked.prog.unfollowed 5)=true:=by kernel_rfl
theorem bKX:(Rows.clocksDomainsRow.recurses == Tryz.pinned.checked.prog.recurses 5)=true:=by kernel_rfl
theorem bIT:(Rows.clocksDomainsRow.named == Tryz.pinned.checked.prog.varsNamed 5)=true:=by kernel_rfl
theorem facts:joinedFacts Tryz.pinned.checked.prog 5 Tryz.f5 Rows.clocksDomainsSpec Rows.clocksDomainsRow=true:=by
 unfold joinedFacts
 rw[bJJ,bKL,bKX,bIT]
 kernel_rfl
theorem aQV:Tryz.pinned.checked.prog.funcNamed Rows.clocksDomainsRow.func=some 5:=by kernel_rfl
theorem aJp:Rows.ClocksDomainsSaid:=
 OpenClaim.holds_of_wide 5 Tryz.f5 rfl rfl rfl rfl rfl rfl rfl ⟨rfl,rfl,rfl,rfl,rfl⟩ rfl rfl rfl rfl rfl aQV Tryz.func5 facts
  (of_decide_eq_true (by kernel_rfl)) (by unfold Func.isWrapper;first | (rw[if_pos (by decide +kernel)];kernel_rfl) | (rw[if_neg (by decide +kernel)];exact⟨rfl,rfl⟩))
  (fun os started H enc _=>bJ1 aJJ os started H enc)
theorem bBS:Tryz.pinned.checked.prog.mainIs=some ((true,"06807d05539f34e3ab25c109a86e3c54130d81223492c9983059fa95addfb9a1").fst,(true,"06807d05539f34e3ab25c109a86e3c54130d81223492c9983059fa95addfb9a1").snd.toList):=by kernel_rfl
theorem bUY:false=Rows.clocksDomainsRow.goesBy Tryz.pinned.checked.prog:=by kernel_rfl
theorem f_holds:Rows.ClocksDomainsCardSaid:=
 Claim7.holds_tied_plain_at .later [] [.data,.data,.data] true (true,"06807d05539f34e3ab25c109a86e3c54130d81223492c9983059fa95addfb9a1") false
  aJp (fun _ h=>by cases h) (by kernel_rfl) (fun _ h=>by cases h) clocksDomains_row_tie rfl ⟨rfl,rfl⟩ bBS rfl
  (fun f fn hf hfn=>by
    obtain rfl:f=5:=Option.some.inj ((show Tryz.prog.funcNamed "ratchet/ratchetlaw21.ClocksDomains" = some 5 from aQV).symm.trans hf) |>.symm
    obtain rfl:fn=Tryz.f5:=(Option.some.inj (Tryz.func5.symm.trans hfn)).symm
    exact⟨by kernel_rfl,fun j t ht=>by
     have hpar:Tryz.f5.params=#[31]:=by kernel_rfl
     rw[hpar]at ht
     have hm:t∈[31]:=by simpa using Array.mem_of_getElem? ht
     have hall:([31].all fun u=>!Tryz.prog.wantsStandIn u)=true:=by kernel_rfl
     exact (show Tryz.prog.wantsStandIn t=false by simpa using List.all_eq_true.1 hall t hm)⟩)
  bUY
end Go.Proofs.YtkmbhgggpfbffaaGreatDoor
