/- Each function that is reached as a function on plain data, and that the version comes to it. -/
import Derived.Test.YtkmbhgggpfbffaaGreatDoorCDF0
set_option linter.unusedVariables false
set_option linter.unusedSimpArgs false
set_option linter.constructorNameAsVariable false
set_option maxRecDepth 100000
namespace Go.Proofs.YtkmbhgggpfbffaaGreatDoor
namespace Am
noncomputable section
variable (N:Nat) {R:Type}
def aHe (a0 a1:Int)(a2:List (Int×Int))(k0:zk3 (Int->Option R)):Option R:=(aIt N a0 a1 (fun y1 y2 y3 y4 y5 y6 y7=>(bif decide (y7≠0)then (k0 [] [] y7)else (aHV N a2 a1 (fun y8=>(bif decide (y8≠0)then (k0 [] [] y8)else (bif decide (a0<0)then none else (aEp N y1 y2 y3 y4 y5 y6 [] a2 (aPi .i64 1 a0) (fun y9 y10 y11 y12=>(k0 y9 y10 y11))))))))))
def bSY:CfS R:=u1 (bTx N) 26 ⟨[.agg [pI,pI],pL [hI,hI]],[]⟩ ⟨[pL [hI],pL [hI],pI],[]⟩ (aHe N)
theorem aUy:FOK (bSY N:CfS R) (aAo T):=uCk (bDY N) c26 (rp:=[⟨[pL [hI],pL [hI],pI],[]⟩])
def aCA (N:Nat)(k0:Bool->Option R)(k1:Option R):Nat->zk3 (Int->Option R)
 | 0,_,_,_=>none
 | n+1,b0,b1,b2=>(bif decide (b2<((b0.length:Nat):Int))then ((at? b0 b2).bind fun x1=>((at? b1 b2).bind fun x2=>(bif decide (x1≠x2)then (k0 false)else (aCA N k0 k1 n b0 b1 (w64 (b2+1))))))else k1)
def P212_l0:SP:=⟨[(0,pL [hI]),(1,pL [hI]),(5,pI)],[]⟩
def aVT:Nat->P212_l0.den->KS R->Option R:=eS P212_l0 fun k=>aCA N (qS k .ret ⟨[(4,pB)],[]⟩) (qS k (.ex 0) ⟨[],[]⟩)
theorem bBP:LpG T P212_l0 (aVT N (R:=R)) [0,1,5] aZh:=lpk (aUy N) 58
def bHp:LpS R:=aCc noL 58 (aAx P212_l0 (aVT N N))
def aCr (a0 a1:List Int)(k0:Bool->Option R):Option R:=(bif decide (((a0.length:Nat):Int)≠((a1.length:Nat):Int))then (k0 false)else (aCA N k0 (k0 true) N a0 a1 0))
def bRR:CfS R:=u1 (bSY N) 23 ⟨[pL [hI],pL [hI]],[]⟩ ⟨[pB],[]⟩ (aCr N)
theorem aWv:FOK (bRR N:CfS R) (aAo T):=uCk (aUy N) c23 (Lp:=(bHp N)) (hl:=(aAi (l:=[(58,[0,1,5],aZh)]) (by kernel_rfl) ⟨(aAf (bBP N N)),trivial⟩))
def aE1 (k0:Bool->Option R)(k1:Option R):Nat->List (List Int)->List (List Int)->Int->Option R
 | 0,_,_,_=>none
 | n+1,b0,b1,b2=>(bif decide (b2<((b0.length:Nat):Int))then ((at? b0 b2).bind fun x1=>((at? b1 b2).bind fun x2=>(aCr N x1 x2 (fun y3=>(bif (!y3)then (k0 false)else (aE1 k0 k1 n b0 b1 (w64 (b2+1))))))))else k1)
def P213_l0:SP:=⟨[(0,pL zs6),(1,pL zs6),(5,pI)],[]⟩
def aW4:Nat->P213_l0.den->KS R->Option R:=eS P213_l0 fun k=>aE1 N (qS k .ret ⟨[(4,pB)],[]⟩) (qS k (.ex 0) ⟨[],[]⟩)
theorem bFw:LpG T P213_l0 (aW4 N (R:=R)) [0,1,5] aZn:=lpk (aWv N) 58
def bI6:LpS R:=aCc noL 58 (aAx P213_l0 (aW4 N N))
def aHt (a0 a1:List (List Int))(k0:Bool->Option R):Option R:=(bif decide (((a0.length:Nat):Int)≠((a1.length:Nat):Int))then (k0 false)else (aE1 N k0 (k0 true) N a0 a1 0))
def bQt:CfS R:=u1 (bRR N) 68 ⟨[pL zs6,pL zs6],[]⟩ ⟨[pB],[]⟩ (aHt N)
theorem aJD:FOK (bQt N:CfS R) (aAo T):=uCk (aWv N) c68 (Lp:=(bI6 N)) (hl:=(aAi (l:=[(58,[0,1,5],aZn)]) (by kernel_rfl) ⟨(aAf (bFw N N)),trivial⟩))
def bGt:Nat->Option (List Sh):=fun n=>if n=34000 then some [hI]else if n=43000 then some [hI,.sl [hI]]else if n=57000 then some [hI,hI]else if n=70000 then some [hI]else if n=95000 then some [hI]else if n=96000 then some [hI]else if n=97000 then some [hI]else if n=98000 then some [hI]else if n=99000 then some [.sl [hI]]else if n=108000 then some [hI]else if n=113000 then some [hI]else none
def aGi (k0:Bool->Option R)(b0:List Int)(b1:Int)(b2:zt8)(b3:Int)(b4:List (List Int))(b5:Int)(b6 b7:List Int)(b8:Int):Option R:=(bif decide (b1=0)then (aCr N b0 [0,1] (fun y1=>(bif y1 then (bif decide (b3=0)then (bif decide (((b2.length:Nat):Int)=1)then ((at? b2 0).bind fun x2=>(bif (false != (decide (x2.1=0)&&(decide (x2.2.1=1)&&(decide (x2.2.2=2)&&true))))then (bif decide (b5=0)then (aHt N b4 [[0,0,0],[1,0,0],[1,1,0],[1,1,1]] (fun y3=>(bif y3 then (bif decide (b8=0)then (aCr N b6 [5,6] (fun y4=>(bif y4 then (aCr N b7 [5] k0)else (k0 false))))else (k0 false))else (k0 false))))else (k0 false))else (k0 false)))else (k0 false))else (k0 false))else (k0 false))))else (k0 false))
def P214_j4:SP:=⟨[(3,pL [hI]),(4,pI),(5,pL zs5),(6,pI),(8,pL zs6),(9,pI),(10,pL [hI]),(11,pL [hI]),(12,pI)],[]⟩
def aXk:Nat->P214_j4.den->KS R->Option R:=jS P214_j4 fun k=>aGi N (qS k .ret ⟨[(0,pB)],[]⟩)
theorem bED:LpG T P214_j4 (aXk N (R:=R)) [3,4,5,6,8,9,10,11,12] aZw:=lpk (aJD N) 4071970 (H:=bGt)
def bAY:LpS R:=aCc noL 4071970 (aAx P214_j4 (aXk N 1))
def aGj (k0:Bool->Option R)(b0:List Int)(b1:Int)(b2:zt8)(b3:Int)(b4:List (List Int))(b5:Int):Option R:=(aHe N 1 4 [(0,5),(0,6),(0,7),(1,1),(1,1),(1,1)] (fun y1 y2 y3=>(aGi N k0 b0 b1 b2 b3 b4 b5 y1 y2 y3)))
def P214_j3:SP:=⟨[(3,pL [hI]),(4,pI),(5,pL zs5),(6,pI),(8,pL zs6),(9,pI)],[]⟩
def aXj:Nat->P214_j3.den->KS R->Option R:=jS P214_j3 fun k=>aGj N (qS k .ret ⟨[(0,pB)],[]⟩)
theorem bC1:LpG T P214_j3 (aXj N (R:=R)) [3,4,5,6,8,9] bBs:=lpk (aJD N) 254498 (H:=bGt) (Lp:=(bAY N)) (hl:=(aAi (l:=[(4071970,[3,4,5,6,8,9,10,11,12],aZw)]) (by kernel_rfl) ⟨(aAf (bED N 1)),trivial⟩))
def bAP:LpS R:=aCc (bAY N) 254498 (aAx P214_j3 (aXj N 1))
def aGo (k0:Bool->Option R)(b0:List Int)(b1:Int)(b2:zt8)(b3:Int)(b4:ByteArray)(b5:zt7)(b6:zt1)(b7:zt2)(b8:zt0)(b9:zt7)(b10:List Int):Option R:=(aKg N b4 b5 b6 b7 b8 b9 [] [(0,b10),(1,b10),(1,b10)] (fun y1 y2=>(aGj N k0 b0 b1 b2 b3 y1 y2)))
def P214_j2:SP:=⟨[(1,.ptr 0 0),(3,pL [hI]),(4,pI),(5,pL zs5),(6,pI),(7,.own 1)],[(0,.box zb8),(1,.arr [hI])]⟩
def aTF:Nat->P214_j2.den->KS R->Option R:=jS P214_j2 fun k=>aGo N (qS k .ret ⟨[(0,pB)],[]⟩)
theorem bCO:LpG T P214_j2 (aTF N (R:=R)) [1,3,4,5,6,7] aZW:=lpk (aJD N) 15906 (H:=bGt) (Lp:=(bAP N)) (hl:=(aAi (l:=[(254498,[3,4,5,6,8,9],bBs)]) (by kernel_rfl) ⟨(aAf (bC1 N 1)),trivial⟩))
def bAQ:LpS R:=aCc (bAP N) 15906 (aAx P214_j2 (aTF N 1))
def aGe (k0:Bool->Option R)(b0:List Int)(b1:Int)(b2:zt8)(b3:Int)(b4:ByteArray)(b5:zt7)(b6:zt1)(b7:zt2)(b8:zt0)(b9:zt7):Option R:=(aGo N k0 b0 b1 b2 b3 b4 b5 b6 b7 b8 b9 [1])
def P214_j1:SP:=⟨[(1,.ptr 0 0),(3,pL [hI]),(4,pI),(5,pL zs5),(6,pI)],[(0,.box zb8)]⟩
def aWY:Nat->P214_j1.den->KS R->Option R:=jS P214_j1 fun k=>aGe N (qS k .ret ⟨[(0,pB)],[]⟩)
theorem bEF:LpG T P214_j1 (aWY N (R:=R)) [1,3,4,5,6] aZt:=lpk (aJD N) 994 (H:=bGt) (Lp:=(bAQ N)) (hl:=(aAi (l:=[(15906,[1,3,4,5,6,7],aZW)]) (by kernel_rfl) ⟨(aAf (bCO N 1)),trivial⟩))
def bAf:LpS R:=aCc (bAQ N) 994 (aAx P214_j1 (aWY N 1))
def aGl (k0:Bool->Option R)(b0:List Int)(b1:Int)(b2:ByteArray)(b3:zt7)(b4:zt1)(b5:zt2)(b6:zt0)(b7:zt7):Option R:=(aA6 N b2 b3 b4 b5 b6 b7 [] (fun y1 y2 y3 y4 y5 y6 y7=>(aIB N y1 y2 y3 y4 y5 y6 y7 (fun y8 y9=>(aGe N k0 b0 b1 y8 y9 b2 b3 b4 b5 b6 b7)))))
def P214_j0:SP:=⟨[(1,.ptr 0 0),(3,pL [hI]),(4,pI)],[(0,.box zb8)]⟩
def aXd:Nat->P214_j0.den->KS R->Option R:=jS P214_j0 fun k=>aGl N (qS k .ret ⟨[(0,pB)],[]⟩)
theorem bGj:LpG T P214_j0 (aXd N (R:=R)) [1,3,4] aZ9:=lpk (aJD N) 62 (H:=bGt) (Lp:=(bAf N)) (hl:=(aAi (l:=[(994,[1,3,4,5,6],aZt)]) (by kernel_rfl) ⟨(aAf (bEF N 1)),trivial⟩))
def bIp:LpS R:=aCc (bAf N) 62 (aAx P214_j0 (aXd N 1))
def aFB (k0:Bool->Option R):Option R:=(aIy N 2 (fun y1 y2 y3 y4 y5 y6 y7=>(bif decide (y7≠0)then (k0 false)else (bif decide (((y5.length:Nat):Int)≠2)then (k0 false)else (aA6 N y1 y2 y3 y4 y5 y6 [] (fun y8 y9 y10 y11 y12 y13 y14=>(aDm N y8 y9 y10 y11 y12 y13 y14 (fun y15 y16=>(aGl N k0 y15 y16 y1 y2 y3 y4 y5 y6)))))))))
def bTi:CfS R:=u1 (bQt N) 12 ⟨[],[]⟩ ⟨[pB],[]⟩ (aFB N)
theorem aND:FOK (bTi N:CfS R) (aAo T):=uCk (aJD N) c12 (H:=bGt) (Lp:=(bIp N)) (hl:=(aAi (l:=[(62,[1,3,4],aZ9)]) (by kernel_rfl) ⟨(aAf (bGj N 1)),trivial⟩))
def aCb (N:Nat)(k0:Bool->Option R)(k1:zk0 (Option R)):Nat->Int->zk0 (Option R)
 | 0,_,_,_,_,_,_,_,_=>none
 | n+1,b0,b1,b2,b3,b4,b5,b6,b7=>(bif decide (b0<((b4.length:Nat):Int))then ((at? b4 b0).bind fun x1=>(bif decide (4<((x1.2.2.1.length:Nat):Int))then (k0 false)else (aCb N k0 k1 n (w64 (b0+1)) b1 b2 b3 b4 b5 b6 b7)))else (k1 b1 b2 b3 b4 b5 b6 b7))
def P215_l0:SP:=⟨[(1,.ptr 0 0),(3,pI)],[(0,.box zb2)]⟩
def aSn:Nat->P215_l0.den->KS R->Option R:=eS P215_l0 fun k=>aCb N (qS k .ret ⟨[(2,pB)],[]⟩) (qS k (.ex 0) ⟨[(1,.ptr 0 0)],[(0,.box zb2)]⟩)
theorem bCU:LpG T P215_l0 (aSn N (R:=R)) [1,3] bAX:=lpk (aND N) 58
def aZI:LpS R:=aCc noL 58 (aAx P215_l0 (aSn N N))
def aB8 (N:Nat)(k0:Bool->Option R)(k1:zk0 (Option R)):Nat->Int->zk0 (Option R)
 | 0,_,_,_,_,_,_,_,_=>none
 | n+1,b0,b1,b2,b3,b4,b5,b6,b7=>(bif decide (b0<((b5.length:Nat):Int))then ((at? b5 b0).bind fun x1=>(bif decide (8<((x1.2.2.length:Nat):Int))then (k0 false)else (aB8 N k0 k1 n (w64 (b0+1)) b1 b2 b3 b4 b5 b6 b7)))else (k1 b1 b2 b3 b4 b5 b6 b7))
def P215_l1:SP:=⟨[(1,.ptr 0 0),(4,pI)],[(0,.box zb2)]⟩
def aUf:Nat->P215_l1.den->KS R->Option R:=eS P215_l1 fun k=>aB8 N (qS k .ret ⟨[(2,pB)],[]⟩) (qS k (.ex 2) ⟨[(1,.ptr 0 0)],[(0,.box zb2)]⟩)
theorem bFT:LpG T P215_l1 (aUf N (R:=R)) [1,4] aZ5:=lpk (aND N) 122 (Lp:=(aZI N))
def bBd:LpS R:=aCc (aZI N) 122 (aAx P215_l1 (aUf N N))
def aB6 (N:Nat)(k0:Bool->Option R)(k1:Option R):Nat->Int->zk0 (Option R)
 | 0,_,_,_,_,_,_,_,_=>none
 | n+1,b0,b1,b2,b3,b4,b5,b6,b7=>(bif decide (b0<((b7.length:Nat):Int))then ((at? b7 b0).bind fun x1=>(bif decide (20<((x1.2.length:Nat):Int))then (k0 false)else (aB6 N k0 k1 n (w64 (b0+1)) b1 b2 b3 b4 b5 b6 b7)))else k1)
def P215_l2:SP:=⟨[(1,.ptr 0 0),(5,pI)],[(0,.box zb2)]⟩
def aWs:Nat->P215_l2.den->KS R->Option R:=eS P215_l2 fun k=>aB6 N (qS k .ret ⟨[(2,pB)],[]⟩) (qS k (.ex 4) ⟨[],[]⟩)
theorem bCP:LpG T P215_l2 (aWs N (R:=R)) [1,5] aY9:=lpk (aND N) 250 (Lp:=(bBd N))
def bIB:LpS R:=aCc (bBd N) 250 (aAx P215_l2 (aWs N N))
def aDs (a0:ByteArray)(a1:zt7)(a2:zt1)(a3:zt2)(a4:zt0)(a5:zt7)(a6:zt6)(k0:Bool->Option R):Option R:=(bif decide (60<((a3.length:Nat):Int))then (k0 false)else (bif decide (8<((a4.length:Nat):Int))then (k0 false)else (bif decide (12<((a2.length:Nat):Int))then (k0 false)else (bif decide (6<((a1.length:Nat):Int))then (k0 false)else (bif decide (6<((a5.length:Nat):Int))then (k0 false)else (bif decide (4<((a6.length:Nat):Int))then (k0 false)else (aCb N k0 (fun z3 z4 z5 z6 z7 z8 z9=>(aB8 N k0 (fun z11 z12 z13 z14 z15 z16 z17=>(aB6 N k0 (k0 true) N 0 z11 z12 z13 z14 z15 z16 z17)) N 0 z3 z4 z5 z6 z7 z8 z9)) N 0 a0 a1 a2 a3 a4 a5 a6)))))))
def bQ7:CfS R:=u1 (bTi N) 37 ⟨[.agg zb2],[]⟩ ⟨[pB],[]⟩ (aDs N)
theorem bBH:FOK (bQ7 N:CfS R) (aAo T):=uCk (aND N) c37 (Lp:=(bIB N)) (hl:=(aAi (l:=[(58,[1,3],bAX),(122,[1,4],aZ5),(250,[1,5],aY9)]) (by kernel_rfl) ⟨(aDL (by decide) (aDL (by decide) (aAf (bCU N N)))),(aDL (by decide) (aAf (bFT N N))),(aAf (bCP N N)),trivial⟩))
def bTM:Nat->Option (List Sh):=fun n=>if n=41000 then some [hI,hI]else none
def aFx (N:Nat):Option R:=none
def bSm:CfS R:=u2 (bQ7 N) 119 ⟨[.p (.nl 0)],[]⟩ (aFx N) fun f k=>f
theorem aUS:FOK (bSm N:CfS R) (aAo T):=uCk (bBH N) bGF (H:=bTM) (hl:=(aAi (l:=[(58,[0,3,13,14,15],aQa)]) (by kernel_rfl) ⟨(fun _ _ _ h=>by cases h),trivial⟩))
def bTw:Nat->Option (List Sh):=fun n=>if n=16000 then some [hI]else none
def aBX (N:Nat)(k0:zk0 (zk3 (Option R))):Nat->zk0 (List Int->(List (Int×Int))->zk1 (List Int->Option R))
 | 0,_,_,_,_,_,_,_,_,_,_,_,_=>none
 | n+1,b0,b1,b2,b3,b4,b5,b6,b7,b8,b9,b10,b11=>(bif decide (b10<b9)then ((at? b8 b10).bind fun x1=>(bif aBU (b11.length+1) 8 then (aBX N k0 n b0 b1 b2 b3 b4 b5 b6 b7 b8 b9 (w64 (b10+1)) (b11++[x1.1]))else none))else (k0 b0 b1 b2 b3 b4 b5 b6 b7 b11))
def P217_l0:SP:=⟨[(0,.p (.cp [.s .s,.s (.sl [.s,hI]),.s (.sl [.s,hI,hI,hI,hI]),.s (.sl [hI,hI,.sl [hI],hI]),.s (.sl [.s,hI,.sl [hI,hI,hI]]),.s (.sl [.s,hI]),.s (.sl [hI,.sl [hI]]),.s (.sl [hI])])),(5,.own 0),(9,pL [hI,hI]),(10,pI),(11,pI)],[(0,.arr [hI])]⟩
def aXm:Nat->P217_l0.den->KS R->Option R:=eS P217_l0 fun k=>aBX N (qS k (.ex 0) ⟨[(0,.p (.cp [.s .s,.s (.sl [.s,hI]),.s (.sl [.s,hI,hI,hI,hI]),.s (.sl [hI,hI,.sl [hI],hI]),.s (.sl [.s,hI,.sl [hI,hI,hI]]),.s (.sl [.s,hI]),.s (.sl [hI,.sl [hI]]),.s (.sl [hI])])),(5,.own 0)],[(0,.arr [hI])]⟩)
theorem bCY:LpG T P217_l0 (aXm N (R:=R)) [0,5,9,10,11] aS4:=lpk (aUS N) 58 (H:=bTw)
def bJO:LpS R:=aCc noL 58 (aAx P217_l0 (aXm N N))
def aD2 (a0:ByteArray)(a1:zt7)(a2:zt1)(a3:zt2)(a4:zt0)(a5:zt7)(a6:zt6)(a7:List Int)(a8:ByteArray)(a9:Int)(a10:zt8)(k0:List Int->Option R):Option R:=(aGn N a8 a9 a10 (fun y1=>(aBX N (fun z2 z3 z4 z5 z6 z7 z8 z9 z10=>(aDc N z2 z3 z4 z5 z6 z7 z8 z9 z10 k0)) N a0 a1 a2 a3 a4 a5 a6 a7 y1 ((y1.length:Nat):Int) 0 [])))
def bTn:CfS R:=u1 (bSm N) 168 ⟨[.p (.cp [.s .s,.s (.sl [.s,hI]),.s (.sl [.s,hI,hI,hI,hI]),.s (.sl [hI,hI,.sl [hI],hI]),.s (.sl [.s,hI,.sl [hI,hI,hI]]),.s (.sl [.s,hI]),.s (.sl [hI,.sl [hI]]),.s (.sl [hI])]),.agg [pS,pI,pL zs5]],[]⟩ ⟨[pL [hI]],[]⟩ (aD2 N)
theorem aPJ:FOK (bTn N:CfS R) (aAo T):=uCk (aUS N) bLT (H:=bTw) (Lp:=(bJO N)) (hl:=(aAi (l:=[(58,[0,5,9,10,11],aS4)]) (by kernel_rfl) ⟨(aAf (bCY N N)),trivial⟩))
def bMK:Nat->Option (List Sh):=fun n=>if n=41000 then some [hI,hI]else none
def aAL (k0:zk0 (List Int->zt0->zk1 ((List (Int×Int))->Option R))):Nat->zk0 (List Int->zk1 (zt0->zk1 (List Int->zk1 ((List (Int×Int))->Option R))))
 | 0,_,_,_,_,_,_,_,_,_,_,_,_,_,_,_,_,_=>none
 | n+1,b0,b1,b2,b3,b4,b5,b6,b7,b8,b9,b10,b11,b12,b13,b14,b15,b16=>(bif decide (b15<b14)then ((at? b13 b15).bind fun x1=>(aAQ N b0 b1 b2 b3 b4 b5 b6 b7 x1 (fun y2=>(bif decide (y2≠b9)then (bif aBU (b16.length+1) 16 then (aAL k0 n b0 b1 b2 b3 b4 b5 b6 b7 b8 b9 b10 b11 b12 b13 b14 (w64 (b15+1)) (b16++[(b8,x1)]))else none)else (aAL k0 n b0 b1 b2 b3 b4 b5 b6 b7 b8 b9 b10 b11 b12 b13 b14 (w64 (b15+1)) b16)))))else (k0 b0 b1 b2 b3 b4 b5 b6 b7 b10 b11 b12 b16))
def P218_l1:SP:=⟨[(0,.p (.cp [.s .s,.s (.sl [.s,hI]),.s (.sl [.s,hI,hI,hI,hI]),.s (.sl [hI,hI,.sl [hI],hI]),.s (.sl [.s,hI,.sl [hI,hI,hI]]),.s (.sl [.s,hI]),.s (.sl [hI,.sl [hI]]),.s (.sl [hI])])),(3,.own 0),(4,pI),(6,pI),(13,pL zs0),(14,pI),(15,pI),(27,pL [hI]),(28,pI),(29,pI)],[(0,.arr [hI,hI])]⟩
def aUP:Nat->P218_l1.den->KS R->Option R:=eS P218_l1 fun k=>aAL N (qS k (.ex 2) ⟨[(0,.p (.cp [.s .s,.s (.sl [.s,hI]),.s (.sl [.s,hI,hI,hI,hI]),.s (.sl [hI,hI,.sl [hI],hI]),.s (.sl [.s,hI,.sl [hI,hI,hI]]),.s (.sl [.s,hI]),.s (.sl [hI,.sl [hI]]),.s (.sl [hI])])),(3,.own 0),(13,pL zs0),(14,pI),(15,pI)],[(0,.arr [hI,hI])]⟩)
theorem bEe:LpG T P218_l1 (aUP N (R:=R)) [0,3,4,6,13,14,15,27,28,29] aT4:=lpk (aPJ N) 59806 (H:=bMK)
def bA4:LpS R:=aCc noL 59806 (aAx P218_l1 (aUP N N))
def aAM (k0:(List (Int×Int))->Option R):Nat->zk0 (List Int->zt0->zk1 ((List (Int×Int))->Option R))
 | 0,_,_,_,_,_,_,_,_,_,_,_,_=>none
 | n+1,b0,b1,b2,b3,b4,b5,b6,b7,b8,b9,b10,b11=>(bif decide (b10<b9)then ((at? b8 b10).bind fun x1=>(aDk N b0 b1 b2 b3 b4 b5 b6 b7 x1.1 x1.2.1 x1.2.2 (fun y2=>(bif decide (y2=(-1))then (aAM k0 n b0 b1 b2 b3 b4 b5 b6 b7 b8 b9 (w64 (b10+1)) b11)else (aD2 N b0 b1 b2 b3 b4 b5 b6 b7 x1.1 x1.2.1 x1.2.2 (fun y3=>(aAL N (fun z4 z5 z6 z7 z8 z9 z10 z11 z12 z13 z14 z15=>(aAM k0 n z4 z5 z6 z7 z8 z9 z10 z11 z12 z13 (w64 (z14+1)) z15)) N b0 b1 b2 b3 b4 b5 b6 b7 b10 y2 b8 b9 b10 y3 ((y3.length:Nat):Int) 0 b11)))))))else (k0 b11))
def P218_l0:SP:=⟨[(0,.p (.cp [.s .s,.s (.sl [.s,hI]),.s (.sl [.s,hI,hI,hI,hI]),.s (.sl [hI,hI,.sl [hI],hI]),.s (.sl [.s,hI,.sl [hI,hI,hI]]),.s (.sl [.s,hI]),.s (.sl [hI,.sl [hI]]),.s (.sl [hI])])),(3,.own 0),(13,pL zs0),(14,pI),(15,pI)],[(0,.arr [hI,hI])]⟩
def aW3:Nat->P218_l0.den->KS R->Option R:=eS P218_l0 fun k=>aAM N (qS k (.ex 0) ⟨[(3,.own 0)],[(0,.arr [hI,hI])]⟩)
theorem bCW:LpG T P218_l0 (aW3 N (R:=R)) [0,3,13,14,15] aQa:=lpk (aPJ N) 58 (H:=bMK) (Lp:=(bA4 N)) (hl:=(aAi (l:=[(59806,[0,3,4,6,13,14,15,27,28,29],aT4)]) (by kernel_rfl) ⟨(aAf (bEe N N)),trivial⟩))
def bIW:LpS R:=aCc (bA4 N) 58 (aAx P218_l0 (aW3 N N))
def aDj (a0:ByteArray)(a1:zt7)(a2:zt1)(a3:zt2)(a4:zt0)(a5:zt7)(a6:zt6)(a7:List Int)(k0:(List (Int×Int))->Option R):Option R:=(aAM N k0 N a0 a1 a2 a3 a4 a5 a6 a7 a4 ((a4.length:Nat):Int) 0 [])
def bTt:CfS R:=u1 (bTn N) 119 ⟨[.p (.cp [.s .s,.s (.sl [.s,hI]),.s (.sl [.s,hI,hI,hI,hI]),.s (.sl [hI,hI,.sl [hI],hI]),.s (.sl [.s,hI,.sl [hI,hI,hI]]),.s (.sl [.s,hI]),.s (.sl [hI,.sl [hI]]),.s (.sl [hI])])],[]⟩ ⟨[pL [hI,hI]],[]⟩ (aDj N)
theorem bBV:FOK (bTt N:CfS R) (aAo T):=uCk (aPJ N) bGF (H:=bMK) (Lp:=(bIW N)) (hl:=(aAi (l:=[(58,[0,3,13,14,15],aQa)]) (by kernel_rfl) ⟨(aAf (bCW N N)),trivial⟩))
def aEs (a0:ByteArray)(a1:zt7)(a2:zt1)(a3:zt2)(a4:zt0)(a5:zt7)(a6:zt6)(k0:(List (Int×Int))->Int->Option R):Option R:=(aDo N a0 a1 a2 a3 a4 a5 a6 (fun y1=>(bif decide (y1≠0)then (k0 [] y1)else (aFx N))) (fun y2 y3 y4 y5 y6 y7 y8 y9 y10=>(bif decide (y10≠0)then (k0 [] y10)else (aDj N y2 y3 y4 y5 y6 y7 y8 y9 (fun y11=>(k0 y11 0))))))
def bQJ:CfS R:=u1 (bTt N) 40 ⟨[.agg zb2],[]⟩ ⟨[pL [hI,hI],pI],[]⟩ (aEs N)
theorem aP9:FOK (bQJ N:CfS R) (aAo T):=uCk (bBV N) c40 (rp:=[⟨[pL [hI,hI],pI],[]⟩])
def aA3 (N:Nat)(k0:Bool->Option R)(k1:ByteArray->Int->Option R)(b0:ByteArray)(b1 b2:Int)(b3:Bool):Option R:=(bif (!b3)then (bif decide (b1=0)then (k0 false)else (bif decide (b2≠95)then (bif decide (b2<48)then (k0 false)else (bif decide (57<b2)then (k0 false)else (k1 b0 b1)))else (k1 b0 b1)))else (k1 b0 b1))
def P220_j0:SP:=⟨[(0,pS),(3,pI),(4,.p (.s (.i .u8))),(5,pB)],[]⟩
def aTk:Nat->P220_j0.den->KS R->Option R:=jS P220_j0 fun k=>aA3 N (qS k .ret ⟨[(2,pB)],[]⟩) (qS k (.ex 1001865) ⟨[(0,pS),(3,pI)],[]⟩)
theorem bB0:LpG T P220_j0 (aTk N (R:=R)) [0,3,4,5] aTx:=lpk (aP9 N) 7462
def aZK:LpS R:=aCc noL 7462 (aAx P220_j0 (aTk N 1))
def aAC (k0:Bool->Option R)(k1:Option R):Nat->ByteArray->Int->Option R
 | 0,_,_=>none
 | n+1,b0,b1=>(bif decide (b1<((b0.size:Nat):Int))then ((aJd b0 b1).bind fun x1=>(bif decide (97<=x1)then (bif decide (x1<=122)then (aA3 N k0 (fun z3 z4=>(aAC k0 k1 n z3 (w64 (z4+1)))) b0 b1 x1 true)else (bif decide (65<=x1)then (aA3 N k0 (fun z6 z7=>(aAC k0 k1 n z6 (w64 (z7+1)))) b0 b1 x1 (decide (x1<=90)))else (aA3 N k0 (fun z9 z10=>(aAC k0 k1 n z9 (w64 (z10+1)))) b0 b1 x1 false)))else (bif decide (65<=x1)then (aA3 N k0 (fun z12 z13=>(aAC k0 k1 n z12 (w64 (z13+1)))) b0 b1 x1 (decide (x1<=90)))else (aA3 N k0 (fun z15 z16=>(aAC k0 k1 n z15 (w64 (z16+1)))) b0 b1 x1 false))))else k1)
def P220_l0:SP:=⟨[(0,pS),(3,pI)],[]⟩
def aSQ:Nat->P220_l0.den->KS R->Option R:=eS P220_l0 fun k=>aAC N (qS k .ret ⟨[(2,pB)],[]⟩) (qS k (.ex 0) ⟨[],[]⟩)
theorem bCr:LpG T P220_l0 (aSQ N (R:=R)) [0,3] aSc:=lpk (aP9 N) 58 (Lp:=(aZK N)) (hl:=(aAi (l:=[(7462,[0,3,4,5],aTx)]) (by kernel_rfl) ⟨(aAf (bB0 N 1)),trivial⟩))
def bIY:LpS R:=aCc (aZK N) 58 (aAx P220_l0 (aSQ N N))
def aBW (a0:ByteArray)(k0:Bool->Option R):Option R:=(bif decide (((a0.size:Nat):Int)<1)then (k0 false)else (bif decide (16<((a0.size:Nat):Int))then (k0 false)else (aAC N k0 (k0 true) N a0 0)))
def bQS:CfS R:=u1 (bQJ N) 169 ⟨[pS],[]⟩ ⟨[pB],[]⟩ (aBW N)
theorem bDy:FOK (bQS N:CfS R) (aAo T):=uCk (aP9 N) bH7 (Lp:=(bIY N)) (hl:=(aAi (l:=[(58,[0,3],aSc)]) (by kernel_rfl) ⟨(aAf (bCr N N)),trivial⟩))
def aAz (N:Nat)(a0 a1 a2:Int)(k0:Bool->Option R):Option R:=(bif decide (a1<=a0)then (k0 (decide (a0<=a2)))else (k0 false))
def bS2:CfS R:=u1 (bQS N) 14 ⟨[pI,pI,pI],[]⟩ ⟨[pB],[]⟩ (aAz N)
theorem bFX:FOK (bS2 N:CfS R) (aAo T):=uCk (bDy N) c14
def aCz (a0:Int)(k0:Bool->Option R):Option R:=(aAz N a0 1 16 k0)
def bTk:CfS R:=u1 (bS2 N) 246 ⟨[pI],[]⟩ ⟨[pB],[]⟩ (aCz N)
theorem aPQ:FOK (bTk N:CfS R) (aAo T):=uCk (bFX N) bNF
def aBJ (N:Nat)(k0:zk1 (Option R))(k1:zt7->Int->Option R):Nat->zt7->zk1 (Option R)
 | 0,_,_,_=>none
 | n+1,b0,b1,b2=>(bif decide (b2<b1)then ((at? b0 b2).bind fun x1=>((at? b0 b1).bind fun x2=>(bif decide (x1.1=x2.1)then (k0 b1 5)else (aBJ N k0 k1 n b0 b1 (w64 (b2+1))))))else (k1 b0 b1))
def P223_l1:SP:=⟨[(0,pL [.s,hI]),(4,pI),(5,pI)],[]⟩
def aSa:Nat->P223_l1.den->KS R->Option R:=eS P223_l1 fun k=>aBJ N (qS k .ret ⟨[(2,pI),(3,pI)],[]⟩) (qS k (.ex 2) ⟨[(0,pL [.s,hI]),(4,pI)],[]⟩)
theorem bBM:LpG T P223_l1 (aSa N (R:=R)) [0,4,5] aWZ:=lpk (aPQ N) 14922
def bAb:LpS R:=aCc noL 14922 (aAx P223_l1 (aSa N N))
def aBM (k0:zk1 (Option R))(k1:Option R):Nat->zt7->Int->Option R
 | 0,_,_=>none
 | n+1,b0,b1=>(bif decide (b1<((b0.length:Nat):Int))then ((at? b0 b1).bind fun x1=>(aBW N x1.1 (fun y2=>(bif (!y2)then (k0 b1 4)else (aBJ N k0 (fun z5 z6=>((at? z5 z6).bind fun x7=>(aCz N x7.2 (fun y8=>(bif (!y8)then (k0 z6 2)else (aBM k0 k1 n z5 (w64 (z6+1)))))))) N b0 b1 0)))))else k1)
def P223_l0:SP:=⟨[(0,pL [.s,hI]),(4,pI)],[]⟩
def aUR:Nat->P223_l0.den->KS R->Option R:=eS P223_l0 fun k=>aBM N (qS k .ret ⟨[(2,pI),(3,pI)],[]⟩) (qS k (.ex 0) ⟨[],[]⟩)
theorem bDi:LpG T P223_l0 (aUR N (R:=R)) [0,4] aW5:=lpk (aPQ N) 58 (Lp:=(bAb N)) (hl:=(aAi (l:=[(14922,[0,4,5],aWZ)]) (by kernel_rfl) ⟨(aAf (bBM N N)),trivial⟩))
def bJX:LpS R:=aCc (bAb N) 58 (aAx P223_l0 (aUR N N))
def aDD (a0:zt7)(k0:zk1 (Option R)):Option R:=(bif decide (12<((a0.length:Nat):Int))then (k0 0 8)else (aBM N k0 (k0 0 0) N a0 0))
def bR7:CfS R:=u1 (bTk N) 170 ⟨[pL [.s,hI]],[]⟩ ⟨[pI,pI],[]⟩ (aDD N)
theorem bEz:FOK (bR7 N:CfS R) (aAo T):=uCk (aPQ N) bHG (Lp:=(bJX N)) (hl:=(aAi (l:=[(58,[0,4],aW5)]) (by kernel_rfl) ⟨(aAf (bDi N N)),trivial⟩))
def aEO (N:Nat)(a0:Int)(k0:Int->Option R):Option R:=(bif decide (a0<0)then none else (k0 (aPi .i64 1 a0)))
def bSU:CfS R:=u1 (bR7 N) 33 ⟨[pI],[]⟩ ⟨[pI],[]⟩ (aEO N)
theorem bCz:FOK (bSU N:CfS R) (aAo T):=uCk (bEz N) c33
def aEg (a0 a1:Int)(k0:Bool->Option R):Option R:=(aEO N a1 (fun y1=>(aAz N a0 0 (w64 (y1-1)) k0)))
def bQZ:CfS R:=u1 (bSU N) 109 ⟨[pI,pI],[]⟩ ⟨[pB],[]⟩ (aEg N)
theorem aNk:FOK (bQZ N:CfS R) (aAo T):=uCk (bCz N) bNz
def aBc (N:Nat)(k0:zk1 (Option R))(k1:zt7->zt1->Int->Option R):Nat->zt7->zt1->zk1 (Option R)
 | 0,_,_,_,_=>none
 | n+1,b0,b1,b2,b3=>(bif decide (b3<b2)then ((at? b1 b3).bind fun x1=>((at? b1 b2).bind fun x2=>(bif decide (x1.1=x2.1)then (k0 b2 5)else (aBc N k0 k1 n b0 b1 b2 (w64 (b3+1))))))else (k1 b0 b1 b2))
def P226_l1:SP:=⟨[(0,pL [.s,hI]),(1,pL zs2),(6,pI),(7,pI)],[]⟩
def aSH:Nat->P226_l1.den->KS R->Option R:=eS P226_l1 fun k=>aBc N (qS k .ret ⟨[(4,pI),(5,pI)],[]⟩) (qS k (.ex 2) ⟨[(0,pL [.s,hI]),(1,pL zs2),(6,pI)],[]⟩)
theorem bFv:LpG T P226_l1 (aSH N (R:=R)) [0,1,6,7] aTW:=lpk (aNk N) 14922
def bA8:LpS R:=aCc noL 14922 (aAx P226_l1 (aSH N N))
def aBd (N:Nat)(k0:zk1 (Option R))(k1:zt7->zt1->Int->Option R):Nat->zt7->zt1->zk1 (Option R)
 | 0,_,_,_,_=>none
 | n+1,b0,b1,b2,b3=>(bif decide (b3<((b0.length:Nat):Int))then ((at? b0 b3).bind fun x1=>((at? b1 b2).bind fun x2=>(bif decide (x1.1=x2.1)then (k0 b2 5)else (aBd N k0 k1 n b0 b1 b2 (w64 (b3+1))))))else (k1 b0 b1 b2))
def P226_l2:SP:=⟨[(0,pL [.s,hI]),(1,pL zs2),(6,pI),(8,pI)],[]⟩
def aUp:Nat->P226_l2.den->KS R->Option R:=eS P226_l2 fun k=>aBd N (qS k .ret ⟨[(4,pI),(5,pI)],[]⟩) (qS k (.ex 4) ⟨[(0,pL [.s,hI]),(1,pL zs2),(6,pI)],[]⟩)
theorem bDI:LpG T P226_l2 (aUp N (R:=R)) [0,1,6,8] aVz:=lpk (aNk N) 29850 (Lp:=(bA8 N))
def aZB:LpS R:=aCc (bA8 N) 29850 (aAx P226_l2 (aUp N N))
def aBb (k0:zk1 (Option R))(k1:Option R):Nat->zt7->zt1->Int->Option R
 | 0,_,_,_=>none
 | n+1,b0,b1,b2=>(bif decide (b2<((b1.length:Nat):Int))then ((at? b1 b2).bind fun x1=>(aBW N x1.1 (fun y2=>(bif (!y2)then (k0 b2 4)else (aBc N k0 (fun z5 z6 z7=>(aBd N k0 (fun z10 z11 z12=>((at? z11 z12).bind fun x13=>(aAz N x13.2.1 0 1 (fun y14=>(bif (!y14)then (k0 z12 15)else ((at? z11 z12).bind fun x15=>(aCz N x15.2.2.1 (fun y16=>(bif (!y16)then (k0 z12 2)else ((at? z11 z12).bind fun x17=>((at? z11 z12).bind fun x18=>(aEg N x17.2.2.2.1 x18.2.2.1 (fun y19=>(bif (!y19)then (k0 z12 2)else ((at? z11 z12).bind fun x20=>(aAz N x20.2.2.2.2 0 3 (fun y21=>(bif (!y21)then (k0 z12 2)else (aBb k0 k1 n z10 z11 (w64 (z12+1))))))))))))))))))))) N z5 z6 z7 0)) N b0 b1 b2 0)))))else k1)
def P226_l0:SP:=⟨[(0,pL [.s,hI]),(1,pL zs2),(6,pI)],[]⟩
def aSO:Nat->P226_l0.den->KS R->Option R:=eS P226_l0 fun k=>aBb N (qS k .ret ⟨[(4,pI),(5,pI)],[]⟩) (qS k (.ex 0) ⟨[],[]⟩)
theorem bFA:LpG T P226_l0 (aSO N (R:=R)) [0,1,6] aTC:=lpk (aNk N) 58 (Lp:=(aZB N)) (hl:=(aAi (l:=[(14922,[0,1,6,7],aTW),(29850,[0,1,6,8],aVz)]) (by kernel_rfl) ⟨(aDL (by decide) (aAf (bFv N N))),(aAf (bDI N N)),trivial⟩))
def bJW:LpS R:=aCc (aZB N) 58 (aAx P226_l0 (aSO N N))
def aC0 (a0:zt7)(a1:zt1)(k0:zk1 (Option R)):Option R:=(bif decide (40<(w64 (((a0.length:Nat):Int)+((a1.length:Nat):Int))))then (k0 0 8)else (aBb N k0 (k0 0 0) N a0 a1 0))
def bSc:CfS R:=u1 (bQZ N) 171 ⟨[pL [.s,hI],pL zs2],[]⟩ ⟨[pI,pI],[]⟩ (aC0 N)
theorem aPw:FOK (bSc N:CfS R) (aAo T):=uCk (aNk N) bGu (Lp:=(bJW N)) (hl:=(aAi (l:=[(58,[0,1,6],aTC)]) (by kernel_rfl) ⟨(aAf (bFA N N)),trivial⟩))
def bPT:Nat->Option (List Sh):=fun n=>if n=17000 then some [hI]else if n=36000 then some [hI]else none
def aB5 (N:Nat)(k0:zk0 (List Int->Option R)):Nat->Int->zk0 (List Int->Option R)
 | 0,_,_,_,_,_,_,_,_,_=>none
 | n+1,b0,b1,b2,b3,b4,b5,b6,b7,b8=>(bif decide (b0<((b2.length:Nat):Int))then ((at? b2 b0).bind fun x1=>(bif aBU (b8.length+1) 8 then (aB5 N k0 n (w64 (b0+1)) b1 b2 b3 b4 b5 b6 b7 (b8++[x1.2]))else none))else (k0 b1 b2 b3 b4 b5 b6 b7 b8))
def P227_l0:SP:=⟨[(1,.ptr 0 0),(3,.own 1),(4,pI)],[(0,.box zb2),(1,.arr [hI])]⟩
def aVG:Nat->P227_l0.den->KS R->Option R:=eS P227_l0 fun k=>aB5 N (qS k (.ex 0) ⟨[(1,.ptr 0 0),(3,.own 1)],[(0,.box zb2),(1,.arr [hI])]⟩)
theorem bFL:LpG T P227_l0 (aVG N (R:=R)) [1,3,4] aTS:=lpk (aPw N) 58 (H:=bPT)
def bBq:LpS R:=aCc noL 58 (aAx P227_l0 (aVG N N))
def aCa (N:Nat)(k0:List Int->Option R):Nat->Int->zk0 (List Int->Option R)
 | 0,_,_,_,_,_,_,_,_,_=>none
 | n+1,b0,b1,b2,b3,b4,b5,b6,b7,b8=>(bif decide (b0<((b3.length:Nat):Int))then ((at? b3 b0).bind fun x1=>(bif aBU (b8.length+1) 8 then (aCa N k0 n (w64 (b0+1)) b1 b2 b3 b4 b5 b6 b7 (b8++[x1.2.2.1]))else none))else (k0 b8))
def P227_l1:SP:=⟨[(1,.ptr 0 0),(3,.own 1),(5,pI)],[(0,.box zb2),(1,.arr [hI])]⟩
def aWE:Nat->P227_l1.den->KS R->Option R:=eS P227_l1 fun k=>aCa N (qS k (.ex 2) ⟨[(3,.own 0)],[(0,.arr [hI])]⟩)
theorem bFx:LpG T P227_l1 (aWE N (R:=R)) [1,3,5] aSD:=lpk (aPw N) 122 (H:=bPT) (Lp:=(bBq N))
def bHk:LpS R:=aCc (bBq N) 122 (aAx P227_l1 (aWE N N))
def aEo (a0:ByteArray)(a1:zt7)(a2:zt1)(a3:zt2)(a4:zt0)(a5:zt7)(a6:zt6)(k0:List Int->Option R):Option R:=(aB5 N (fun z2 z3 z4 z5 z6 z7 z8 z9=>(aCa N k0 N 0 z2 z3 z4 z5 z6 z7 z8 z9)) N 0 a0 a1 a2 a3 a4 a5 a6 [])
def bRa:CfS R:=u1 (bSc N) 173 ⟨[.agg zb2],[]⟩ ⟨[pL [hI]],[]⟩ (aEo N)
theorem bD9:FOK (bRa N:CfS R) (aAo T):=uCk (aPw N) bGR (H:=bPT) (Lp:=(bHk N)) (hl:=(aAi (l:=[(58,[1,3,4],aTS),(122,[1,3,5],aSD)]) (by kernel_rfl) ⟨(aDL (by decide) (aAf (bFL N N))),(aAf (bFx N N)),trivial⟩))
def aDJ (N:Nat)(a0:Int)(k0:Int->Option R):Option R:=(bif decide (a0=0)then (k0 0)else (bif decide (a0=1)then (k0 0)else (bif decide (a0=2)then (k0 1)else (bif decide (a0=14)then (k0 1)else (bif decide (a0=15)then (k0 1)else (bif decide (a0=16)then (k0 1)else (bif decide (a0=12)then (k0 3)else (k0 2))))))))
def bQF:CfS R:=u1 (bRa N) 278 ⟨[pI],[]⟩ ⟨[pI],[]⟩ (aDJ N)
theorem aUn:FOK (bQF N:CfS R) (aAo T):=uCk (bD9 N) bNW
def bTs:Nat->Option (List Sh):=fun n=>if n=20000 then some [hI]else none
def aBA (N:Nat)(k0:zk1 (zk4 (List Int->Option R))):Nat->zt2->zk1 (Int->zk4 (List Int->Option R))
 | 0,_,_,_,_,_,_,_=>none
 | n+1,b0,b1,b2,b3,b4,b5,b6=>(bif decide (b1<((b4.length:Nat):Int))then ((at? b4 b1).bind fun x1=>((at? b0 x1).bind fun x2=>(bif aBU (b6.length+1) 8 then (aBA N k0 n b0 (w64 (b1+1)) b2 b3 b4 b5 (b6++[x2.2.1]))else none)))else (k0 b2 b3 b4 b5 b6))
def P229_l0:SP:=⟨[(0,pL zs1),(3,.ptr 0 0),(5,.own 1),(6,pI)],[(0,.box zb6),(1,.arr [hI])]⟩
def aR6:Nat->P229_l0.den->KS R->Option R:=eS P229_l0 fun k=>aBA N (qS k (.ex 0) ⟨[(3,.ptr 0 0),(5,.own 1)],[(0,.box zb6),(1,.arr [hI])]⟩)
theorem bBw:LpG T P229_l0 (aR6 N (R:=R)) [0,3,5,6] aW1:=lpk (aUn N) 58 (H:=bTs)
def bKl:LpS R:=aCc noL 58 (aAx P229_l0 (aR6 N N))
def aCJ (a0:zt2)(a1 a2:Int)(a3:List Int)(a4:Int)(k0:Bool->Option R):Option R:=(aBA N (fun z3 z4 z5 z6 z7=>(bif decide (z3=2)then (bif inR 0 z7.length then ((z7[0]?).bind fun x8=>(k0 (decide (x8=z4))))else none)else (bif decide (z3=3)then (bif inR 0 z7.length then ((z7[0]?).bind fun x9=>(bif decide (x9=z4)then (bif inR 1 z7.length then ((z7[1]?).bind fun x10=>(k0 (decide (x10=z4))))else none)else (k0 false)))else none)else (bif decide (z3=4)then (bif inR 0 z7.length then ((z7[0]?).bind fun x11=>(bif decide (x11=z4)then (bif inR 1 z7.length then ((z7[1]?).bind fun x12=>(k0 (decide (x12=z4))))else none)else (k0 false)))else none)else (bif decide (z3=5)then (bif inR 0 z7.length then ((z7[0]?).bind fun x13=>(bif decide (x13=z4)then (bif inR 1 z7.length then ((z7[1]?).bind fun x14=>(k0 (decide (x14=z4))))else none)else (k0 false)))else none)else (bif decide (z3=6)then (bif inR 0 z7.length then ((z7[0]?).bind fun x15=>(bif decide (x15=z4)then (bif inR 1 z7.length then ((z7[1]?).bind fun x16=>(k0 (decide (x16=z4))))else none)else (k0 false)))else none)else (bif decide (z3=7)then (bif inR 0 z7.length then ((z7[0]?).bind fun x17=>(bif decide (x17=z4)then (bif inR 1 z7.length then ((z7[1]?).bind fun x18=>(k0 (decide (x18=z4))))else none)else (k0 false)))else none)else (bif decide (z3=8)then (bif inR 0 z7.length then ((z7[0]?).bind fun x19=>(bif decide (x19=z4)then (bif inR 1 z7.length then ((z7[1]?).bind fun x20=>(k0 (decide (x20=z4))))else none)else (k0 false)))else none)else (bif decide (z3=9)then (bif inR 0 z7.length then ((z7[0]?).bind fun x21=>(bif inR 1 z7.length then ((z7[1]?).bind fun x22=>(bif decide (x21=x22)then (k0 (decide (z4=1)))else (k0 false)))else none))else none)else (bif decide (z3=10)then (bif inR 0 z7.length then ((z7[0]?).bind fun x23=>(bif inR 1 z7.length then ((z7[1]?).bind fun x24=>(bif decide (x23=x24)then (k0 (decide (z4=1)))else (k0 false)))else none))else none)else (bif decide (z3=11)then (bif inR 0 z7.length then ((z7[0]?).bind fun x25=>(bif inR 1 z7.length then ((z7[1]?).bind fun x26=>(bif decide (x25=x26)then (k0 (decide (z4=1)))else (k0 false)))else none))else none)else (bif decide (z3=12)then (bif inR 0 z7.length then ((z7[0]?).bind fun x27=>(bif decide (x27=1)then (bif inR 1 z7.length then ((z7[1]?).bind fun x28=>(bif decide (x28=z4)then (bif inR 2 z7.length then ((z7[2]?).bind fun x29=>(k0 (decide (x29=z4))))else none)else (k0 false)))else none)else (k0 false)))else none)else (bif decide (z3=13)then (bif inR 0 z7.length then ((z7[0]?).bind fun x30=>(bif inR 1 z7.length then ((z7[1]?).bind fun x31=>(k0 (decide ((w64 (x30+x31))=z4))))else none))else none)else (bif decide (z3=14)then (bif inR 0 z7.length then ((z7[0]?).bind fun x32=>(k0 (decide ((w64 (z6+z4))<=x32))))else none)else (bif decide (z3=15)then (bif inR 0 z7.length then ((z7[0]?).bind fun x33=>(k0 (decide (x33<=z4))))else none)else (bif decide (z3=16)then (bif inR 0 z7.length then ((z7[0]?).bind fun x34=>(k0 (decide (x34<=z4))))else none)else (bif inR 0 z7.length then ((z7[0]?).bind fun x35=>(k0 (decide (x35=z4))))else none))))))))))))))))) N a0 0 a1 a2 a3 a4 [])
def bSV:CfS R:=u1 (bQF N) 279 ⟨[pL zs1,.agg zb6],[]⟩ ⟨[pB],[]⟩ (aCJ N)
theorem aVd:FOK (bSV N:CfS R) (aAo T):=uCk (aUn N) bL1 (H:=bTs) (Lp:=(bKl N)) (hl:=(aAi (l:=[(58,[0,3,5,6],aW1)]) (by kernel_rfl) ⟨(aAf (bBw N N)),trivial⟩))
def aBY (k0:Int->Option R)(k1:List Int->zt2->zk1 (zk4 (Option R))):zk7 (zt2->zk1 (zk1 (zk4 (Option R))))
 | 0,_,_,_,_,_,_,_,_=>none
 | n+1,b0,b1,b2,b3,b4,b5,b6,b7=>(bif decide (b3<((b6.length:Nat):Int))then ((at? b6 b3).bind fun x1=>(aAz N x1 0 (w64 (b2-1)) (fun y2=>(bif (!y2)then (k0 9)else (aBY k0 k1 n b0 b1 b2 (w64 (b3+1)) b4 b5 b6 b7)))))else (k1 b0 b1 b4 b5 b6 b7))
def P230_l0:SP:=⟨[(0,pL [hI]),(1,pL zs1),(2,pI),(7,.ptr 0 0),(8,pI)],[(0,.box zb6)]⟩
def aU7:Nat->P230_l0.den->KS R->Option R:=eS P230_l0 fun k=>aBY N (qS k .ret ⟨[(6,pI)],[]⟩) (qS k (.ex 0) ⟨[(0,pL [hI]),(1,pL zs1),(7,.ptr 0 0)],[(0,.box zb6)]⟩)
theorem bB9:LpG T P230_l0 (aU7 N (R:=R)) [0,1,2,7,8] aW0:=lpk (aVd N) 506
def bJc:LpS R:=aCc noL 506 (aAx P230_l0 (aU7 N N))
def aDV (a0:List Int)(a1:zt2)(a2:Int)(k0:Int->Option R):Option R:=((at? a1 a2).bind fun x1=>(aAz N x1.1 0 18 (fun y2=>(bif (!y2)then (k0 15)else (aCz N x1.2.1 (fun y3=>(bif (!y3)then (k0 2)else (aDJ N x1.1 (fun y4=>(bif decide (((x1.2.2.1.length:Nat):Int)≠y4)then (k0 10)else (aBY N k0 (fun z6 z7 z8 z9 z10 z11=>(bif decide (z8=0)then (aEg N z11 z9 (fun y12=>(bif (!y12)then (k0 2)else (k0 0))))else (bif decide (z8=1)then (aAz N z11 0 (w64 (((z6.length:Nat):Int)-1)) (fun y13=>(bif (!y13)then (k0 6)else ((at? z6 z11).bind fun x14=>(bif decide (x14≠z9)then (k0 25)else (k0 0))))))else (bif decide (z8=14)then (aAz N z11 0 15 (fun y15=>(bif (!y15)then (k0 2)else (aCJ N z7 z8 z9 z10 z11 (fun y16=>(bif (!y16)then (k0 25)else (k0 0)))))))else (bif decide (z11≠0)then (k0 3)else (aCJ N z7 z8 z9 z10 z11 (fun y17=>(bif (!y17)then (k0 25)else (k0 0))))))))) N a0 a1 a2 0 x1.1 x1.2.1 x1.2.2.1 x1.2.2.2)))))))))))
def bQn:CfS R:=u1 (bSV N) 247 ⟨[pL [hI],pL zs1,pI],[]⟩ ⟨[pI],[]⟩ (aDV N)
theorem aUY:FOK (bQn N:CfS R) (aAo T):=uCk (aVd N) bLS (Lp:=(bJc N)) (hl:=(aAi (l:=[(506,[0,1,2,7,8],aW0)]) (by kernel_rfl) ⟨(aAf (bB9 N N)),trivial⟩))
def aBG (k0:zk1 (Option R))(k1:Option R):zk7 (zt2->Int->Option R)
 | 0,_,_,_=>none
 | n+1,b0,b1,b2=>(bif decide (b2<((b1.length:Nat):Int))then (aDV N b0 b1 b2 (fun y1=>(bif decide (y1≠0)then (k0 b2 y1)else (aBG k0 k1 n b0 b1 (w64 (b2+1))))))else k1)
def P231_l0:SP:=⟨[(0,pL [hI]),(1,pL zs1),(6,pI)],[]⟩
def aS6:Nat->P231_l0.den->KS R->Option R:=eS P231_l0 fun k=>aBG N (qS k .ret ⟨[(4,pI),(5,pI)],[]⟩) (qS k (.ex 0) ⟨[],[]⟩)
theorem bDB:LpG T P231_l0 (aS6 N (R:=R)) [0,1,6] aTo:=lpk (aUY N) 58
def bKY:LpS R:=aCc noL 58 (aAx P231_l0 (aS6 N N))
def aDG (a0:List Int)(a1:zt2)(k0:zk1 (Option R)):Option R:=(bif decide (400<((a1.length:Nat):Int))then (k0 0 8)else (aBG N k0 (k0 0 0) N a0 a1 0))
def bSX:CfS R:=u1 (bQn N) 172 ⟨[pL [hI],pL zs1],[]⟩ ⟨[pI,pI],[]⟩ (aDG N)
theorem bDZ:FOK (bSX N:CfS R) (aAo T):=uCk (aUY N) bLa (Lp:=(bKY N)) (hl:=(aAi (l:=[(58,[0,1,6],aTo)]) (by kernel_rfl) ⟨(aAf (bDB N N)),trivial⟩))
def aCQ (a0:zt2)(a1:Int)(k0:Bool->Option R):Option R:=(aAz N a1 0 (w64 (((a0.length:Nat):Int)-1)) k0)
def bSb:CfS R:=u1 (bSX N) 248 ⟨[pL zs1,pI],[]⟩ ⟨[pB],[]⟩ (aCQ N)
theorem bC7:FOK (bSb N:CfS R) (aAo T):=uCk (bDZ N) bQh
def aCl (a0:zt2)(a1:Int)(k0:Bool->Option R):Option R:=(aCQ N a0 a1 (fun y1=>(bif y1 then ((at? a0 a1).bind fun x2=>(k0 (decide (x2.2.1=1))))else (k0 false))))
def bRk:CfS R:=u1 (bSb N) 174 ⟨[pL zs1,pI],[]⟩ ⟨[pB],[]⟩ (aCl N)
theorem aUM:FOK (bRk N:CfS R) (aAo T):=uCk (bC7 N) bP6
def aBx (k0:Int->Option R)(k1:Option R):Nat->zt1->zt2->zt8->Int->Option R
 | 0,_,_,_,_=>none
 | n+1,b0,b1,b2,b3=>(bif decide (b3<((b2.length:Nat):Int))then ((at? b2 b3).bind fun x1=>(aAz N x1.1 0 (w64 (((b0.length:Nat):Int)-1)) (fun y2=>(bif (!y2)then (k0 6)else ((at? b2 b3).bind fun x3=>(aCl N b1 x3.2.1 (fun y4=>(bif (!y4)then (k0 9)else ((at? b2 b3).bind fun x5=>(aCQ N b1 x5.2.2 (fun y6=>(bif (!y6)then (k0 9)else ((at? b2 b3).bind fun x7=>((at? b1 x7.2.2).bind fun x8=>((at? b2 b3).bind fun x9=>((at? b0 x9.1).bind fun x10=>(bif decide (x8.2.1≠x10.2.2.1)then (k0 25)else (aBx k0 k1 n b0 b1 b2 (w64 (b3+1))))))))))))))))))))else k1)
def P234_l0:SP:=⟨[(0,pL zs2),(1,pL zs1),(2,pL zs5),(7,pI)],[]⟩
def aUi:Nat->P234_l0.den->KS R->Option R:=eS P234_l0 fun k=>aBx N (qS k .ret ⟨[(6,pI)],[]⟩) (qS k (.ex 0) ⟨[],[]⟩)
theorem bF8:LpG T P234_l0 (aUi N (R:=R)) [0,1,2,7] aSs:=lpk (aUM N) 58
def bKV:LpS R:=aCc noL 58 (aAx P234_l0 (aUi N N))
def aDp (a0:zt1)(a1:zt2)(a2:zt8)(k0:Int->Option R):Option R:=(bif decide (16<((a2.length:Nat):Int))then (k0 8)else (aBx N k0 (k0 0) N a0 a1 a2 0))
def bRO:CfS R:=u1 (bRk N) 175 ⟨[pL zs2,pL zs1,pL zs5],[]⟩ ⟨[pI],[]⟩ (aDp N)
theorem aPz:FOK (bRO N:CfS R) (aAo T):=uCk (aUM N) bK9 (Lp:=(bKV N)) (hl:=(aAi (l:=[(58,[0,1,2,7],aSs)]) (by kernel_rfl) ⟨(aAf (bF8 N N)),trivial⟩))
def aBg (N:Nat)(k0:zk1 (Option R))(k1:zt2->zt7->Int->Option R):Nat->zt2->zt7->zk1 (Option R)
 | 0,_,_,_,_=>none
 | n+1,b0,b1,b2,b3=>(bif decide (b3<b2)then ((at? b1 b3).bind fun x1=>((at? b1 b2).bind fun x2=>(bif decide (x1.1=x2.1)then (k0 b2 5)else (aBg N k0 k1 n b0 b1 b2 (w64 (b3+1))))))else (k1 b0 b1 b2))
def P235_l1:SP:=⟨[(0,pL zs1),(1,pL [.s,hI]),(6,pI),(7,pI)],[]⟩
def aVR:Nat->P235_l1.den->KS R->Option R:=eS P235_l1 fun k=>aBg N (qS k .ret ⟨[(4,pI),(5,pI)],[]⟩) (qS k (.ex 2) ⟨[(0,pL zs1),(1,pL [.s,hI]),(6,pI)],[]⟩)
theorem bCX:LpG T P235_l1 (aVR N (R:=R)) [0,1,6,7] aUh:=lpk (aPz N) 14922
def bAS:LpS R:=aCc noL 14922 (aAx P235_l1 (aVR N N))
def aBi (k0:zk1 (Option R))(k1:Option R):Nat->zt2->zt7->Int->Option R
 | 0,_,_,_=>none
 | n+1,b0,b1,b2=>(bif decide (b2<((b1.length:Nat):Int))then ((at? b1 b2).bind fun x1=>(aBW N x1.1 (fun y2=>(bif (!y2)then (k0 b2 4)else (aBg N k0 (fun z5 z6 z7=>((at? z6 z7).bind fun x8=>(aCQ N z5 x8.2 (fun y9=>(bif (!y9)then (k0 z7 9)else (aBi k0 k1 n z5 z6 (w64 (z7+1)))))))) N b0 b1 b2 0)))))else k1)
def P235_l0:SP:=⟨[(0,pL zs1),(1,pL [.s,hI]),(6,pI)],[]⟩
def aUt:Nat->P235_l0.den->KS R->Option R:=eS P235_l0 fun k=>aBi N (qS k .ret ⟨[(4,pI),(5,pI)],[]⟩) (qS k (.ex 0) ⟨[],[]⟩)
theorem bDf:LpG T P235_l0 (aUt N (R:=R)) [0,1,6] aVl:=lpk (aPz N) 58 (Lp:=(bAS N)) (hl:=(aAi (l:=[(14922,[0,1,6,7],aUh)]) (by kernel_rfl) ⟨(aAf (bCX N N)),trivial⟩))
def bIA:LpS R:=aCc (bAS N) 58 (aAx P235_l0 (aUt N N))
def aCx (a0:zt2)(a1:zt7)(k0:zk1 (Option R)):Option R:=(bif decide (12<((a1.length:Nat):Int))then (k0 0 8)else (aBi N k0 (k0 0 0) N a0 a1 0))
def bTe:CfS R:=u1 (bRO N) 176 ⟨[pL zs1,pL [.s,hI]],[]⟩ ⟨[pI,pI],[]⟩ (aCx N)
theorem aSX:FOK (bTe N:CfS R) (aAo T):=uCk (aPz N) bJU (Lp:=(bIA N)) (hl:=(aAi (l:=[(58,[0,1,6],aVl)]) (by kernel_rfl) ⟨(aAf (bDf N N)),trivial⟩))
def aCP (N:Nat)(k0:Bool->Option R)(k1:Option R):zk7 (zk1 (Option R))
 | 0,_,_,_=>none
 | n+1,b0,b1,b2=>(bif decide (b2<((b0.length:Nat):Int))then ((at? b0 b2).bind fun x1=>(bif decide (x1=b1)then (k0 true)else (aCP N k0 k1 n b0 b1 (w64 (b2+1)))))else k1)
def P236_l0:SP:=⟨[(0,pL [hI]),(1,pI),(5,pI)],[]⟩
def aWD:Nat->P236_l0.den->KS R->Option R:=eS P236_l0 fun k=>aCP N (qS k .ret ⟨[(4,pB)],[]⟩) (qS k (.ex 0) ⟨[],[]⟩)
theorem bCa:LpG T P236_l0 (aWD N (R:=R)) [0,1,5] aZu:=lpk (aSX N) 26
def bG4:LpS R:=aCc noL 26 (aAx P236_l0 (aWD N N))
def aEJ (a0:List Int)(a1:Int)(k0:Bool->Option R):Option R:=(aCP N k0 (k0 false) N a0 a1 0)
def bQK:CfS R:=u1 (bTe N) 88 ⟨[pL [hI],pI],[]⟩ ⟨[pB],[]⟩ (aEJ N)
theorem aLj:FOK (bQK N:CfS R) (aAo T):=uCk (aSX N) c88 (Lp:=(bG4 N)) (hl:=(aAi (l:=[(26,[0,1,5],aZu)]) (by kernel_rfl) ⟨(aAf (bCa N N)),trivial⟩))
def aBw (N:Nat)(k0:zk1 (Option R))(k1:Int->zk0 (zk5 (Option R))):Nat->zk1 (zk0 (zk5 (Option R)))
 | 0,_,_,_,_,_,_,_,_,_,_,_,_=>none
 | n+1,b0,b1,b2,b3,b4,b5,b6,b7,b8,b9,b10,b11=>(bif decide (b1<b0)then ((at? b6 b1).bind fun x1=>(bif decide (x1.1=b9)then (k0 b0 5)else (aBw N k0 k1 n b0 (w64 (b1+1)) b2 b3 b4 b5 b6 b7 b8 b9 b10 b11)))else (k1 b0 b2 b3 b4 b5 b6 b7 b8 b9 b10 b11))
def P237_l1:SP:=⟨[(1,.ptr 0 0),(10,pI),(11,.ptr 1 0),(12,pI)],[(0,.box zb2),(1,.box [pS,pI,pL zs5])]⟩
def aTQ:Nat->P237_l1.den->KS R->Option R:=eS P237_l1 fun k=>aBw N (qS k .ret ⟨[(2,pI),(3,pI)],[]⟩) (qS k (.ex 2) ⟨[(1,.ptr 0 0),(10,pI),(11,.ptr 1 0)],[(0,.box zb2),(1,.box [pS,pI,pL zs5])]⟩)
theorem bGn:LpG T P237_l1 (aTQ N (R:=R)) [1,10,11,12] aUC:=lpk (aLj N) 521370
def aZb:LpS R:=aCc noL 521370 (aAx P237_l1 (aTQ N N))
def aBz (k0:zk1 (Option R))(k1:zk0 (Option R)):Nat->Int->zk0 (Option R)
 | 0,_,_,_,_,_,_,_,_=>none
 | n+1,b0,b1,b2,b3,b4,b5,b6,b7=>(bif decide (b0<((b5.length:Nat):Int))then ((at? b5 b0).bind fun x1=>(aBW N x1.1 (fun y2=>(bif (!y2)then (k0 b0 4)else (aBw N k0 (fun z5 z6 z7 z8 z9 z10 z11 z12 z13 z14 z15=>(aCl N z9 z14 (fun y16=>(bif (!y16)then (k0 z5 9)else (aDp N z8 z9 z15 (fun y17=>(bif decide (y17≠0)then (k0 z5 y17)else (aBz k0 k1 n (w64 (z5+1)) z6 z7 z8 z9 z10 z11 z12)))))))) N b0 0 b1 b2 b3 b4 b5 b6 b7 x1.1 x1.2.1 x1.2.2)))))else (k1 b1 b2 b3 b4 b5 b6 b7))
def P237_l0:SP:=⟨[(1,.ptr 0 0),(10,pI)],[(0,.box zb2)]⟩
def aSg:Nat->P237_l0.den->KS R->Option R:=eS P237_l0 fun k=>aBz N (qS k .ret ⟨[(2,pI),(3,pI)],[]⟩) (qS k (.ex 0) ⟨[(1,.ptr 0 0)],[(0,.box zb2)]⟩)
theorem bDE:LpG T P237_l0 (aSg N (R:=R)) [1,10] aR2:=lpk (aLj N) 1018 (Lp:=(aZb N)) (hl:=(aAi (l:=[(521370,[1,10,11,12],aUC)]) (by kernel_rfl) ⟨(aAf (bGn N N)),trivial⟩))
def bAt:LpS R:=aCc (aZb N) 1018 (aAx P237_l0 (aSg N N))
def aBB (k0:zk1 (Option R))(k1:Int->zk0 (Option R)):Nat->zk1 (zk0 (aRN (Option R)))
 | 0,_,_,_,_,_,_,_,_,_,_,_=>none
 | n+1,b0,b1,b2,b3,b4,b5,b6,b7,b8,b9,b10=>(bif decide (b1<((b10.length:Nat):Int))then ((at? b10 b1).bind fun x1=>(aAz N x1 0 (w64 (((b6.length:Nat):Int)-1)) (fun y2=>(bif (!y2)then (k0 b0 6)else (bif slP 0 b1 b10.length then ((at? b10 b1).bind fun x3=>(aEJ N (List.take b1.toNat (List.drop 0 b10)) x3 (fun y4=>(bif y4 then (k0 b0 23)else (aBB k0 k1 n b0 (w64 (b1+1)) b2 b3 b4 b5 b6 b7 b8 b9 b10)))))else none)))))else (k1 b0 b2 b3 b4 b5 b6 b7 b8))
def P237_l3:SP:=⟨[(1,.ptr 0 0),(16,pI),(17,.ptr 1 0),(18,pI)],[(0,.box zb2),(1,.box [pI,pL [hI]])]⟩
def aWw:Nat->P237_l3.den->KS R->Option R:=eS P237_l3 fun k=>aBB N (qS k .ret ⟨[(2,pI),(3,pI)],[]⟩) (qS k (.ex 6) ⟨[(1,.ptr 0 0),(16,pI)],[(0,.box zb2)]⟩)
theorem bEL:LpG T P237_l3 (aWw N (R:=R)) [1,16,17,18] aWy:=lpk (aLj N) 4191390 (Lp:=(bAt N))
def bAH:LpS R:=aCc (bAt N) 4191390 (aAx P237_l3 (aWw N N))
def aAW (k0:zk1 (Option R))(k1:Option R):Nat->Int->zk0 (Option R)
 | 0,_,_,_,_,_,_,_,_=>none
 | n+1,b0,b1,b2,b3,b4,b5,b6,b7=>(bif decide (b0<((b7.length:Nat):Int))then ((at? b7 b0).bind fun x1=>(aAz N x1.1 0 3 (fun y2=>(bif (!y2)then (k0 b0 15)else (bif decide (((x1.2.length:Nat):Int)=0)then (k0 b0 10)else (bif decide (16<((x1.2.length:Nat):Int))then (k0 b0 10)else (aBB N k0 (fun z7 z8 z9 z10 z11 z12 z13 z14=>(aAW k0 k1 n (w64 (z7+1)) z8 z9 z10 z11 z12 z13 z14)) N b0 0 b1 b2 b3 b4 b5 b6 b7 x1.1 x1.2)))))))else k1)
def P237_l2:SP:=⟨[(1,.ptr 0 0),(16,pI)],[(0,.box zb2)]⟩
def aUG:Nat->P237_l2.den->KS R->Option R:=eS P237_l2 fun k=>aAW N (qS k .ret ⟨[(2,pI),(3,pI)],[]⟩) (qS k (.ex 4) ⟨[],[]⟩)
theorem bEq:LpG T P237_l2 (aUG N (R:=R)) [1,16] aUc:=lpk (aLj N) 8186 (Lp:=(bAH N)) (hl:=(aAi (l:=[(4191390,[1,16,17,18],aWy)]) (by kernel_rfl) ⟨(aAf (bEL N N)),trivial⟩))
def bH8:LpS R:=aCc (bAH N) 8186 (aAx P237_l2 (aUG N N))
def aDx (a0:ByteArray)(a1:zt7)(a2:zt1)(a3:zt2)(a4:zt0)(a5:zt7)(a6:zt6)(k0:zk1 (Option R)):Option R:=(aBW N a0 (fun y1=>(bif (!y1)then (k0 0 4)else (aDD N a1 (fun y2 y3=>(bif decide (y3≠0)then (k0 y2 y3)else (aC0 N a1 a2 (fun y4 y5=>(bif decide (y5≠0)then (k0 y4 y5)else (aEo N a0 a1 a2 a3 a4 a5 a6 (fun y6=>(aDG N y6 a3 (fun y7 y8=>(bif decide (y8≠0)then (k0 y7 y8)else (bif decide (16<((a4.length:Nat):Int))then (k0 0 8)else (aBz N k0 (fun z20 z21 z22 z23 z24 z25 z26=>(aCx N z23 z25 (fun y27 y28=>(bif decide (y28≠0)then (k0 y27 y28)else (bif decide (16<((z26.length:Nat):Int))then (k0 0 8)else (aAW N k0 (k0 0 0) N 0 z20 z21 z22 z23 z24 z25 z26)))))) N 0 a0 a1 a2 a3 a4 a5 a6))))))))))))))))
def bTy:CfS R:=u1 (bQK N) 120 ⟨[.agg zb2],[]⟩ ⟨[pI,pI],[]⟩ (aDx N)
theorem aTZ:FOK (bTy N:CfS R) (aAo T):=uCk (aLj N) bDo (Lp:=(bH8 N)) (hl:=(aAi (l:=[(1018,[1,10],aR2),(8186,[1,16],aUc)]) (by kernel_rfl) ⟨(aDL (by decide) (aDL (by decide) (aAf (bDE N N)))),(aAf (bEq N N)),trivial⟩))
def aBm (N:Nat)(k0:Int->Bool->Option R)(k1:Int->Option R):Nat->zk1 (Int->zk0 (Option R))
 | 0,_,_,_,_,_,_,_,_,_,_=>none
 | n+1,b0,b1,b2,b3,b4,b5,b6,b7,b8,b9=>((at? b7 b0).bind fun x1=>(bif decide (b2<((x1.2.2.length:Nat):Int))then ((at? b7 b0).bind fun x2=>((at? x2.2.2 b2).bind fun x3=>((at? b5 x3.1).bind fun x4=>(bif decide (b1≠(-1))then (bif decide (x4.2.2.2.2≠b1)then (k0 0 false)else (aBm N k0 k1 n b0 x4.2.2.2.2 (w64 (b2+1)) b3 b4 b5 b6 b7 b8 b9))else (aBm N k0 k1 n b0 x4.2.2.2.2 (w64 (b2+1)) b3 b4 b5 b6 b7 b8 b9)))))else (k1 b1)))
def P238_l0:SP:=⟨[(1,pI),(2,.ptr 0 0),(6,pI),(7,pI)],[(0,.box zb2)]⟩
def aWJ:Nat->P238_l0.den->KS R->Option R:=eS P238_l0 fun k=>aBm N (qS k .ret ⟨[(4,pI),(5,pB)],[]⟩) (qS k (.ex 0) ⟨[(6,pI)],[]⟩)
theorem bBI:LpG T P238_l0 (aWJ N (R:=R)) [1,2,6,7] aZo:=lpk (aTZ N) 58
def bIn:LpS R:=aCc noL 58 (aAx P238_l0 (aWJ N N))
def aDb (a0:ByteArray)(a1:zt7)(a2:zt1)(a3:zt2)(a4:zt0)(a5:zt7)(a6:zt6)(a7:Int)(k0:Int->Bool->Option R):Option R:=(aBm N k0 (fun z7=>(k0 z7 true)) N a7 (-1) 0 a0 a1 a2 a3 a4 a5 a6)
def bRK:CfS R:=u1 (bTy N) 91 ⟨[.agg zb2,pI],[]⟩ ⟨[pI,pB],[]⟩ (aDb N)
theorem aU1:FOK (bRK N:CfS R) (aAo T):=uCk (aTZ N) c91 (Lp:=(bIn N)) (hl:=(aAi (l:=[(58,[1,2,6,7],aZo)]) (by kernel_rfl) ⟨(aAf (bBI N N)),trivial⟩))
def aA4 (k0:Int->Option R)(k1:Option R):Nat->Int->zk0 (Option R)
 | 0,_,_,_,_,_,_,_,_=>none
 | n+1,b0,b1,b2,b3,b4,b5,b6,b7=>(bif decide (b0<((b5.length:Nat):Int))then (aDb N b1 b2 b3 b4 b5 b6 b7 b0 (fun y1 y2=>(bif (!y2)then (k0 30)else (aA4 k0 k1 n (w64 (b0+1)) b1 b2 b3 b4 b5 b6 b7))))else k1)
def P239_l0:SP:=⟨[(1,.ptr 0 0),(5,pI)],[(0,.box zb2)]⟩
def aVg:Nat->P239_l0.den->KS R->Option R:=eS P239_l0 fun k=>aA4 N (qS k .ret ⟨[(2,pI)],[]⟩) (qS k (.ex 0) ⟨[],[]⟩)
theorem bCp:LpG T P239_l0 (aVg N (R:=R)) [1,5] bAd:=lpk (aU1 N) 58
def bHy:LpS R:=aCc noL 58 (aAx P239_l0 (aVg N N))
def aDd (a0:ByteArray)(a1:zt7)(a2:zt1)(a3:zt2)(a4:zt0)(a5:zt7)(a6:zt6)(k0:Int->Option R):Option R:=(aDx N a0 a1 a2 a3 a4 a5 a6 (fun y1 y2=>(bif decide (y2≠0)then (k0 y2)else (aA4 N k0 (k0 0) N 0 a0 a1 a2 a3 a4 a5 a6))))
def bSw:CfS R:=u1 (bRK N) 41 ⟨[.agg zb2],[]⟩ ⟨[pI],[]⟩ (aDd N)
theorem aTK:FOK (bSw N:CfS R) (aAo T):=uCk (aU1 N) c41 (Lp:=(bHy N)) (hl:=(aAi (l:=[(58,[1,5],bAd)]) (by kernel_rfl) ⟨(aAf (bCp N N)),trivial⟩))
def bSe:Nat->Option (List Sh):=fun n=>if n=20000 then some [hI]else none
def aBK (k0:List Int->Option R):Nat->Int->zk0 (List Int->Option R)
 | 0,_,_,_,_,_,_,_,_,_=>none
 | n+1,b0,b1,b2,b3,b4,b5,b6,b7,b8=>(bif decide (b0<((b5.length:Nat):Int))then (aDb N b1 b2 b3 b4 b5 b6 b7 b0 (fun y1 y2=>(bif aBU (b8.length+1) 8 then (aBK k0 n (w64 (b0+1)) b1 b2 b3 b4 b5 b6 b7 (b8++[y1]))else none)))else (k0 b8))
def P240_l0:SP:=⟨[(1,.ptr 0 0),(3,.own 1),(4,pI)],[(0,.box zb2),(1,.arr [hI])]⟩
def aWW:Nat->P240_l0.den->KS R->Option R:=eS P240_l0 fun k=>aBK N (qS k (.ex 0) ⟨[(3,.own 0)],[(0,.arr [hI])]⟩)
theorem bE5:LpG T P240_l0 (aWW N (R:=R)) [1,3,4] bAg:=lpk (aTK N) 58 (H:=bSe)
def bKq:LpS R:=aCc noL 58 (aAx P240_l0 (aWW N N))
def aCZ (a0:ByteArray)(a1:zt7)(a2:zt1)(a3:zt2)(a4:zt0)(a5:zt7)(a6:zt6)(k0:List Int->Option R):Option R:=(aBK N k0 N 0 a0 a1 a2 a3 a4 a5 a6 [])
def bRy:CfS R:=u1 (bSw N) 43 ⟨[.agg zb2],[]⟩ ⟨[pL [hI]],[]⟩ (aCZ N)
theorem aMX:FOK (bRy N:CfS R) (aAo T):=uCk (aTK N) c43 (H:=bSe) (Lp:=(bKq N)) (hl:=(aAi (l:=[(58,[1,3,4],bAg)]) (by kernel_rfl) ⟨(aAf (bE5 N N)),trivial⟩))
def bLl:Nat->Option (List Sh):=fun n=>if n=4000 then some [.b]else none
def aCn (N:Nat)(k0:zt2->List Bool->Option R):Nat->zt2->zk4 (List Bool->Option R)
 | 0,_,_,_,_=>none
 | n+1,b0,b1,b2,b3=>(bif decide (b2<((b1.length:Nat):Int))then ((at? b1 b2).bind fun x1=>(bif inR x1 b3.length then ((b3[x1.toNat]?).bind fun x2=>(aCn N k0 n b0 b1 (w64 (b2+1)) (List.set b3 x1.toNat true)))else none))else (k0 b0 b3))
def P241_l0:SP:=⟨[(0,pL zs1),(1,pL [hI]),(5,.own 0),(6,pI)],[(0,.arr [.b])]⟩
def aSY:Nat->P241_l0.den->KS R->Option R:=eS P241_l0 fun k=>aCn N (qS k (.ex 0) ⟨[(0,pL zs1),(5,.own 0)],[(0,.arr [.b])]⟩)
theorem bBy:LpG T P241_l0 (aSY N (R:=R)) [0,1,5,6] aU5:=lpk (aMX N) 58 (H:=bLl)
def aZU:LpS R:=aCc noL 58 (aAx P241_l0 (aSY N N))
def aCo (N:Nat)(k0:zt2->Int->List Bool->Option R):Nat->zt2->zk1 (List Bool->Option R)
 | 0,_,_,_,_=>none
 | n+1,b0,b1,b2,b3=>(bif inR b1 b3.length then ((b3[b1.toNat]?).bind fun x1=>(bif x1 then ((at? b0 b1).bind fun x2=>(bif decide (b2<((x2.2.2.1.length:Nat):Int))then ((at? b0 b1).bind fun x3=>((at? x3.2.2.1 b2).bind fun x4=>(bif inR x4 b3.length then ((b3[x4.toNat]?).bind fun x5=>(aCo N k0 n b0 b1 (w64 (b2+1)) (List.set b3 x4.toNat true)))else none)))else (k0 b0 b1 b3)))else (k0 b0 b1 b3)))else none)
def P241_l2:SP:=⟨[(0,pL zs1),(5,.own 0),(7,pI),(8,pI)],[(0,.arr [.b])]⟩
def aVY:Nat->P241_l2.den->KS R->Option R:=eS P241_l2 fun k=>aCo N (qS k (.ex 4) ⟨[(0,pL zs1),(5,.own 0),(7,pI)],[(0,.arr [.b])]⟩)
theorem bE1:LpG T P241_l2 (aVY N (R:=R)) [0,5,7,8] aWV:=lpk (aMX N) 7826 (H:=bLl) (Lp:=(aZU N))
def aZl:LpS R:=aCc (aZU N) 7826 (aAx P241_l2 (aVY N N))
def aCq (k0:List Bool->Option R):Nat->zt2->Int->List Bool->Option R
 | 0,_,_,_=>none
 | n+1,b0,b1,b2=>(bif decide (0<=b1)then (aCo N (fun z6 z7 z8=>(aCq k0 n z6 (w64 (z7-1)) z8)) N b0 b1 0 b2)else (k0 b2))
def P241_l1:SP:=⟨[(0,pL zs1),(5,.own 0),(7,pI)],[(0,.arr [.b])]⟩
def aTY:Nat->P241_l1.den->KS R->Option R:=eS P241_l1 fun k=>aCq N (qS k (.ex 2) ⟨[(5,.own 0)],[(0,.arr [.b])]⟩)
theorem bCh:LpG T P241_l1 (aTY N (R:=R)) [0,5,7] aUA:=lpk (aMX N) 122 (H:=bLl) (Lp:=(aZl N)) (hl:=(aAi (l:=[(7826,[0,5,7,8],aWV)]) (by kernel_rfl) ⟨(aAf (bE1 N N)),trivial⟩))
def bHB:LpS R:=aCc (aZl N) 122 (aAx P241_l1 (aTY N N))
def aEM (a0:zt2)(a1:List Int)(k0:List Bool->Option R):Option R:=(bif decide (0<=((a0.length:Nat):Int)∧((a0.length:Nat):Int)<=((a0.length:Nat):Int))then (bif aBU a0.length 1 then (aCn N (fun z3 z4=>(aCq N k0 N z3 (w64 (((z3.length:Nat):Int)-1)) z4)) N a0 a1 0 (List.replicate a0.length false))else none)else none)
def bSu:CfS R:=u1 (bRy N) 210 ⟨[pL zs1,pL [hI]],[]⟩ ⟨[pL [.b]],[]⟩ (aEM N)
theorem aPp:FOK (bSu N:CfS R) (aAo T):=uCk (aMX N) bGE (H:=bLl) (Lp:=(bHB N)) (hl:=(aAi (l:=[(58,[0,1,5,6],aU5),(122,[0,5,7],aUA)]) (by kernel_rfl) ⟨(aDL (by decide) (aDL (by decide) (aAf (bBy N N)))),(aAf (bCh N N)),trivial⟩))
def bMC:Nat->Option (List Sh):=fun n=>if n=7000 then some [.b]else if n=48000 then some [hI]else none
def aAN (N:Nat)(k0:Int->List Bool->Option R):Nat->zt2->Int->List Bool->Int->List Bool->Option R
 | 0,_,_,_,_,_=>none
 | n+1,b0,b1,b2,b3,b4=>(bif decide (b3<((b0.length:Nat):Int))then ((at? b2 b3).bind fun x1=>(bif x1 then ((at? b0 b3).bind fun x2=>(bif decide (x2.1=1)then ((at? b0 b3).bind fun x3=>(bif inR x3.2.2.2 b4.length then ((b4[x3.2.2.2.toNat]?).bind fun x4=>(aAN N k0 n b0 b1 b2 (w64 (b3+1)) (List.set b4 x3.2.2.2.toNat true)))else none))else (aAN N k0 n b0 b1 b2 (w64 (b3+1)) b4)))else (aAN N k0 n b0 b1 b2 (w64 (b3+1)) b4)))else (k0 b1 b4))
def P242_l0:SP:=⟨[(0,pL zs1),(2,pI),(7,pL [.b]),(8,.own 0),(9,pI)],[(0,.arr [.b])]⟩
def aWc:Nat->P242_l0.den->KS R->Option R:=eS P242_l0 fun k=>aAN N (qS k (.ex 0) ⟨[(2,pI),(8,.own 0)],[(0,.arr [.b])]⟩)
theorem bFE:LpG T P242_l0 (aWc N (R:=R)) [0,2,7,8,9] aT9:=lpk (aPp N) 122 (H:=bMC)
def bBe:LpS R:=aCc noL 122 (aAx P242_l0 (aWc N N))
def aAZ (N:Nat)(k0:List Int->Option R):Nat->zk1 (List Bool->List Int->Option R)
 | 0,_,_,_,_=>none
 | n+1,b0,b1,b2,b3=>(bif decide (b1<b0)then (bif inR b1 b2.length then ((b2[b1.toNat]?).bind fun x1=>(bif x1 then (bif aBU (b3.length+1) 8 then (aAZ N k0 n b0 (w64 (b1+1)) b2 (b3++[b1]))else none)else (aAZ N k0 n b0 (w64 (b1+1)) b2 b3)))else none)else (k0 b3))
def P242_l1:SP:=⟨[(2,pI),(8,.own 0),(10,.own 1),(11,pI)],[(0,.arr [.b]),(1,.arr [hI])]⟩
def aUT:Nat->P242_l1.den->KS R->Option R:=eS P242_l1 fun k=>aAZ N (qS k (.ex 2) ⟨[(10,.own 0)],[(0,.arr [hI])]⟩)
theorem bD4:LpG T P242_l1 (aUT N (R:=R)) [2,8,10,11] aVn:=lpk (aPp N) 506 (H:=bMC) (Lp:=(bBe N))
def bIQ:LpS R:=aCc (bBe N) 506 (aAx P242_l1 (aUT N N))
def aC1 (a0:zt2)(a1:List Int)(a2:Int)(k0:List Int->Option R):Option R:=(aEM N a0 a1 (fun y1=>(bif decide (0<=a2∧a2<=a2)then (bif aBU a2.toNat 1 then (aAN N (fun z5 z6=>(aAZ N k0 N z5 0 z6 [])) N a0 a2 y1 0 (List.replicate a2.toNat false))else none)else none)))
def bRz:CfS R:=u1 (bSu N) 155 ⟨[pL zs1,pL [hI],pI],[]⟩ ⟨[pL [hI]],[]⟩ (aC1 N)
theorem aPC:FOK (bRz N:CfS R) (aAo T):=uCk (aPp N) bG0 (H:=bMC) (Lp:=(bIQ N)) (hl:=(aAi (l:=[(122,[0,2,7,8,9],aT9),(506,[2,8,10,11],aVn)]) (by kernel_rfl) ⟨(aDL (by decide) (aAf (bFE N N))),(aAf (bD4 N N)),trivial⟩))
def bPU:Nat->Option (List Sh):=fun n=>if n=12000 then some [hI]else if n=33000 then some [hI]else if n=74000 then some [hI]else none
def aCp (N:Nat)(k0:zk0 (List Int->Option R)):Nat->Int->zk0 (zk5 (List Int->Option R))
 | 0,_,_,_,_,_,_,_,_,_,_,_,_=>none
 | n+1,b0,b1,b2,b3,b4,b5,b6,b7,b8,b9,b10,b11=>(bif decide (b0<((b10.length:Nat):Int))then ((at? b10 b0).bind fun x1=>((at? b10 b0).bind fun x2=>(bif aBU (b11.length+2) 8 then (aCp N k0 n (w64 (b0+1)) b1 b2 b3 b4 b5 b6 b7 b8 b9 b10 (b11++[x1.2.1,x2.2.2]))else none)))else (k0 b1 b2 b3 b4 b5 b6 b7 b11))
def P243_l0:SP:=⟨[(2,.ptr 0 0),(5,.ptr 1 0),(6,.own 2),(7,pI)],[(0,.box zb2),(1,.box [pS,pI,pL zs5]),(2,.arr [hI])]⟩
def aT2:Nat->P243_l0.den->KS R->Option R:=eS P243_l0 fun k=>aCp N (qS k (.ex 0) ⟨[(2,.ptr 0 0),(6,.own 1)],[(0,.box zb2),(1,.arr [hI])]⟩)
theorem bFz:LpG T P243_l0 (aT2 N (R:=R)) [2,5,6,7] aS3:=lpk (aPC N) 122 (H:=bPU)
def aZD:LpS R:=aCc noL 122 (aAx P243_l0 (aT2 N N))
def aBR (N:Nat)(k0:List Int->Option R):Nat->zk4 (zk0 (List Int->Option R))
 | 0,_,_,_,_,_,_,_,_,_,_=>none
 | n+1,b0,b1,b2,b3,b4,b5,b6,b7,b8,b9=>(bif decide (b1<((b0.length:Nat):Int))then ((at? b0 b1).bind fun x1=>(bif decide (((b3.length:Nat):Int)<=x1)then ((at? b0 b1).bind fun x2=>(bif aBU (b9.length+1) 8 then (aBR N k0 n b0 (w64 (b1+1)) b2 b3 b4 b5 b6 b7 b8 (b9++[(w64 (x2-((b3.length:Nat):Int)))]))else none))else (aBR N k0 n b0 (w64 (b1+1)) b2 b3 b4 b5 b6 b7 b8 b9)))else (k0 b9))
def P243_l1:SP:=⟨[(2,.ptr 0 0),(8,pL [hI]),(9,.own 1),(10,pI)],[(0,.box zb2),(1,.arr [hI])]⟩
def aVs:Nat->P243_l1.den->KS R->Option R:=eS P243_l1 fun k=>aBR N (qS k (.ex 2) ⟨[(9,.own 0)],[(0,.arr [hI])]⟩)
theorem bGa:LpG T P243_l1 (aVs N (R:=R)) [2,8,9,10] aTd:=lpk (aPC N) 1018 (H:=bPU) (Lp:=(aZD N))
def bKm:LpS R:=aCc (aZD N) 1018 (aAx P243_l1 (aVs N N))
def aEN (a0:ByteArray)(a1:zt7)(a2:zt1)(a3:zt2)(a4:zt0)(a5:zt7)(a6:zt6)(a7:Int)(k0:List Int->Option R):Option R:=((at? a4 a7).bind fun x1=>(aCp N (fun z3 z4 z5 z6 z7 z8 z9 z10=>(aC1 N z6 z10 (w64 (((z4.length:Nat):Int)+((z5.length:Nat):Int))) (fun y11=>(aBR N k0 N y11 0 z3 z4 z5 z6 z7 z8 z9 [])))) N 0 a0 a1 a2 a3 a4 a5 a6 x1.1 x1.2.1 x1.2.2 [x1.2.1]))
def bQl:CfS R:=u1 (bRz N) 121 ⟨[.agg zb2,pI],[]⟩ ⟨[pL [hI]],[]⟩ (aEN N)
theorem aPo:FOK (bQl N:CfS R) (aAo T):=uCk (aPC N) bKx (H:=bPU) (Lp:=(bKm N)) (hl:=(aAi (l:=[(122,[2,5,6,7],aS3),(1018,[2,8,9,10],aTd)]) (by kernel_rfl) ⟨(aDL (by decide) (aAf (bFz N N))),(aAf (bGa N N)),trivial⟩))
def bQc:Nat->Option (List Sh):=fun n=>if n=47000 then some [hI,hI]else none
def aAG (k0:zk4 (zk0 ((List (Int×Int))->Option R))):zk7 (zk1 (zk0 ((List (Int×Int))->Option R)))
 | 0,_,_,_,_,_,_,_,_,_,_,_=>none
 | n+1,b0,b1,b2,b3,b4,b5,b6,b7,b8,b9,b10=>(bif decide (b2<((b5.length:Nat):Int))then ((at? b0 b1).bind fun x1=>(bif decide (x1≠(-1))then ((at? b5 b2).bind fun x2=>((at? b0 b1).bind fun x3=>(bif decide (x2.2.2.2.2≠x3)then (aEN N b3 b4 b5 b6 b7 b8 b9 b1 (fun y4=>(aEJ N y4 b2 (fun y5=>(bif y5 then (bif aBU (b10.length+1) 16 then (aAG k0 n b0 b1 (w64 (b2+1)) b3 b4 b5 b6 b7 b8 b9 (b10++[(b1,b2)]))else none)else (aAG k0 n b0 b1 (w64 (b2+1)) b3 b4 b5 b6 b7 b8 b9 b10))))))else (aAG k0 n b0 b1 (w64 (b2+1)) b3 b4 b5 b6 b7 b8 b9 b10))))else (aAG k0 n b0 b1 (w64 (b2+1)) b3 b4 b5 b6 b7 b8 b9 b10)))else (k0 b0 b1 b3 b4 b5 b6 b7 b8 b9 b10))
def P244_l1:SP:=⟨[(1,.ptr 0 0),(3,pL [hI]),(4,.own 1),(5,pI),(6,pI)],[(0,.box zb2),(1,.arr [hI,hI])]⟩
def aTL:Nat->P244_l1.den->KS R->Option R:=eS P244_l1 fun k=>aAG N (qS k (.ex 2) ⟨[(1,.ptr 0 0),(3,pL [hI]),(4,.own 1),(5,pI)],[(0,.box zb2),(1,.arr [hI,hI])]⟩)
theorem bFD:LpG T P244_l1 (aTL N (R:=R)) [1,3,4,5,6] bAp:=lpk (aPo N) 7826 (H:=bQc)
def aYY:LpS R:=aCc noL 7826 (aAx P244_l1 (aTL N N))
def aBh (k0:(List (Int×Int))->Option R):Nat->zk4 (zk0 ((List (Int×Int))->Option R))
 | 0,_,_,_,_,_,_,_,_,_,_=>none
 | n+1,b0,b1,b2,b3,b4,b5,b6,b7,b8,b9=>(bif decide (b1<((b0.length:Nat):Int))then (aAG N (fun z6 z7 z8 z9 z10 z11 z12 z13 z14 z15=>(aBh k0 n z6 (w64 (z7+1)) z8 z9 z10 z11 z12 z13 z14 z15)) N b0 b1 0 b2 b3 b4 b5 b6 b7 b8 b9)else (k0 b9))
def P244_l0:SP:=⟨[(1,.ptr 0 0),(3,pL [hI]),(4,.own 1),(5,pI)],[(0,.box zb2),(1,.arr [hI,hI])]⟩
def aVC:Nat->P244_l0.den->KS R->Option R:=eS P244_l0 fun k=>aBh N (qS k (.ex 0) ⟨[(4,.own 0)],[(0,.arr [hI,hI])]⟩)
theorem bEC:LpG T P244_l0 (aVC N (R:=R)) [1,3,4,5] aZ7:=lpk (aPo N) 122 (H:=bQc) (Lp:=(aYY N)) (hl:=(aAi (l:=[(7826,[1,3,4,5,6],bAp)]) (by kernel_rfl) ⟨(aAf (bFD N N)),trivial⟩))
def bIb:LpS R:=aCc (aYY N) 122 (aAx P244_l0 (aVC N N))
def aDe (a0:ByteArray)(a1:zt7)(a2:zt1)(a3:zt2)(a4:zt0)(a5:zt7)(a6:zt6)(k0:(List (Int×Int))->Option R):Option R:=(aCZ N a0 a1 a2 a3 a4 a5 a6 (fun y1=>(aBh N k0 N y1 0 a0 a1 a2 a3 a4 a5 a6 [])))
def bRZ:CfS R:=u1 (bQl N) 42 ⟨[.agg zb2],[]⟩ ⟨[pL [hI,hI]],[]⟩ (aDe N)
theorem aJR:FOK (bRZ N:CfS R) (aAo T):=uCk (aPo N) c42 (H:=bQc) (Lp:=(bIb N)) (hl:=(aAi (l:=[(122,[1,3,4,5],aZ7)]) (by kernel_rfl) ⟨(aAf (bEC N N)),trivial⟩))
def aA0 (N:Nat)(k0:Bool->Option R)(k1:Option R):Nat->(List (Int×Int))->(List (Int×Int))->Int->Option R
 | 0,_,_,_=>none
 | n+1,b0,b1,b2=>(bif decide (b2<((b0.length:Nat):Int))then ((at? b0 b2).bind fun x1=>((at? b1 b2).bind fun x2=>(bif (true != (decide (x1.1=x2.1)&&(decide (x1.2=x2.2)&&true)))then (k0 false)else (aA0 N k0 k1 n b0 b1 (w64 (b2+1))))))else k1)
def P245_l0:SP:=⟨[(5,pL [hI,hI]),(8,pL [hI,hI]),(9,pI)],[]⟩
def aVf:Nat->P245_l0.den->KS R->Option R:=eS P245_l0 fun k=>aA0 N (qS k .ret ⟨[(2,pB)],[]⟩) (qS k (.ex 0) ⟨[],[]⟩)
theorem bDQ:LpG T P245_l0 (aVf N (R:=R)) [5,8,9] bHt:=lpk (aJR N) 16287882
def aZP:LpS R:=aCc noL 16287882 (aAx P245_l0 (aVf N N))
def aCS (k0:Bool->Option R)(b0:List Int)(b1:Int)(b2:List (Int×Int))(b3:Int)(b4:List (Int×Int))(b5:ByteArray)(b6:zt7)(b7:zt1)(b8:zt2)(b9:zt0)(b10:zt7)(b11:zt6):Option R:=(bif decide (b1≠0)then (k0 false)else (aCZ N b5 b6 b7 b8 b9 b10 b11 (fun y1=>(aCr N b0 y1 (fun y2=>(bif (!y2)then (k0 false)else (bif decide (b3≠0)then (k0 false)else (bif decide (((b2.length:Nat):Int)≠((b4.length:Nat):Int))then (k0 false)else (aA0 N k0 (k0 true) N b2 b4 0)))))))))
def P245_j3:SP:=⟨[(1,.ptr 0 0),(3,pL [hI]),(4,pI),(5,pL [hI,hI]),(6,pI),(8,pL [hI,hI])],[(0,.box zb2)]⟩
def aS2:Nat->P245_j3.den->KS R->Option R:=jS P245_j3 fun k=>aCS N (qS k .ret ⟨[(2,pB)],[]⟩)
theorem bE7:LpG T P245_j3 (aS2 N (R:=R)) [1,3,4,5,6,8] bIg:=lpk (aJR N) 254498 (Lp:=(aZP N)) (hl:=(aAi (l:=[(16287882,[5,8,9],bHt)]) (by kernel_rfl) ⟨(aAf (bDQ N N)),trivial⟩))
def aZH:LpS R:=aCc (aZP N) 254498 (aAx P245_j3 (aS2 N 1))
def aCR (k0:Bool->Option R)(b0:List Int)(b1:Int)(b2:List (Int×Int))(b3:Int)(b4:ByteArray)(b5:zt7)(b6:zt1)(b7:zt2)(b8:zt0)(b9:zt7)(b10:zt6):Option R:=(aDe N b4 b5 b6 b7 b8 b9 b10 (fun y1=>(aCS N k0 b0 b1 b2 b3 y1 b4 b5 b6 b7 b8 b9 b10)))
def P245_j2:SP:=⟨[(1,.ptr 0 0),(3,pL [hI]),(4,pI),(5,pL [hI,hI]),(6,pI)],[(0,.box zb2)]⟩
def aUE:Nat->P245_j2.den->KS R->Option R:=jS P245_j2 fun k=>aCR N (qS k .ret ⟨[(2,pB)],[]⟩)
theorem bGf:LpG T P245_j2 (aUE N (R:=R)) [1,3,4,5,6] bIE:=lpk (aJR N) 15906 (Lp:=(aZH N)) (hl:=(aAi (l:=[(254498,[1,3,4,5,6,8],bIg)]) (by kernel_rfl) ⟨(aAf (bE7 N 1)),trivial⟩))
def aZr:LpS R:=aCc (aZH N) 15906 (aAx P245_j2 (aUE N 1))
def aB4 (k0:Bool->Option R)(b0:List Int)(b1:Int)(b2:List (Int×Int))(b3:Int)(b4:ByteArray)(b5:zt7)(b6:zt1)(b7:zt2)(b8:zt0)(b9:zt7)(b10:zt6):Option R:=(aDd N b4 b5 b6 b7 b8 b9 b10 (fun y1=>(bif decide (y1≠0)then (bif decide (b1=y1)then (bif decide (b3=y1)then (k0 (decide ((w64 (((b0.length:Nat):Int)+((b2.length:Nat):Int)))=0)))else (k0 false))else (k0 false))else (aCR N k0 b0 b1 b2 b3 b4 b5 b6 b7 b8 b9 b10))))
def P245_j1:SP:=⟨[(1,.ptr 0 0),(3,pL [hI]),(4,pI),(5,pL [hI,hI]),(6,pI)],[(0,.box zb2)]⟩
def aUZ:Nat->P245_j1.den->KS R->Option R:=jS P245_j1 fun k=>aB4 N (qS k .ret ⟨[(2,pB)],[]⟩)
theorem bCR:LpG T P245_j1 (aUZ N (R:=R)) [1,3,4,5,6] bHJ:=lpk (aJR N) 994 (Lp:=(aZr N)) (hl:=(aAi (l:=[(15906,[1,3,4,5,6],bIE)]) (by kernel_rfl) ⟨(aAf (bGf N 1)),trivial⟩))
def aYW:LpS R:=aCc (aZr N) 994 (aAx P245_j1 (aUZ N 1))
def aBe (k0:Bool->Option R)(b0:List Int)(b1:Int)(b2:ByteArray)(b3:zt7)(b4:zt1)(b5:zt2)(b6:zt0)(b7:zt7)(b8:zt6):Option R:=(aA6 N b2 b3 b4 b5 b6 b7 b8 (fun y1 y2 y3 y4 y5 y6 y7=>(aEs N y1 y2 y3 y4 y5 y6 y7 (fun y8 y9=>(aB4 N k0 b0 b1 y8 y9 b2 b3 b4 b5 b6 b7 b8)))))
def P245_j0:SP:=⟨[(1,.ptr 0 0),(3,pL [hI]),(4,pI)],[(0,.box zb2)]⟩
def aR5:Nat->P245_j0.den->KS R->Option R:=jS P245_j0 fun k=>aBe N (qS k .ret ⟨[(2,pB)],[]⟩)
theorem bCS:LpG T P245_j0 (aR5 N (R:=R)) [1,3,4] bKG:=lpk (aJR N) 62 (Lp:=(aYW N)) (hl:=(aAi (l:=[(994,[1,3,4,5,6],bHJ)]) (by kernel_rfl) ⟨(aAf (bCR N 1)),trivial⟩))
def bHT:LpS R:=aCc (aYW N) 62 (aAx P245_j0 (aR5 N 1))
def aBP (a0:ByteArray)(a1:zt7)(a2:zt1)(a3:zt2)(a4:zt0)(a5:zt7)(a6:zt6)(k0:Bool->Option R):Option R:=(aFB N (fun y1=>(bif (!y1)then (k0 false)else (aDs N a0 a1 a2 a3 a4 a5 a6 (fun y2=>(bif (!y2)then (k0 true)else (aA6 N a0 a1 a2 a3 a4 a5 a6 (fun y3 y4 y5 y6 y7 y8 y9=>(aDm N y3 y4 y5 y6 y7 y8 y9 (fun y10 y11=>(aBe N k0 y10 y11 a0 a1 a2 a3 a4 a5 a6)))))))))))
def bR4:CfS R:=u1 (bRZ N) 5 ⟨[.agg zb2],[]⟩ ⟨[pB],[]⟩ (aBP N)
theorem bCo:FOK (bR4 N:CfS R) (aAo T):=uCk (aJR N) c5 (Lp:=(bHT N)) (hl:=(aAi (l:=[(62,[1,3,4],bKG)]) (by kernel_rfl) ⟨(aAf (bCS N 1)),trivial⟩))
end
def aFU:Prop:=∀ (x0:ByteArray×(List (ByteArray×Int))×(List (ByteArray×Int×Int×Int×Int))×(List (Int×Int×(List Int)×Int))×(List (ByteArray×Int×(List (Int×Int×Int))))×(List (ByteArray×Int))×(List (Int×(List Int)))),okL [.s,.sl [.s,hI],.sl [.s,hI,hI,hI,hI],.sl [hI,hI,.sl [hI],hI],.sl [.s,hI,.sl [hI,hI,hI]],.sl [.s,hI],.sl [hI,.sl [hI]]] x0->∃ N,∀ {R:Type} (k:Bool->Option R),aBP N x0.1 x0.2.1 x0.2.2.1 x0.2.2.2.1 x0.2.2.2.2.1 x0.2.2.2.2.2.1 x0.2.2.2.2.2.2 k=k true
end Am
end Go.Proofs.YtkmbhgggpfbffaaGreatDoor
