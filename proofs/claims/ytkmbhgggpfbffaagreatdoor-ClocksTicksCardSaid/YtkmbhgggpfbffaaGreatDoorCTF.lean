/- Each function that is reached as a function on plain data, and that the version comes to it. -/
import Derived.Test.YtkmbhgggpfbffaaGreatDoorCTF0
set_option linter.unusedVariables false
set_option linter.unusedSimpArgs false
set_option linter.constructorNameAsVariable false
set_option maxRecDepth 100000
namespace Go.Proofs.YtkmbhgggpfbffaaGreatDoor
namespace Am
noncomputable section
variable (N:Nat) {R:Type}
def aHe (a0 a1:Int)(a2:List (Int×Int))(k0:zk3 (Int->Option R)):Option R:=(aIt N a0 a1 (fun y1 y2 y3 y4 y5 y6 y7=>(bif decide (y7≠0)then (k0 [] [] y7)else (aHV N a2 a1 (fun y8=>(bif decide (y8≠0)then (k0 [] [] y8)else (bif decide (a0<0)then none else (aEp N y1 y2 y3 y4 y5 y6 [] a2 (aPi .i64 1 a0) (fun y9 y10 y11 y12=>(k0 y9 y10 y11))))))))))
def bSY:CfS R:=u1 (bTx N) 26 ⟨[.agg [pI,pI],pL [hI,hI]],[]⟩ ⟨[pL [hI],pL [hI],pI],[]⟩ (aHe N)
theorem aUy:FOK (bSY N:CfS R) (aAo T):=uCk (bDY N) c26 (rp:=[⟨[pL [hI],pL [hI],pI],[]⟩])
def aCA (N:Nat)(k0:Bool->Option R)(k1:Option R):Nat->zk3 (Int->Option R)
 | 0,_,_,_=>none
 | n+1,b0,b1,b2=>(bif decide (b2<((b0.length:Nat):Int))then ((at? b0 b2).bind fun x1=>((at? b1 b2).bind fun x2=>(bif decide (x1≠x2)then (k0 false)else (aCA N k0 k1 n b0 b1 (w64 (b2+1))))))else k1)
def P212_l0:SP:=⟨[(0,pL [hI]),(1,pL [hI]),(5,pI)],[]⟩
def aVT:Nat->P212_l0.den->KS R->Option R:=eS P212_l0 fun k=>aCA N (qS k .ret ⟨[(4,pB)],[]⟩) (qS k (.ex 0) ⟨[],[]⟩)
theorem bBP:LpG T P212_l0 (aVT N (R:=R)) [0,1,5] aZh:=lpk (aUy N) 58
def bHp:LpS R:=aCc noL 58 (aAx P212_l0 (aVT N N))
def aCr (a0 a1:List Int)(k0:Bool->Option R):Option R:=(bif decide (((a0.length:Nat):Int)≠((a1.length:Nat):Int))then (k0 false)else (aCA N k0 (k0 true) N a0 a1 0))
def bRR:CfS R:=u1 (bSY N) 23 ⟨[pL [hI],pL [hI]],[]⟩ ⟨[pB],[]⟩ (aCr N)
theorem aWv:FOK (bRR N:CfS R) (aAo T):=uCk (aUy N) c23 (Lp:=(bHp N)) (hl:=(aAi (l:=[(58,[0,1,5],aZh)]) (by kernel_rfl) ⟨(aAf (bBP N N)),trivial⟩))
def aE1 (k0:Bool->Option R)(k1:Option R):Nat->List (List Int)->List (List Int)->Int->Option R
 | 0,_,_,_=>none
 | n+1,b0,b1,b2=>(bif decide (b2<((b0.length:Nat):Int))then ((at? b0 b2).bind fun x1=>((at? b1 b2).bind fun x2=>(aCr N x1 x2 (fun y3=>(bif (!y3)then (k0 false)else (aE1 k0 k1 n b0 b1 (w64 (b2+1))))))))else k1)
def P213_l0:SP:=⟨[(0,pL zs6),(1,pL zs6),(5,pI)],[]⟩
def aW4:Nat->P213_l0.den->KS R->Option R:=eS P213_l0 fun k=>aE1 N (qS k .ret ⟨[(4,pB)],[]⟩) (qS k (.ex 0) ⟨[],[]⟩)
theorem bFw:LpG T P213_l0 (aW4 N (R:=R)) [0,1,5] aZn:=lpk (aWv N) 58
def bI6:LpS R:=aCc noL 58 (aAx P213_l0 (aW4 N N))
def aHt (a0 a1:List (List Int))(k0:Bool->Option R):Option R:=(bif decide (((a0.length:Nat):Int)≠((a1.length:Nat):Int))then (k0 false)else (aE1 N k0 (k0 true) N a0 a1 0))
def bQt:CfS R:=u1 (bRR N) 68 ⟨[pL zs6,pL zs6],[]⟩ ⟨[pB],[]⟩ (aHt N)
theorem aJD:FOK (bQt N:CfS R) (aAo T):=uCk (aWv N) c68 (Lp:=(bI6 N)) (hl:=(aAi (l:=[(58,[0,1,5],aZn)]) (by kernel_rfl) ⟨(aAf (bFw N N)),trivial⟩))
def bGt:Nat->Option (List Sh):=fun n=>if n=34000 then some [hI]else if n=43000 then some [hI,.sl [hI]]else if n=57000 then some [hI,hI]else if n=70000 then some [hI]else if n=95000 then some [hI]else if n=96000 then some [hI]else if n=97000 then some [hI]else if n=98000 then some [hI]else if n=99000 then some [.sl [hI]]else if n=108000 then some [hI]else if n=113000 then some [hI]else none
def aGi (k0:Bool->Option R)(b0:List Int)(b1:Int)(b2:zt8)(b3:Int)(b4:List (List Int))(b5:Int)(b6 b7:List Int)(b8:Int):Option R:=(bif decide (b1=0)then (aCr N b0 [0,1] (fun y1=>(bif y1 then (bif decide (b3=0)then (bif decide (((b2.length:Nat):Int)=1)then ((at? b2 0).bind fun x2=>(bif (false != (decide (x2.1=0)&&(decide (x2.2.1=1)&&(decide (x2.2.2=2)&&true))))then (bif decide (b5=0)then (aHt N b4 [[0,0,0],[1,0,0],[1,1,0],[1,1,1]] (fun y3=>(bif y3 then (bif decide (b8=0)then (aCr N b6 [5,6] (fun y4=>(bif y4 then (aCr N b7 [5] k0)else (k0 false))))else (k0 false))else (k0 false))))else (k0 false))else (k0 false)))else (k0 false))else (k0 false))else (k0 false))))else (k0 false))
def P214_j4:SP:=⟨[(3,pL [hI]),(4,pI),(5,pL zs5),(6,pI),(8,pL zs6),(9,pI),(10,pL [hI]),(11,pL [hI]),(12,pI)],[]⟩
def aXk:Nat->P214_j4.den->KS R->Option R:=jS P214_j4 fun k=>aGi N (qS k .ret ⟨[(0,pB)],[]⟩)
theorem bED:LpG T P214_j4 (aXk N (R:=R)) [3,4,5,6,8,9,10,11,12] aZw:=lpk (aJD N) 4071970 (H:=bGt)
def bAY:LpS R:=aCc noL 4071970 (aAx P214_j4 (aXk N 1))
def aGj (k0:Bool->Option R)(b0:List Int)(b1:Int)(b2:zt8)(b3:Int)(b4:List (List Int))(b5:Int):Option R:=(aHe N 1 4 [(0,5),(0,6),(0,7),(1,1),(1,1),(1,1)] (fun y1 y2 y3=>(aGi N k0 b0 b1 b2 b3 b4 b5 y1 y2 y3)))
def P214_j3:SP:=⟨[(3,pL [hI]),(4,pI),(5,pL zs5),(6,pI),(8,pL zs6),(9,pI)],[]⟩
def aXj:Nat->P214_j3.den->KS R->Option R:=jS P214_j3 fun k=>aGj N (qS k .ret ⟨[(0,pB)],[]⟩)
theorem bC1:LpG T P214_j3 (aXj N (R:=R)) [3,4,5,6,8,9] bBs:=lpk (aJD N) 254498 (H:=bGt) (Lp:=(bAY N)) (hl:=(aAi (l:=[(4071970,[3,4,5,6,8,9,10,11,12],aZw)]) (by kernel_rfl) ⟨(aAf (bED N 1)),trivial⟩))
def bAP:LpS R:=aCc (bAY N) 254498 (aAx P214_j3 (aXj N 1))
def aGo (k0:Bool->Option R)(b0:List Int)(b1:Int)(b2:zt8)(b3:Int)(b4:ByteArray)(b5:zt7)(b6:zt1)(b7:zt2)(b8:zt0)(b9:zt7)(b10:List Int):Option R:=(aKg N b4 b5 b6 b7 b8 b9 [] [(0,b10),(1,b10),(1,b10)] (fun y1 y2=>(aGj N k0 b0 b1 b2 b3 y1 y2)))
def P214_j2:SP:=⟨[(1,.ptr 0 0),(3,pL [hI]),(4,pI),(5,pL zs5),(6,pI),(7,.own 1)],[(0,.box zb8),(1,.arr [hI])]⟩
def aTF:Nat->P214_j2.den->KS R->Option R:=jS P214_j2 fun k=>aGo N (qS k .ret ⟨[(0,pB)],[]⟩)
theorem bCO:LpG T P214_j2 (aTF N (R:=R)) [1,3,4,5,6,7] aZW:=lpk (aJD N) 15906 (H:=bGt) (Lp:=(bAP N)) (hl:=(aAi (l:=[(254498,[3,4,5,6,8,9],bBs)]) (by kernel_rfl) ⟨(aAf (bC1 N 1)),trivial⟩))
def bAQ:LpS R:=aCc (bAP N) 15906 (aAx P214_j2 (aTF N 1))
def aGe (k0:Bool->Option R)(b0:List Int)(b1:Int)(b2:zt8)(b3:Int)(b4:ByteArray)(b5:zt7)(b6:zt1)(b7:zt2)(b8:zt0)(b9:zt7):Option R:=(aGo N k0 b0 b1 b2 b3 b4 b5 b6 b7 b8 b9 [1])
def P214_j1:SP:=⟨[(1,.ptr 0 0),(3,pL [hI]),(4,pI),(5,pL zs5),(6,pI)],[(0,.box zb8)]⟩
def aWY:Nat->P214_j1.den->KS R->Option R:=jS P214_j1 fun k=>aGe N (qS k .ret ⟨[(0,pB)],[]⟩)
theorem bEF:LpG T P214_j1 (aWY N (R:=R)) [1,3,4,5,6] aZt:=lpk (aJD N) 994 (H:=bGt) (Lp:=(bAQ N)) (hl:=(aAi (l:=[(15906,[1,3,4,5,6,7],aZW)]) (by kernel_rfl) ⟨(aAf (bCO N 1)),trivial⟩))
def bAf:LpS R:=aCc (bAQ N) 994 (aAx P214_j1 (aWY N 1))
def aGl (k0:Bool->Option R)(b0:List Int)(b1:Int)(b2:ByteArray)(b3:zt7)(b4:zt1)(b5:zt2)(b6:zt0)(b7:zt7):Option R:=(aA6 N b2 b3 b4 b5 b6 b7 [] (fun y1 y2 y3 y4 y5 y6 y7=>(aIB N y1 y2 y3 y4 y5 y6 y7 (fun y8 y9=>(aGe N k0 b0 b1 y8 y9 b2 b3 b4 b5 b6 b7)))))
def P214_j0:SP:=⟨[(1,.ptr 0 0),(3,pL [hI]),(4,pI)],[(0,.box zb8)]⟩
def aXd:Nat->P214_j0.den->KS R->Option R:=jS P214_j0 fun k=>aGl N (qS k .ret ⟨[(0,pB)],[]⟩)
theorem bGj:LpG T P214_j0 (aXd N (R:=R)) [1,3,4] aZ9:=lpk (aJD N) 62 (H:=bGt) (Lp:=(bAf N)) (hl:=(aAi (l:=[(994,[1,3,4,5,6],aZt)]) (by kernel_rfl) ⟨(aAf (bEF N 1)),trivial⟩))
def bIp:LpS R:=aCc (bAf N) 62 (aAx P214_j0 (aXd N 1))
def aFB (k0:Bool->Option R):Option R:=(aIy N 2 (fun y1 y2 y3 y4 y5 y6 y7=>(bif decide (y7≠0)then (k0 false)else (bif decide (((y5.length:Nat):Int)≠2)then (k0 false)else (aA6 N y1 y2 y3 y4 y5 y6 [] (fun y8 y9 y10 y11 y12 y13 y14=>(aDm N y8 y9 y10 y11 y12 y13 y14 (fun y15 y16=>(aGl N k0 y15 y16 y1 y2 y3 y4 y5 y6)))))))))
def bTi:CfS R:=u1 (bQt N) 12 ⟨[],[]⟩ ⟨[pB],[]⟩ (aFB N)
theorem aND:FOK (bTi N:CfS R) (aAo T):=uCk (aJD N) c12 (H:=bGt) (Lp:=(bIp N)) (hl:=(aAi (l:=[(62,[1,3,4],aZ9)]) (by kernel_rfl) ⟨(aAf (bGj N 1)),trivial⟩))
def aCb (N:Nat)(k0:Bool->Option R)(k1:zk0 (Option R)):Nat->Int->zk0 (Option R)
 | 0,_,_,_,_,_,_,_,_=>none
 | n+1,b0,b1,b2,b3,b4,b5,b6,b7=>(bif decide (b0<((b4.length:Nat):Int))then ((at? b4 b0).bind fun x1=>(bif decide (4<((x1.2.2.1.length:Nat):Int))then (k0 false)else (aCb N k0 k1 n (w64 (b0+1)) b1 b2 b3 b4 b5 b6 b7)))else (k1 b1 b2 b3 b4 b5 b6 b7))
def P215_l0:SP:=⟨[(1,.ptr 0 0),(3,pI)],[(0,.box zb2)]⟩
def aSn:Nat->P215_l0.den->KS R->Option R:=eS P215_l0 fun k=>aCb N (qS k .ret ⟨[(2,pB)],[]⟩) (qS k (.ex 0) ⟨[(1,.ptr 0 0)],[(0,.box zb2)]⟩)
theorem bCU:LpG T P215_l0 (aSn N (R:=R)) [1,3] bAX:=lpk (aND N) 58
def aZI:LpS R:=aCc noL 58 (aAx P215_l0 (aSn N N))
def aB8 (N:Nat)(k0:Bool->Option R)(k1:zk0 (Option R)):Nat->Int->zk0 (Option R)
 | 0,_,_,_,_,_,_,_,_=>none
 | n+1,b0,b1,b2,b3,b4,b5,b6,b7=>(bif decide (b0<((b5.length:Nat):Int))then ((at? b5 b0).bind fun x1=>(bif decide (8<((x1.2.2.length:Nat):Int))then (k0 false)else (aB8 N k0 k1 n (w64 (b0+1)) b1 b2 b3 b4 b5 b6 b7)))else (k1 b1 b2 b3 b4 b5 b6 b7))
def P215_l1:SP:=⟨[(1,.ptr 0 0),(4,pI)],[(0,.box zb2)]⟩
def aUf:Nat->P215_l1.den->KS R->Option R:=eS P215_l1 fun k=>aB8 N (qS k .ret ⟨[(2,pB)],[]⟩) (qS k (.ex 2) ⟨[(1,.ptr 0 0)],[(0,.box zb2)]⟩)
theorem bFT:LpG T P215_l1 (aUf N (R:=R)) [1,4] aZ5:=lpk (aND N) 122 (Lp:=(aZI N))
def bBd:LpS R:=aCc (aZI N) 122 (aAx P215_l1 (aUf N N))
def aB6 (N:Nat)(k0:Bool->Option R)(k1:Option R):Nat->Int->zk0 (Option R)
 | 0,_,_,_,_,_,_,_,_=>none
 | n+1,b0,b1,b2,b3,b4,b5,b6,b7=>(bif decide (b0<((b7.length:Nat):Int))then ((at? b7 b0).bind fun x1=>(bif decide (20<((x1.2.length:Nat):Int))then (k0 false)else (aB6 N k0 k1 n (w64 (b0+1)) b1 b2 b3 b4 b5 b6 b7)))else k1)
def P215_l2:SP:=⟨[(1,.ptr 0 0),(5,pI)],[(0,.box zb2)]⟩
def aWs:Nat->P215_l2.den->KS R->Option R:=eS P215_l2 fun k=>aB6 N (qS k .ret ⟨[(2,pB)],[]⟩) (qS k (.ex 4) ⟨[],[]⟩)
theorem bCP:LpG T P215_l2 (aWs N (R:=R)) [1,5] aY9:=lpk (aND N) 250 (Lp:=(bBd N))
def bIB:LpS R:=aCc (bBd N) 250 (aAx P215_l2 (aWs N N))
def aDs (a0:ByteArray)(a1:zt7)(a2:zt1)(a3:zt2)(a4:zt0)(a5:zt7)(a6:zt6)(k0:Bool->Option R):Option R:=(bif decide (60<((a3.length:Nat):Int))then (k0 false)else (bif decide (8<((a4.length:Nat):Int))then (k0 false)else (bif decide (12<((a2.length:Nat):Int))then (k0 false)else (bif decide (6<((a1.length:Nat):Int))then (k0 false)else (bif decide (6<((a5.length:Nat):Int))then (k0 false)else (bif decide (4<((a6.length:Nat):Int))then (k0 false)else (aCb N k0 (fun z3 z4 z5 z6 z7 z8 z9=>(aB8 N k0 (fun z11 z12 z13 z14 z15 z16 z17=>(aB6 N k0 (k0 true) N 0 z11 z12 z13 z14 z15 z16 z17)) N 0 z3 z4 z5 z6 z7 z8 z9)) N 0 a0 a1 a2 a3 a4 a5 a6)))))))
def bQ7:CfS R:=u1 (bTi N) 37 ⟨[.agg zb2],[]⟩ ⟨[pB],[]⟩ (aDs N)
theorem bBH:FOK (bQ7 N:CfS R) (aAo T):=uCk (aND N) c37 (Lp:=(bIB N)) (hl:=(aAi (l:=[(58,[1,3],bAX),(122,[1,4],aZ5),(250,[1,5],aY9)]) (by kernel_rfl) ⟨(aDL (by decide) (aDL (by decide) (aAf (bCU N N)))),(aDL (by decide) (aAf (bFT N N))),(aAf (bCP N N)),trivial⟩))
def bW1 (N:Nat)(k0:Bool->Option R)(k1:zt6->Option R):Nat->zt6->Int->Option R
 | 0,_,_=>none
 | n+1,b0,b1=>(bif decide (b1<((b0.length:Nat):Int))then (bif decide (b1<70)then ((at? b0 b1).bind fun x1=>(bif decide (8<((x1.2.length:Nat):Int))then (k0 false)else (bW1 N k0 k1 n b0 (w64 (b1+1)))))else (k1 b0))else (k1 b0))
def P216_l0:SP:=⟨[(0,pL zs3),(3,pI)],[]⟩
def bZ0:Nat->P216_l0.den->KS R->Option R:=eS P216_l0 fun k=>bW1 N (qS k .ret ⟨[(2,pB)],[]⟩) (qS k (.ex 0) ⟨[(0,pL zs3)],[]⟩)
theorem cBG:LpG T P216_l0 (bZ0 N (R:=R)) [0,3] cAQ:=lpk (bBH N) 450
def cAC:LpS R:=aCc noL 450 (aAx P216_l0 (bZ0 N N))
def bW0 (k0:Bool->Option R)(b0:zt6):Option R:=(bW1 N k0 (fun z3=>(k0 (decide (((z3.length:Nat):Int)<=70)))) N b0 0)
def P216_j0:SP:=⟨[(0,pL zs3)],[]⟩
def bZO:Nat->P216_j0.den->KS R->Option R:=jS P216_j0 fun k=>bW0 N (qS k .ret ⟨[(2,pB)],[]⟩)
theorem cCc:LpG T P216_j0 (bZO N (R:=R)) [0] cAZ:=lpk (bBH N) 14 (Lp:=(cAC N)) (hl:=(aAi (l:=[(450,[0,3],cAQ)]) (by kernel_rfl) ⟨(aAf (cBG N N)),trivial⟩))
def cCR:LpS R:=aCc (cAC N) 14 (aAx P216_j0 (bZO N 1))
def bXd (a0:zt6)(k0:Bool->Option R):Option R:=(bif decide (20<((a0.length:Nat):Int))then (bif decide (((a0.length:Nat):Int)<=60)then (k0 false)else (bW0 N k0 a0))else (bW0 N k0 a0))
def bSm:CfS R:=u1 (bQ7 N) 62 ⟨[pL zs3],[]⟩ ⟨[pB],[]⟩ (bXd N)
theorem aUS:FOK (bSm N:CfS R) (aAo T):=uCk (bBH N) c62 (Lp:=(cCR N)) (hl:=(aAi (l:=[(14,[0],cAZ)]) (by kernel_rfl) ⟨(aAf (cCc N 1)),trivial⟩))
def bTw:Nat->Option (List Sh):=fun n=>if n=21000 then some [hI,.sl [hI]]else none
def bW5 (k0:zt6->Option R):Nat->zt6->Int->zt6->Option R
 | 0,_,_,_=>none
 | n+1,b0,b1,b2=>(bif decide (b1<((b0.length:Nat):Int))then ((at? b0 b1).bind fun x1=>((at? b0 b1).bind fun x2=>(aCX N x2.2 (fun y3=>(bif aBU (b2.length+1) 32 then (bW5 k0 n b0 (w64 (b1+1)) (b2++[(x1.1,y3)]))else none)))))else (k0 b2))
def P217_l0:SP:=⟨[(0,pL zs3),(3,.own 0),(4,pI)],[(0,.arr zs3)]⟩
def aXm:Nat->P217_l0.den->KS R->Option R:=eS P217_l0 fun k=>bW5 N (qS k (.ex 0) ⟨[(3,.own 0)],[(0,.arr zs3)]⟩)
theorem bCY:LpG T P217_l0 (aXm N (R:=R)) [0,3,4] cAY:=lpk (aUS N) 58 (H:=bTw)
def bJO:LpS R:=aCc noL 58 (aAx P217_l0 (aXm N N))
def bW7 (a0:zt6)(k0:zt6->Option R):Option R:=(bW5 N k0 N a0 0 [])
def bTn:CfS R:=u1 (bSm N) 64 ⟨[pL zs3],[]⟩ ⟨[pL zs3],[]⟩ (bW7 N)
theorem aPJ:FOK (bTn N:CfS R) (aAo T):=uCk (aUS N) c64 (H:=bTw) (Lp:=(bJO N)) (hl:=(aAi (l:=[(58,[0,3,4],cAY)]) (by kernel_rfl) ⟨(aAf (bCY N N)),trivial⟩))
def bXO (N:Nat)(a0:Int)(k0:Int->Option R):Option R:=(k0 (bLe .i64 (w64 (IntKind.wrap .u64 ((IntKind.wrap .u64 ((IntKind.wrap .u64 ((bLe .u64 (IntKind.wrap .u64 ((aLT .u64 (IntKind.wrap .u64 ((bLe .u64 (aLT .u64 (IntKind.wrap .u64 ((bLe .u64 (aLT .u64 a0 1) 6148914691236517205)+(bLe .u64 a0 6148914691236517205))) 2) 3689348814741910323)+(bLe .u64 (IntKind.wrap .u64 ((bLe .u64 (aLT .u64 a0 1) 6148914691236517205)+(bLe .u64 a0 6148914691236517205))) 3689348814741910323))) 4)+(IntKind.wrap .u64 ((bLe .u64 (aLT .u64 (IntKind.wrap .u64 ((bLe .u64 (aLT .u64 a0 1) 6148914691236517205)+(bLe .u64 a0 6148914691236517205))) 2) 3689348814741910323)+(bLe .u64 (IntKind.wrap .u64 ((bLe .u64 (aLT .u64 a0 1) 6148914691236517205)+(bLe .u64 a0 6148914691236517205))) 3689348814741910323))))) 1085102592571150095)+(aLT .u64 (bLe .u64 (IntKind.wrap .u64 ((aLT .u64 (IntKind.wrap .u64 ((bLe .u64 (aLT .u64 (IntKind.wrap .u64 ((bLe .u64 (aLT .u64 a0 1) 6148914691236517205)+(bLe .u64 a0 6148914691236517205))) 2) 3689348814741910323)+(bLe .u64 (IntKind.wrap .u64 ((bLe .u64 (aLT .u64 a0 1) 6148914691236517205)+(bLe .u64 a0 6148914691236517205))) 3689348814741910323))) 4)+(IntKind.wrap .u64 ((bLe .u64 (aLT .u64 (IntKind.wrap .u64 ((bLe .u64 (aLT .u64 a0 1) 6148914691236517205)+(bLe .u64 a0 6148914691236517205))) 2) 3689348814741910323)+(bLe .u64 (IntKind.wrap .u64 ((bLe .u64 (aLT .u64 a0 1) 6148914691236517205)+(bLe .u64 a0 6148914691236517205))) 3689348814741910323))))) 1085102592571150095) 8)))+(aLT .u64 (IntKind.wrap .u64 ((bLe .u64 (IntKind.wrap .u64 ((aLT .u64 (IntKind.wrap .u64 ((bLe .u64 (aLT .u64 (IntKind.wrap .u64 ((bLe .u64 (aLT .u64 a0 1) 6148914691236517205)+(bLe .u64 a0 6148914691236517205))) 2) 3689348814741910323)+(bLe .u64 (IntKind.wrap .u64 ((bLe .u64 (aLT .u64 a0 1) 6148914691236517205)+(bLe .u64 a0 6148914691236517205))) 3689348814741910323))) 4)+(IntKind.wrap .u64 ((bLe .u64 (aLT .u64 (IntKind.wrap .u64 ((bLe .u64 (aLT .u64 a0 1) 6148914691236517205)+(bLe .u64 a0 6148914691236517205))) 2) 3689348814741910323)+(bLe .u64 (IntKind.wrap .u64 ((bLe .u64 (aLT .u64 a0 1) 6148914691236517205)+(bLe .u64 a0 6148914691236517205))) 3689348814741910323))))) 1085102592571150095)+(aLT .u64 (bLe .u64 (IntKind.wrap .u64 ((aLT .u64 (IntKind.wrap .u64 ((bLe .u64 (aLT .u64 (IntKind.wrap .u64 ((bLe .u64 (aLT .u64 a0 1) 6148914691236517205)+(bLe .u64 a0 6148914691236517205))) 2) 3689348814741910323)+(bLe .u64 (IntKind.wrap .u64 ((bLe .u64 (aLT .u64 a0 1) 6148914691236517205)+(bLe .u64 a0 6148914691236517205))) 3689348814741910323))) 4)+(IntKind.wrap .u64 ((bLe .u64 (aLT .u64 (IntKind.wrap .u64 ((bLe .u64 (aLT .u64 a0 1) 6148914691236517205)+(bLe .u64 a0 6148914691236517205))) 2) 3689348814741910323)+(bLe .u64 (IntKind.wrap .u64 ((bLe .u64 (aLT .u64 a0 1) 6148914691236517205)+(bLe .u64 a0 6148914691236517205))) 3689348814741910323))))) 1085102592571150095) 8))) 16)))+(aLT .u64 (IntKind.wrap .u64 ((IntKind.wrap .u64 ((bLe .u64 (IntKind.wrap .u64 ((aLT .u64 (IntKind.wrap .u64 ((bLe .u64 (aLT .u64 (IntKind.wrap .u64 ((bLe .u64 (aLT .u64 a0 1) 6148914691236517205)+(bLe .u64 a0 6148914691236517205))) 2) 3689348814741910323)+(bLe .u64 (IntKind.wrap .u64 ((bLe .u64 (aLT .u64 a0 1) 6148914691236517205)+(bLe .u64 a0 6148914691236517205))) 3689348814741910323))) 4)+(IntKind.wrap .u64 ((bLe .u64 (aLT .u64 (IntKind.wrap .u64 ((bLe .u64 (aLT .u64 a0 1) 6148914691236517205)+(bLe .u64 a0 6148914691236517205))) 2) 3689348814741910323)+(bLe .u64 (IntKind.wrap .u64 ((bLe .u64 (aLT .u64 a0 1) 6148914691236517205)+(bLe .u64 a0 6148914691236517205))) 3689348814741910323))))) 1085102592571150095)+(aLT .u64 (bLe .u64 (IntKind.wrap .u64 ((aLT .u64 (IntKind.wrap .u64 ((bLe .u64 (aLT .u64 (IntKind.wrap .u64 ((bLe .u64 (aLT .u64 a0 1) 6148914691236517205)+(bLe .u64 a0 6148914691236517205))) 2) 3689348814741910323)+(bLe .u64 (IntKind.wrap .u64 ((bLe .u64 (aLT .u64 a0 1) 6148914691236517205)+(bLe .u64 a0 6148914691236517205))) 3689348814741910323))) 4)+(IntKind.wrap .u64 ((bLe .u64 (aLT .u64 (IntKind.wrap .u64 ((bLe .u64 (aLT .u64 a0 1) 6148914691236517205)+(bLe .u64 a0 6148914691236517205))) 2) 3689348814741910323)+(bLe .u64 (IntKind.wrap .u64 ((bLe .u64 (aLT .u64 a0 1) 6148914691236517205)+(bLe .u64 a0 6148914691236517205))) 3689348814741910323))))) 1085102592571150095) 8)))+(aLT .u64 (IntKind.wrap .u64 ((bLe .u64 (IntKind.wrap .u64 ((aLT .u64 (IntKind.wrap .u64 ((bLe .u64 (aLT .u64 (IntKind.wrap .u64 ((bLe .u64 (aLT .u64 a0 1) 6148914691236517205)+(bLe .u64 a0 6148914691236517205))) 2) 3689348814741910323)+(bLe .u64 (IntKind.wrap .u64 ((bLe .u64 (aLT .u64 a0 1) 6148914691236517205)+(bLe .u64 a0 6148914691236517205))) 3689348814741910323))) 4)+(IntKind.wrap .u64 ((bLe .u64 (aLT .u64 (IntKind.wrap .u64 ((bLe .u64 (aLT .u64 a0 1) 6148914691236517205)+(bLe .u64 a0 6148914691236517205))) 2) 3689348814741910323)+(bLe .u64 (IntKind.wrap .u64 ((bLe .u64 (aLT .u64 a0 1) 6148914691236517205)+(bLe .u64 a0 6148914691236517205))) 3689348814741910323))))) 1085102592571150095)+(aLT .u64 (bLe .u64 (IntKind.wrap .u64 ((aLT .u64 (IntKind.wrap .u64 ((bLe .u64 (aLT .u64 (IntKind.wrap .u64 ((bLe .u64 (aLT .u64 a0 1) 6148914691236517205)+(bLe .u64 a0 6148914691236517205))) 2) 3689348814741910323)+(bLe .u64 (IntKind.wrap .u64 ((bLe .u64 (aLT .u64 a0 1) 6148914691236517205)+(bLe .u64 a0 6148914691236517205))) 3689348814741910323))) 4)+(IntKind.wrap .u64 ((bLe .u64 (aLT .u64 (IntKind.wrap .u64 ((bLe .u64 (aLT .u64 a0 1) 6148914691236517205)+(bLe .u64 a0 6148914691236517205))) 2) 3689348814741910323)+(bLe .u64 (IntKind.wrap .u64 ((bLe .u64 (aLT .u64 a0 1) 6148914691236517205)+(bLe .u64 a0 6148914691236517205))) 3689348814741910323))))) 1085102592571150095) 8))) 16))) 32)))) 127))
def bTt:CfS R:=u1 (bTn N) 198 ⟨[.p (.s (.i .u64))],[]⟩ ⟨[pI],[]⟩ (bXO N)
theorem bBV:FOK (bTt N:CfS R) (aAo T):=uCk (aPJ N) cDc
def bXN (a0:Int)(k0:Int->Option R):Option R:=(bXO N a0 k0)
def bQJ:CfS R:=u1 (bTt N) 142 ⟨[.p (.s (.i .u64))],[]⟩ ⟨[pI],[]⟩ (bXN N)
theorem aP9:FOK (bQJ N:CfS R) (aAo T):=uCk (bBV N) cC4
def cDs:Nat->Option (List Sh):=fun n=>if n=26000 then some [hI]else none
def bXn (k0:Int->Option R):Nat->zk1 (List (List Int)->zk1 (Option R))
 | 0,_,_,_,_,_=>none
 | n+1,b0,b1,b2,b3,b4=>(bif decide (b4<b3)then ((at? b2 b4).bind fun x1=>((at? x1 b0).bind fun x2=>((at? b2 (w64 (b4+1))).bind fun x3=>((at? x3 b0).bind fun x4=>(bXN N (IntKind.wrap .u64 (bQA .i64 x2 x4)) (fun y5=>(bXn k0 n b0 (max b1 y5) b2 b3 (w64 (b4+1)))))))))else (k0 b1))
def P220_l0:SP:=⟨[(1,pI),(11,pI),(12,pL zs6),(41,pI),(42,pI)],[]⟩
def aSQ:Nat->P220_l0.den->KS R->Option R:=eS P220_l0 fun k=>bXn N (qS k (.ex 0) ⟨[(11,pI)],[]⟩)
theorem bCr:LpG T P220_l0 (aSQ N (R:=R)) [1,11,12,41,42] cAK:=lpk (aP9 N) 1018 (H:=cDs)
def aZK:LpS R:=aCc noL 1018 (aAx P220_l0 (aSQ N N))
def bXK (a0:ByteArray)(a1:zt7)(a2:zt1)(a3:zt2)(a4:zt0)(a5:zt7)(a6:zt6)(a7:Int)(a8:zt6)(k0:zk1 (Option R)):Option R:=(aDo N a0 a1 a2 a3 a4 a5 a6 (fun y1=>(bif decide (y1≠0)then (k0 0 y1)else (aCm N a7 0 (w64 (((a2.length:Nat):Int)-1)) (fun y2=>(aA8 N y2 6 (fun y3=>(aFN N a8 (fun y4=>(aHk N [y3,y4] (fun y5=>(bif decide (y5≠0)then (k0 0 y5)else (aFV N a8)))))))))))) (fun y6 y7 y8 y9 y10 y11 y12 y13 y14=>(bif decide (y14≠0)then (k0 0 y14)else (aCm N a7 0 (w64 (((a2.length:Nat):Int)-1)) (fun y15=>(aA8 N y15 6 (fun y16=>(aE5 N y6 y7 y8 y9 y10 y11 y12 y13 a8 (fun y17=>(aHk N [y16,y17] (fun y18=>(bif decide (y18≠0)then (k0 0 y18)else (aEZ N y6 y7 y8 y9 y10 y11 y12 y13 a8 (fun y19=>(bXn N (fun z20=>(k0 z20 0)) N a7 0 y19 ((a8.length:Nat):Int) 0)))))))))))))))
def bQS:CfS R:=u1 (bQJ N) 65 ⟨[.agg zb2,pI,pL zs3],[]⟩ ⟨[pI,pI],[]⟩ (bXK N)
theorem bDy:FOK (bQS N:CfS R) (aAo T):=uCk (aP9 N) c65 (H:=cDs) (Lp:=(aZK N)) (hl:=(aAi (l:=[(1018,[1,11,12,41,42],cAK)]) (by kernel_rfl) ⟨(aAf (bCr N N)),trivial⟩))
def aA3 (N:Nat)(k0:Bool->Option R)(k1:zk5 (Option R))(b0:ByteArray)(b1 b2:Int)(b3:Bool):Option R:=(bif (!b3)then (bif decide (b1=0)then (k0 false)else (bif decide (b2≠95)then (bif decide (b2<48)then (k0 false)else (bif decide (57<b2)then (k0 false)else (k1 b0 b1)))else (k1 b0 b1)))else (k1 b0 b1))
def P221_j0:SP:=⟨[(0,pS),(3,pI),(4,.p (.s (.i .u8))),(5,pB)],[]⟩
def bZH:Nat->P221_j0.den->KS R->Option R:=jS P221_j0 fun k=>aA3 N (qS k .ret ⟨[(2,pB)],[]⟩) (qS k (.ex 1001865) ⟨[(0,pS),(3,pI)],[]⟩)
theorem cBH:LpG T P221_j0 (bZH N (R:=R)) [0,3,4,5] aTx:=lpk (bDy N) 7462
def cA7:LpS R:=aCc noL 7462 (aAx P221_j0 (bZH N 1))
def aAC (k0:Bool->Option R)(k1:Option R):Nat->zk5 (Option R)
 | 0,_,_=>none
 | n+1,b0,b1=>(bif decide (b1<((b0.size:Nat):Int))then ((aJd b0 b1).bind fun x1=>(bif decide (97<=x1)then (bif decide (x1<=122)then (aA3 N k0 (fun z3 z4=>(aAC k0 k1 n z3 (w64 (z4+1)))) b0 b1 x1 true)else (bif decide (65<=x1)then (aA3 N k0 (fun z6 z7=>(aAC k0 k1 n z6 (w64 (z7+1)))) b0 b1 x1 (decide (x1<=90)))else (aA3 N k0 (fun z9 z10=>(aAC k0 k1 n z9 (w64 (z10+1)))) b0 b1 x1 false)))else (bif decide (65<=x1)then (aA3 N k0 (fun z12 z13=>(aAC k0 k1 n z12 (w64 (z13+1)))) b0 b1 x1 (decide (x1<=90)))else (aA3 N k0 (fun z15 z16=>(aAC k0 k1 n z15 (w64 (z16+1)))) b0 b1 x1 false))))else k1)
def P221_l0:SP:=⟨[(0,pS),(3,pI)],[]⟩
def cAc:Nat->P221_l0.den->KS R->Option R:=eS P221_l0 fun k=>aAC N (qS k .ret ⟨[(2,pB)],[]⟩) (qS k (.ex 0) ⟨[],[]⟩)
theorem cBT:LpG T P221_l0 (cAc N (R:=R)) [0,3] aSc:=lpk (bDy N) 58 (Lp:=(cA7 N)) (hl:=(aAi (l:=[(7462,[0,3,4,5],aTx)]) (by kernel_rfl) ⟨(aAf (cBH N 1)),trivial⟩))
def cCh:LpS R:=aCc (cA7 N) 58 (aAx P221_l0 (cAc N N))
def aBW (a0:ByteArray)(k0:Bool->Option R):Option R:=(bif decide (((a0.size:Nat):Int)<1)then (k0 false)else (bif decide (16<((a0.size:Nat):Int))then (k0 false)else (aAC N k0 (k0 true) N a0 0)))
def bS2:CfS R:=u1 (bQS N) 169 ⟨[pS],[]⟩ ⟨[pB],[]⟩ (aBW N)
theorem bFX:FOK (bS2 N:CfS R) (aAo T):=uCk (bDy N) bH7 (Lp:=(cCh N)) (hl:=(aAi (l:=[(58,[0,3],aSc)]) (by kernel_rfl) ⟨(aAf (cBT N N)),trivial⟩))
def aAz (N:Nat)(a0 a1 a2:Int)(k0:Bool->Option R):Option R:=(bif decide (a1<=a0)then (k0 (decide (a0<=a2)))else (k0 false))
def bTk:CfS R:=u1 (bS2 N) 14 ⟨[pI,pI,pI],[]⟩ ⟨[pB],[]⟩ (aAz N)
theorem aPQ:FOK (bTk N:CfS R) (aAo T):=uCk (bFX N) c14
def aCz (a0:Int)(k0:Bool->Option R):Option R:=(aAz N a0 1 16 k0)
def bR7:CfS R:=u1 (bTk N) 246 ⟨[pI],[]⟩ ⟨[pB],[]⟩ (aCz N)
theorem bEz:FOK (bR7 N:CfS R) (aAo T):=uCk (aPQ N) bNF
def aBJ (N:Nat)(k0:zk1 (Option R))(k1:zt7->Int->Option R):Nat->zt7->zk1 (Option R)
 | 0,_,_,_=>none
 | n+1,b0,b1,b2=>(bif decide (b2<b1)then ((at? b0 b2).bind fun x1=>((at? b0 b1).bind fun x2=>(bif decide (x1.1=x2.1)then (k0 b1 5)else (aBJ N k0 k1 n b0 b1 (w64 (b2+1))))))else (k1 b0 b1))
def P224_l1:SP:=⟨[(0,pL [.s,hI]),(4,pI),(5,pI)],[]⟩
def bZU:Nat->P224_l1.den->KS R->Option R:=eS P224_l1 fun k=>aBJ N (qS k .ret ⟨[(2,pI),(3,pI)],[]⟩) (qS k (.ex 2) ⟨[(0,pL [.s,hI]),(4,pI)],[]⟩)
theorem cCg:LpG T P224_l1 (bZU N (R:=R)) [0,4,5] aWZ:=lpk (bEz N) 14922
def cAO:LpS R:=aCc noL 14922 (aAx P224_l1 (bZU N N))
def aBM (k0:zk1 (Option R))(k1:Option R):Nat->zt7->Int->Option R
 | 0,_,_=>none
 | n+1,b0,b1=>(bif decide (b1<((b0.length:Nat):Int))then ((at? b0 b1).bind fun x1=>(aBW N x1.1 (fun y2=>(bif (!y2)then (k0 b1 4)else (aBJ N k0 (fun z5 z6=>((at? z5 z6).bind fun x7=>(aCz N x7.2 (fun y8=>(bif (!y8)then (k0 z6 2)else (aBM k0 k1 n z5 (w64 (z6+1)))))))) N b0 b1 0)))))else k1)
def P224_l0:SP:=⟨[(0,pL [.s,hI]),(4,pI)],[]⟩
def bZI:Nat->P224_l0.den->KS R->Option R:=eS P224_l0 fun k=>aBM N (qS k .ret ⟨[(2,pI),(3,pI)],[]⟩) (qS k (.ex 0) ⟨[],[]⟩)
theorem cB8:LpG T P224_l0 (bZI N (R:=R)) [0,4] aW5:=lpk (bEz N) 58 (Lp:=(cAO N)) (hl:=(aAi (l:=[(14922,[0,4,5],aWZ)]) (by kernel_rfl) ⟨(aAf (cCg N N)),trivial⟩))
def cCN:LpS R:=aCc (cAO N) 58 (aAx P224_l0 (bZI N N))
def aDD (a0:zt7)(k0:zk1 (Option R)):Option R:=(bif decide (12<((a0.length:Nat):Int))then (k0 0 8)else (aBM N k0 (k0 0 0) N a0 0))
def bSU:CfS R:=u1 (bR7 N) 170 ⟨[pL [.s,hI]],[]⟩ ⟨[pI,pI],[]⟩ (aDD N)
theorem bCz:FOK (bSU N:CfS R) (aAo T):=uCk (bEz N) bHG (Lp:=(cCN N)) (hl:=(aAi (l:=[(58,[0,4],aW5)]) (by kernel_rfl) ⟨(aAf (cB8 N N)),trivial⟩))
def aEO (N:Nat)(a0:Int)(k0:Int->Option R):Option R:=(bif decide (a0<0)then none else (k0 (aPi .i64 1 a0)))
def bQZ:CfS R:=u1 (bSU N) 33 ⟨[pI],[]⟩ ⟨[pI],[]⟩ (aEO N)
theorem aNk:FOK (bQZ N:CfS R) (aAo T):=uCk (bCz N) c33
def aEg (a0 a1:Int)(k0:Bool->Option R):Option R:=(aEO N a1 (fun y1=>(aAz N a0 0 (w64 (y1-1)) k0)))
def bSc:CfS R:=u1 (bQZ N) 109 ⟨[pI,pI],[]⟩ ⟨[pB],[]⟩ (aEg N)
theorem aPw:FOK (bSc N:CfS R) (aAo T):=uCk (aNk N) bNz
def aBc (N:Nat)(k0:zk1 (Option R))(k1:zt7->zt1->Int->Option R):Nat->zt7->zt1->zk1 (Option R)
 | 0,_,_,_,_=>none
 | n+1,b0,b1,b2,b3=>(bif decide (b3<b2)then ((at? b1 b3).bind fun x1=>((at? b1 b2).bind fun x2=>(bif decide (x1.1=x2.1)then (k0 b2 5)else (aBc N k0 k1 n b0 b1 b2 (w64 (b3+1))))))else (k1 b0 b1 b2))
def P227_l1:SP:=⟨[(0,pL [.s,hI]),(1,pL zs2),(6,pI),(7,pI)],[]⟩
def aWE:Nat->P227_l1.den->KS R->Option R:=eS P227_l1 fun k=>aBc N (qS k .ret ⟨[(4,pI),(5,pI)],[]⟩) (qS k (.ex 2) ⟨[(0,pL [.s,hI]),(1,pL zs2),(6,pI)],[]⟩)
theorem bFx:LpG T P227_l1 (aWE N (R:=R)) [0,1,6,7] aTW:=lpk (aPw N) 14922
def bBq:LpS R:=aCc noL 14922 (aAx P227_l1 (aWE N N))
def aBd (N:Nat)(k0:zk1 (Option R))(k1:zt7->zt1->Int->Option R):Nat->zt7->zt1->zk1 (Option R)
 | 0,_,_,_,_=>none
 | n+1,b0,b1,b2,b3=>(bif decide (b3<((b0.length:Nat):Int))then ((at? b0 b3).bind fun x1=>((at? b1 b2).bind fun x2=>(bif decide (x1.1=x2.1)then (k0 b2 5)else (aBd N k0 k1 n b0 b1 b2 (w64 (b3+1))))))else (k1 b0 b1 b2))
def P227_l2:SP:=⟨[(0,pL [.s,hI]),(1,pL zs2),(6,pI),(8,pI)],[]⟩
def bZ4:Nat->P227_l2.den->KS R->Option R:=eS P227_l2 fun k=>aBd N (qS k .ret ⟨[(4,pI),(5,pI)],[]⟩) (qS k (.ex 4) ⟨[(0,pL [.s,hI]),(1,pL zs2),(6,pI)],[]⟩)
theorem cBu:LpG T P227_l2 (bZ4 N (R:=R)) [0,1,6,8] aVz:=lpk (aPw N) 29850 (Lp:=(bBq N))
def bHk:LpS R:=aCc (bBq N) 29850 (aAx P227_l2 (bZ4 N N))
def aBb (k0:zk1 (Option R))(k1:Option R):Nat->zt7->zt1->Int->Option R
 | 0,_,_,_=>none
 | n+1,b0,b1,b2=>(bif decide (b2<((b1.length:Nat):Int))then ((at? b1 b2).bind fun x1=>(aBW N x1.1 (fun y2=>(bif (!y2)then (k0 b2 4)else (aBc N k0 (fun z5 z6 z7=>(aBd N k0 (fun z10 z11 z12=>((at? z11 z12).bind fun x13=>(aAz N x13.2.1 0 1 (fun y14=>(bif (!y14)then (k0 z12 15)else ((at? z11 z12).bind fun x15=>(aCz N x15.2.2.1 (fun y16=>(bif (!y16)then (k0 z12 2)else ((at? z11 z12).bind fun x17=>((at? z11 z12).bind fun x18=>(aEg N x17.2.2.2.1 x18.2.2.1 (fun y19=>(bif (!y19)then (k0 z12 2)else ((at? z11 z12).bind fun x20=>(aAz N x20.2.2.2.2 0 3 (fun y21=>(bif (!y21)then (k0 z12 2)else (aBb k0 k1 n z10 z11 (w64 (z12+1))))))))))))))))))))) N z5 z6 z7 0)) N b0 b1 b2 0)))))else k1)
def P227_l0:SP:=⟨[(0,pL [.s,hI]),(1,pL zs2),(6,pI)],[]⟩
def aVG:Nat->P227_l0.den->KS R->Option R:=eS P227_l0 fun k=>aBb N (qS k .ret ⟨[(4,pI),(5,pI)],[]⟩) (qS k (.ex 0) ⟨[],[]⟩)
theorem bFL:LpG T P227_l0 (aVG N (R:=R)) [0,1,6] aTC:=lpk (aPw N) 58 (Lp:=(bHk N)) (hl:=(aAi (l:=[(14922,[0,1,6,7],aTW),(29850,[0,1,6,8],aVz)]) (by kernel_rfl) ⟨(aDL (by decide) (aAf (bFx N N))),(aAf (cBu N N)),trivial⟩))
def cCl:LpS R:=aCc (bHk N) 58 (aAx P227_l0 (aVG N N))
def aC0 (a0:zt7)(a1:zt1)(k0:zk1 (Option R)):Option R:=(bif decide (40<(w64 (((a0.length:Nat):Int)+((a1.length:Nat):Int))))then (k0 0 8)else (aBb N k0 (k0 0 0) N a0 a1 0))
def bRa:CfS R:=u1 (bSc N) 171 ⟨[pL [.s,hI],pL zs2],[]⟩ ⟨[pI,pI],[]⟩ (aC0 N)
theorem bD9:FOK (bRa N:CfS R) (aAo T):=uCk (aPw N) bGu (Lp:=(cCl N)) (hl:=(aAi (l:=[(58,[0,1,6],aTC)]) (by kernel_rfl) ⟨(aAf (bFL N N)),trivial⟩))
def cC8:Nat->Option (List Sh):=fun n=>if n=17000 then some [hI]else if n=36000 then some [hI]else none
def aB5 (N:Nat)(k0:zk0 (List Int->Option R)):Nat->Int->zk0 (List Int->Option R)
 | 0,_,_,_,_,_,_,_,_,_=>none
 | n+1,b0,b1,b2,b3,b4,b5,b6,b7,b8=>(bif decide (b0<((b2.length:Nat):Int))then ((at? b2 b0).bind fun x1=>(bif aBU (b8.length+1) 8 then (aB5 N k0 n (w64 (b0+1)) b1 b2 b3 b4 b5 b6 b7 (b8++[x1.2]))else none))else (k0 b1 b2 b3 b4 b5 b6 b7 b8))
def P228_l0:SP:=⟨[(1,.ptr 0 0),(3,.own 1),(4,pI)],[(0,.box zb2),(1,.arr [hI])]⟩
def bZF:Nat->P228_l0.den->KS R->Option R:=eS P228_l0 fun k=>aB5 N (qS k (.ex 0) ⟨[(1,.ptr 0 0),(3,.own 1)],[(0,.box zb2),(1,.arr [hI])]⟩)
theorem cBt:LpG T P228_l0 (bZF N (R:=R)) [1,3,4] aTS:=lpk (bD9 N) 58 (H:=cC8)
def cAI:LpS R:=aCc noL 58 (aAx P228_l0 (bZF N N))
def aCa (N:Nat)(k0:List Int->Option R):Nat->Int->zk0 (List Int->Option R)
 | 0,_,_,_,_,_,_,_,_,_=>none
 | n+1,b0,b1,b2,b3,b4,b5,b6,b7,b8=>(bif decide (b0<((b3.length:Nat):Int))then ((at? b3 b0).bind fun x1=>(bif aBU (b8.length+1) 8 then (aCa N k0 n (w64 (b0+1)) b1 b2 b3 b4 b5 b6 b7 (b8++[x1.2.2.1]))else none))else (k0 b8))
def P228_l1:SP:=⟨[(1,.ptr 0 0),(3,.own 1),(5,pI)],[(0,.box zb2),(1,.arr [hI])]⟩
def bZM:Nat->P228_l1.den->KS R->Option R:=eS P228_l1 fun k=>aCa N (qS k (.ex 2) ⟨[(3,.own 0)],[(0,.arr [hI])]⟩)
theorem cB1:LpG T P228_l1 (bZM N (R:=R)) [1,3,5] aSD:=lpk (bD9 N) 122 (H:=cC8) (Lp:=(cAI N))
def cCp:LpS R:=aCc (cAI N) 122 (aAx P228_l1 (bZM N N))
def aEo (a0:ByteArray)(a1:zt7)(a2:zt1)(a3:zt2)(a4:zt0)(a5:zt7)(a6:zt6)(k0:List Int->Option R):Option R:=(aB5 N (fun z2 z3 z4 z5 z6 z7 z8 z9=>(aCa N k0 N 0 z2 z3 z4 z5 z6 z7 z8 z9)) N 0 a0 a1 a2 a3 a4 a5 a6 [])
def bQF:CfS R:=u1 (bRa N) 173 ⟨[.agg zb2],[]⟩ ⟨[pL [hI]],[]⟩ (aEo N)
theorem aUn:FOK (bQF N:CfS R) (aAo T):=uCk (bD9 N) bGR (H:=cC8) (Lp:=(cCp N)) (hl:=(aAi (l:=[(58,[1,3,4],aTS),(122,[1,3,5],aSD)]) (by kernel_rfl) ⟨(aDL (by decide) (aAf (cBt N N))),(aAf (cB1 N N)),trivial⟩))
def aDJ (N:Nat)(a0:Int)(k0:Int->Option R):Option R:=(bif decide (a0=0)then (k0 0)else (bif decide (a0=1)then (k0 0)else (bif decide (a0=2)then (k0 1)else (bif decide (a0=14)then (k0 1)else (bif decide (a0=15)then (k0 1)else (bif decide (a0=16)then (k0 1)else (bif decide (a0=12)then (k0 3)else (k0 2))))))))
def bSV:CfS R:=u1 (bQF N) 278 ⟨[pI],[]⟩ ⟨[pI],[]⟩ (aDJ N)
theorem aVd:FOK (bSV N:CfS R) (aAo T):=uCk (aUn N) bNW
def cDt:Nat->Option (List Sh):=fun n=>if n=20000 then some [hI]else none
def aBA (N:Nat)(k0:zk1 (zk4 (List Int->Option R))):Nat->zt2->zk1 (Int->zk4 (List Int->Option R))
 | 0,_,_,_,_,_,_,_=>none
 | n+1,b0,b1,b2,b3,b4,b5,b6=>(bif decide (b1<((b4.length:Nat):Int))then ((at? b4 b1).bind fun x1=>((at? b0 x1).bind fun x2=>(bif aBU (b6.length+1) 8 then (aBA N k0 n b0 (w64 (b1+1)) b2 b3 b4 b5 (b6++[x2.2.1]))else none)))else (k0 b2 b3 b4 b5 b6))
def P230_l0:SP:=⟨[(0,pL zs1),(3,.ptr 0 0),(5,.own 1),(6,pI)],[(0,.box zb6),(1,.arr [hI])]⟩
def aU7:Nat->P230_l0.den->KS R->Option R:=eS P230_l0 fun k=>aBA N (qS k (.ex 0) ⟨[(3,.ptr 0 0),(5,.own 1)],[(0,.box zb6),(1,.arr [hI])]⟩)
theorem bB9:LpG T P230_l0 (aU7 N (R:=R)) [0,3,5,6] aW1:=lpk (aVd N) 58 (H:=cDt)
def bJc:LpS R:=aCc noL 58 (aAx P230_l0 (aU7 N N))
def aCJ (a0:zt2)(a1 a2:Int)(a3:List Int)(a4:Int)(k0:Bool->Option R):Option R:=(aBA N (fun z3 z4 z5 z6 z7=>(bif decide (z3=2)then (bif inR 0 z7.length then ((z7[0]?).bind fun x8=>(k0 (decide (x8=z4))))else none)else (bif decide (z3=3)then (bif inR 0 z7.length then ((z7[0]?).bind fun x9=>(bif decide (x9=z4)then (bif inR 1 z7.length then ((z7[1]?).bind fun x10=>(k0 (decide (x10=z4))))else none)else (k0 false)))else none)else (bif decide (z3=4)then (bif inR 0 z7.length then ((z7[0]?).bind fun x11=>(bif decide (x11=z4)then (bif inR 1 z7.length then ((z7[1]?).bind fun x12=>(k0 (decide (x12=z4))))else none)else (k0 false)))else none)else (bif decide (z3=5)then (bif inR 0 z7.length then ((z7[0]?).bind fun x13=>(bif decide (x13=z4)then (bif inR 1 z7.length then ((z7[1]?).bind fun x14=>(k0 (decide (x14=z4))))else none)else (k0 false)))else none)else (bif decide (z3=6)then (bif inR 0 z7.length then ((z7[0]?).bind fun x15=>(bif decide (x15=z4)then (bif inR 1 z7.length then ((z7[1]?).bind fun x16=>(k0 (decide (x16=z4))))else none)else (k0 false)))else none)else (bif decide (z3=7)then (bif inR 0 z7.length then ((z7[0]?).bind fun x17=>(bif decide (x17=z4)then (bif inR 1 z7.length then ((z7[1]?).bind fun x18=>(k0 (decide (x18=z4))))else none)else (k0 false)))else none)else (bif decide (z3=8)then (bif inR 0 z7.length then ((z7[0]?).bind fun x19=>(bif decide (x19=z4)then (bif inR 1 z7.length then ((z7[1]?).bind fun x20=>(k0 (decide (x20=z4))))else none)else (k0 false)))else none)else (bif decide (z3=9)then (bif inR 0 z7.length then ((z7[0]?).bind fun x21=>(bif inR 1 z7.length then ((z7[1]?).bind fun x22=>(bif decide (x21=x22)then (k0 (decide (z4=1)))else (k0 false)))else none))else none)else (bif decide (z3=10)then (bif inR 0 z7.length then ((z7[0]?).bind fun x23=>(bif inR 1 z7.length then ((z7[1]?).bind fun x24=>(bif decide (x23=x24)then (k0 (decide (z4=1)))else (k0 false)))else none))else none)else (bif decide (z3=11)then (bif inR 0 z7.length then ((z7[0]?).bind fun x25=>(bif inR 1 z7.length then ((z7[1]?).bind fun x26=>(bif decide (x25=x26)then (k0 (decide (z4=1)))else (k0 false)))else none))else none)else (bif decide (z3=12)then (bif inR 0 z7.length then ((z7[0]?).bind fun x27=>(bif decide (x27=1)then (bif inR 1 z7.length then ((z7[1]?).bind fun x28=>(bif decide (x28=z4)then (bif inR 2 z7.length then ((z7[2]?).bind fun x29=>(k0 (decide (x29=z4))))else none)else (k0 false)))else none)else (k0 false)))else none)else (bif decide (z3=13)then (bif inR 0 z7.length then ((z7[0]?).bind fun x30=>(bif inR 1 z7.length then ((z7[1]?).bind fun x31=>(k0 (decide ((w64 (x30+x31))=z4))))else none))else none)else (bif decide (z3=14)then (bif inR 0 z7.length then ((z7[0]?).bind fun x32=>(k0 (decide ((w64 (z6+z4))<=x32))))else none)else (bif decide (z3=15)then (bif inR 0 z7.length then ((z7[0]?).bind fun x33=>(k0 (decide (x33<=z4))))else none)else (bif decide (z3=16)then (bif inR 0 z7.length then ((z7[0]?).bind fun x34=>(k0 (decide (x34<=z4))))else none)else (bif inR 0 z7.length then ((z7[0]?).bind fun x35=>(k0 (decide (x35=z4))))else none))))))))))))))))) N a0 0 a1 a2 a3 a4 [])
def bQn:CfS R:=u1 (bSV N) 279 ⟨[pL zs1,.agg zb6],[]⟩ ⟨[pB],[]⟩ (aCJ N)
theorem aUY:FOK (bQn N:CfS R) (aAo T):=uCk (aVd N) bL1 (H:=cDt) (Lp:=(bJc N)) (hl:=(aAi (l:=[(58,[0,3,5,6],aW1)]) (by kernel_rfl) ⟨(aAf (bB9 N N)),trivial⟩))
def aBY (k0:Int->Option R)(k1:List Int->zt2->zk1 (zk4 (Option R))):zk7 (zt2->zk1 (zk1 (zk4 (Option R))))
 | 0,_,_,_,_,_,_,_,_=>none
 | n+1,b0,b1,b2,b3,b4,b5,b6,b7=>(bif decide (b3<((b6.length:Nat):Int))then ((at? b6 b3).bind fun x1=>(aAz N x1 0 (w64 (b2-1)) (fun y2=>(bif (!y2)then (k0 9)else (aBY k0 k1 n b0 b1 b2 (w64 (b3+1)) b4 b5 b6 b7)))))else (k1 b0 b1 b4 b5 b6 b7))
def P231_l0:SP:=⟨[(0,pL [hI]),(1,pL zs1),(2,pI),(7,.ptr 0 0),(8,pI)],[(0,.box zb6)]⟩
def aS6:Nat->P231_l0.den->KS R->Option R:=eS P231_l0 fun k=>aBY N (qS k .ret ⟨[(6,pI)],[]⟩) (qS k (.ex 0) ⟨[(0,pL [hI]),(1,pL zs1),(7,.ptr 0 0)],[(0,.box zb6)]⟩)
theorem bDB:LpG T P231_l0 (aS6 N (R:=R)) [0,1,2,7,8] aW0:=lpk (aUY N) 506
def bKY:LpS R:=aCc noL 506 (aAx P231_l0 (aS6 N N))
def aDV (a0:List Int)(a1:zt2)(a2:Int)(k0:Int->Option R):Option R:=((at? a1 a2).bind fun x1=>(aAz N x1.1 0 18 (fun y2=>(bif (!y2)then (k0 15)else (aCz N x1.2.1 (fun y3=>(bif (!y3)then (k0 2)else (aDJ N x1.1 (fun y4=>(bif decide (((x1.2.2.1.length:Nat):Int)≠y4)then (k0 10)else (aBY N k0 (fun z6 z7 z8 z9 z10 z11=>(bif decide (z8=0)then (aEg N z11 z9 (fun y12=>(bif (!y12)then (k0 2)else (k0 0))))else (bif decide (z8=1)then (aAz N z11 0 (w64 (((z6.length:Nat):Int)-1)) (fun y13=>(bif (!y13)then (k0 6)else ((at? z6 z11).bind fun x14=>(bif decide (x14≠z9)then (k0 25)else (k0 0))))))else (bif decide (z8=14)then (aAz N z11 0 15 (fun y15=>(bif (!y15)then (k0 2)else (aCJ N z7 z8 z9 z10 z11 (fun y16=>(bif (!y16)then (k0 25)else (k0 0)))))))else (bif decide (z11≠0)then (k0 3)else (aCJ N z7 z8 z9 z10 z11 (fun y17=>(bif (!y17)then (k0 25)else (k0 0))))))))) N a0 a1 a2 0 x1.1 x1.2.1 x1.2.2.1 x1.2.2.2)))))))))))
def bSX:CfS R:=u1 (bQn N) 247 ⟨[pL [hI],pL zs1,pI],[]⟩ ⟨[pI],[]⟩ (aDV N)
theorem bDZ:FOK (bSX N:CfS R) (aAo T):=uCk (aUY N) bLS (Lp:=(bKY N)) (hl:=(aAi (l:=[(506,[0,1,2,7,8],aW0)]) (by kernel_rfl) ⟨(aAf (bDB N N)),trivial⟩))
def aBG (k0:zk1 (Option R))(k1:Option R):zk7 (zt2->Int->Option R)
 | 0,_,_,_=>none
 | n+1,b0,b1,b2=>(bif decide (b2<((b1.length:Nat):Int))then (aDV N b0 b1 b2 (fun y1=>(bif decide (y1≠0)then (k0 b2 y1)else (aBG k0 k1 n b0 b1 (w64 (b2+1))))))else k1)
def P232_l0:SP:=⟨[(0,pL [hI]),(1,pL zs1),(6,pI)],[]⟩
def bZ5:Nat->P232_l0.den->KS R->Option R:=eS P232_l0 fun k=>aBG N (qS k .ret ⟨[(4,pI),(5,pI)],[]⟩) (qS k (.ex 0) ⟨[],[]⟩)
theorem cBA:LpG T P232_l0 (bZ5 N (R:=R)) [0,1,6] aTo:=lpk (bDZ N) 58
def cCn:LpS R:=aCc noL 58 (aAx P232_l0 (bZ5 N N))
def aDG (a0:List Int)(a1:zt2)(k0:zk1 (Option R)):Option R:=(bif decide (400<((a1.length:Nat):Int))then (k0 0 8)else (aBG N k0 (k0 0 0) N a0 a1 0))
def bSb:CfS R:=u1 (bSX N) 172 ⟨[pL [hI],pL zs1],[]⟩ ⟨[pI,pI],[]⟩ (aDG N)
theorem bC7:FOK (bSb N:CfS R) (aAo T):=uCk (bDZ N) bLa (Lp:=(cCn N)) (hl:=(aAi (l:=[(58,[0,1,6],aTo)]) (by kernel_rfl) ⟨(aAf (cBA N N)),trivial⟩))
def aCQ (a0:zt2)(a1:Int)(k0:Bool->Option R):Option R:=(aAz N a1 0 (w64 (((a0.length:Nat):Int)-1)) k0)
def bRk:CfS R:=u1 (bSb N) 248 ⟨[pL zs1,pI],[]⟩ ⟨[pB],[]⟩ (aCQ N)
theorem aUM:FOK (bRk N:CfS R) (aAo T):=uCk (bC7 N) bQh
def aCl (a0:zt2)(a1:Int)(k0:Bool->Option R):Option R:=(aCQ N a0 a1 (fun y1=>(bif y1 then ((at? a0 a1).bind fun x2=>(k0 (decide (x2.2.1=1))))else (k0 false))))
def bRO:CfS R:=u1 (bRk N) 174 ⟨[pL zs1,pI],[]⟩ ⟨[pB],[]⟩ (aCl N)
theorem aPz:FOK (bRO N:CfS R) (aAo T):=uCk (aUM N) bP6
def aBx (k0:Int->Option R)(k1:Option R):Nat->zt1->zt2->zt8->Int->Option R
 | 0,_,_,_,_=>none
 | n+1,b0,b1,b2,b3=>(bif decide (b3<((b2.length:Nat):Int))then ((at? b2 b3).bind fun x1=>(aAz N x1.1 0 (w64 (((b0.length:Nat):Int)-1)) (fun y2=>(bif (!y2)then (k0 6)else ((at? b2 b3).bind fun x3=>(aCl N b1 x3.2.1 (fun y4=>(bif (!y4)then (k0 9)else ((at? b2 b3).bind fun x5=>(aCQ N b1 x5.2.2 (fun y6=>(bif (!y6)then (k0 9)else ((at? b2 b3).bind fun x7=>((at? b1 x7.2.2).bind fun x8=>((at? b2 b3).bind fun x9=>((at? b0 x9.1).bind fun x10=>(bif decide (x8.2.1≠x10.2.2.1)then (k0 25)else (aBx k0 k1 n b0 b1 b2 (w64 (b3+1))))))))))))))))))))else k1)
def P235_l0:SP:=⟨[(0,pL zs2),(1,pL zs1),(2,pL zs5),(7,pI)],[]⟩
def aUt:Nat->P235_l0.den->KS R->Option R:=eS P235_l0 fun k=>aBx N (qS k .ret ⟨[(6,pI)],[]⟩) (qS k (.ex 0) ⟨[],[]⟩)
theorem bDf:LpG T P235_l0 (aUt N (R:=R)) [0,1,2,7] aSs:=lpk (aPz N) 58
def bAS:LpS R:=aCc noL 58 (aAx P235_l0 (aUt N N))
def aDp (a0:zt1)(a1:zt2)(a2:zt8)(k0:Int->Option R):Option R:=(bif decide (16<((a2.length:Nat):Int))then (k0 8)else (aBx N k0 (k0 0) N a0 a1 a2 0))
def bTe:CfS R:=u1 (bRO N) 175 ⟨[pL zs2,pL zs1,pL zs5],[]⟩ ⟨[pI],[]⟩ (aDp N)
theorem aSX:FOK (bTe N:CfS R) (aAo T):=uCk (aPz N) bK9 (Lp:=(bAS N)) (hl:=(aAi (l:=[(58,[0,1,2,7],aSs)]) (by kernel_rfl) ⟨(aAf (bDf N N)),trivial⟩))
def aBg (N:Nat)(k0:zk1 (Option R))(k1:zt2->zt7->Int->Option R):Nat->zt2->zt7->zk1 (Option R)
 | 0,_,_,_,_=>none
 | n+1,b0,b1,b2,b3=>(bif decide (b3<b2)then ((at? b1 b3).bind fun x1=>((at? b1 b2).bind fun x2=>(bif decide (x1.1=x2.1)then (k0 b2 5)else (aBg N k0 k1 n b0 b1 b2 (w64 (b3+1))))))else (k1 b0 b1 b2))
def P236_l1:SP:=⟨[(0,pL zs1),(1,pL [.s,hI]),(6,pI),(7,pI)],[]⟩
def cAg:Nat->P236_l1.den->KS R->Option R:=eS P236_l1 fun k=>aBg N (qS k .ret ⟨[(4,pI),(5,pI)],[]⟩) (qS k (.ex 2) ⟨[(0,pL zs1),(1,pL [.s,hI]),(6,pI)],[]⟩)
theorem cBR:LpG T P236_l1 (cAg N (R:=R)) [0,1,6,7] aUh:=lpk (aSX N) 14922
def bG4:LpS R:=aCc noL 14922 (aAx P236_l1 (cAg N N))
def aBi (k0:zk1 (Option R))(k1:Option R):Nat->zt2->zt7->Int->Option R
 | 0,_,_,_=>none
 | n+1,b0,b1,b2=>(bif decide (b2<((b1.length:Nat):Int))then ((at? b1 b2).bind fun x1=>(aBW N x1.1 (fun y2=>(bif (!y2)then (k0 b2 4)else (aBg N k0 (fun z5 z6 z7=>((at? z6 z7).bind fun x8=>(aCQ N z5 x8.2 (fun y9=>(bif (!y9)then (k0 z7 9)else (aBi k0 k1 n z5 z6 (w64 (z7+1)))))))) N b0 b1 b2 0)))))else k1)
def P236_l0:SP:=⟨[(0,pL zs1),(1,pL [.s,hI]),(6,pI)],[]⟩
def aWD:Nat->P236_l0.den->KS R->Option R:=eS P236_l0 fun k=>aBi N (qS k .ret ⟨[(4,pI),(5,pI)],[]⟩) (qS k (.ex 0) ⟨[],[]⟩)
theorem bCa:LpG T P236_l0 (aWD N (R:=R)) [0,1,6] aVl:=lpk (aSX N) 58 (Lp:=(bG4 N)) (hl:=(aAi (l:=[(14922,[0,1,6,7],aUh)]) (by kernel_rfl) ⟨(aAf (cBR N N)),trivial⟩))
def cCs:LpS R:=aCc (bG4 N) 58 (aAx P236_l0 (aWD N N))
def aCx (a0:zt2)(a1:zt7)(k0:zk1 (Option R)):Option R:=(bif decide (12<((a1.length:Nat):Int))then (k0 0 8)else (aBi N k0 (k0 0 0) N a0 a1 0))
def bQK:CfS R:=u1 (bTe N) 176 ⟨[pL zs1,pL [.s,hI]],[]⟩ ⟨[pI,pI],[]⟩ (aCx N)
theorem aLj:FOK (bQK N:CfS R) (aAo T):=uCk (aSX N) bJU (Lp:=(cCs N)) (hl:=(aAi (l:=[(58,[0,1,6],aVl)]) (by kernel_rfl) ⟨(aAf (bCa N N)),trivial⟩))
def aCP (N:Nat)(k0:Bool->Option R)(k1:Option R):zk7 (zk1 (Option R))
 | 0,_,_,_=>none
 | n+1,b0,b1,b2=>(bif decide (b2<((b0.length:Nat):Int))then ((at? b0 b2).bind fun x1=>(bif decide (x1=b1)then (k0 true)else (aCP N k0 k1 n b0 b1 (w64 (b2+1)))))else k1)
def P237_l0:SP:=⟨[(0,pL [hI]),(1,pI),(5,pI)],[]⟩
def aSg:Nat->P237_l0.den->KS R->Option R:=eS P237_l0 fun k=>aCP N (qS k .ret ⟨[(4,pB)],[]⟩) (qS k (.ex 0) ⟨[],[]⟩)
theorem bDE:LpG T P237_l0 (aSg N (R:=R)) [0,1,5] aZu:=lpk (aLj N) 26
def aZb:LpS R:=aCc noL 26 (aAx P237_l0 (aSg N N))
def aEJ (a0:List Int)(a1:Int)(k0:Bool->Option R):Option R:=(aCP N k0 (k0 false) N a0 a1 0)
def bTy:CfS R:=u1 (bQK N) 88 ⟨[pL [hI],pI],[]⟩ ⟨[pB],[]⟩ (aEJ N)
theorem aTZ:FOK (bTy N:CfS R) (aAo T):=uCk (aLj N) c88 (Lp:=(aZb N)) (hl:=(aAi (l:=[(26,[0,1,5],aZu)]) (by kernel_rfl) ⟨(aAf (bDE N N)),trivial⟩))
def aBw (N:Nat)(k0:zk1 (Option R))(k1:Int->zk0 (zk5 (zt8->Option R))):Nat->zk1 (zk0 (zk5 (zt8->Option R)))
 | 0,_,_,_,_,_,_,_,_,_,_,_,_=>none
 | n+1,b0,b1,b2,b3,b4,b5,b6,b7,b8,b9,b10,b11=>(bif decide (b1<b0)then ((at? b6 b1).bind fun x1=>(bif decide (x1.1=b9)then (k0 b0 5)else (aBw N k0 k1 n b0 (w64 (b1+1)) b2 b3 b4 b5 b6 b7 b8 b9 b10 b11)))else (k1 b0 b2 b3 b4 b5 b6 b7 b8 b9 b10 b11))
def P238_l1:SP:=⟨[(1,.ptr 0 0),(10,pI),(11,.ptr 1 0),(12,pI)],[(0,.box zb2),(1,.box [pS,pI,pL zs5])]⟩
def bZJ:Nat->P238_l1.den->KS R->Option R:=eS P238_l1 fun k=>aBw N (qS k .ret ⟨[(2,pI),(3,pI)],[]⟩) (qS k (.ex 2) ⟨[(1,.ptr 0 0),(10,pI),(11,.ptr 1 0)],[(0,.box zb2),(1,.box [pS,pI,pL zs5])]⟩)
theorem cBV:LpG T P238_l1 (bZJ N (R:=R)) [1,10,11,12] aUC:=lpk (aTZ N) 521370
def bIn:LpS R:=aCc noL 521370 (aAx P238_l1 (bZJ N N))
def aBz (k0:zk1 (Option R))(k1:zk0 (Option R)):Nat->Int->zk0 (Option R)
 | 0,_,_,_,_,_,_,_,_=>none
 | n+1,b0,b1,b2,b3,b4,b5,b6,b7=>(bif decide (b0<((b5.length:Nat):Int))then ((at? b5 b0).bind fun x1=>(aBW N x1.1 (fun y2=>(bif (!y2)then (k0 b0 4)else (aBw N k0 (fun z5 z6 z7 z8 z9 z10 z11 z12 z13 z14 z15=>(aCl N z9 z14 (fun y16=>(bif (!y16)then (k0 z5 9)else (aDp N z8 z9 z15 (fun y17=>(bif decide (y17≠0)then (k0 z5 y17)else (aBz k0 k1 n (w64 (z5+1)) z6 z7 z8 z9 z10 z11 z12)))))))) N b0 0 b1 b2 b3 b4 b5 b6 b7 x1.1 x1.2.1 x1.2.2)))))else (k1 b1 b2 b3 b4 b5 b6 b7))
def P238_l0:SP:=⟨[(1,.ptr 0 0),(10,pI)],[(0,.box zb2)]⟩
def aWJ:Nat->P238_l0.den->KS R->Option R:=eS P238_l0 fun k=>aBz N (qS k .ret ⟨[(2,pI),(3,pI)],[]⟩) (qS k (.ex 0) ⟨[(1,.ptr 0 0)],[(0,.box zb2)]⟩)
theorem bBI:LpG T P238_l0 (aWJ N (R:=R)) [1,10] aR2:=lpk (aTZ N) 1018 (Lp:=(bIn N)) (hl:=(aAi (l:=[(521370,[1,10,11,12],aUC)]) (by kernel_rfl) ⟨(aAf (cBV N N)),trivial⟩))
def cAy:LpS R:=aCc (bIn N) 1018 (aAx P238_l0 (aWJ N N))
def aBB (k0:zk1 (Option R))(k1:Int->zk0 (Option R)):Nat->zk1 (zk0 (aRN (Option R)))
 | 0,_,_,_,_,_,_,_,_,_,_,_=>none
 | n+1,b0,b1,b2,b3,b4,b5,b6,b7,b8,b9,b10=>(bif decide (b1<((b10.length:Nat):Int))then ((at? b10 b1).bind fun x1=>(aAz N x1 0 (w64 (((b6.length:Nat):Int)-1)) (fun y2=>(bif (!y2)then (k0 b0 6)else (bif slP 0 b1 b10.length then ((at? b10 b1).bind fun x3=>(aEJ N (List.take b1.toNat (List.drop 0 b10)) x3 (fun y4=>(bif y4 then (k0 b0 23)else (aBB k0 k1 n b0 (w64 (b1+1)) b2 b3 b4 b5 b6 b7 b8 b9 b10)))))else none)))))else (k1 b0 b2 b3 b4 b5 b6 b7 b8))
def P238_l3:SP:=⟨[(1,.ptr 0 0),(16,pI),(17,.ptr 1 0),(18,pI)],[(0,.box zb2),(1,.box [pI,pL [hI]])]⟩
def bZw:Nat->P238_l3.den->KS R->Option R:=eS P238_l3 fun k=>aBB N (qS k .ret ⟨[(2,pI),(3,pI)],[]⟩) (qS k (.ex 6) ⟨[(1,.ptr 0 0),(16,pI)],[(0,.box zb2)]⟩)
theorem cB4:LpG T P238_l3 (bZw N (R:=R)) [1,16,17,18] aWy:=lpk (aTZ N) 4191390 (Lp:=(cAy N))
def cBg:LpS R:=aCc (cAy N) 4191390 (aAx P238_l3 (bZw N N))
def aAW (k0:zk1 (Option R))(k1:Option R):Nat->Int->zk0 (Option R)
 | 0,_,_,_,_,_,_,_,_=>none
 | n+1,b0,b1,b2,b3,b4,b5,b6,b7=>(bif decide (b0<((b7.length:Nat):Int))then ((at? b7 b0).bind fun x1=>(aAz N x1.1 0 3 (fun y2=>(bif (!y2)then (k0 b0 15)else (bif decide (((x1.2.length:Nat):Int)=0)then (k0 b0 10)else (bif decide (16<((x1.2.length:Nat):Int))then (k0 b0 10)else (aBB N k0 (fun z7 z8 z9 z10 z11 z12 z13 z14=>(aAW k0 k1 n (w64 (z7+1)) z8 z9 z10 z11 z12 z13 z14)) N b0 0 b1 b2 b3 b4 b5 b6 b7 x1.1 x1.2)))))))else k1)
def P238_l2:SP:=⟨[(1,.ptr 0 0),(16,pI)],[(0,.box zb2)]⟩
def bZT:Nat->P238_l2.den->KS R->Option R:=eS P238_l2 fun k=>aAW N (qS k .ret ⟨[(2,pI),(3,pI)],[]⟩) (qS k (.ex 4) ⟨[],[]⟩)
theorem cBN:LpG T P238_l2 (bZT N (R:=R)) [1,16] aUc:=lpk (aTZ N) 8186 (Lp:=(cBg N)) (hl:=(aAi (l:=[(4191390,[1,16,17,18],aWy)]) (by kernel_rfl) ⟨(aAf (cB4 N N)),trivial⟩))
def cCr:LpS R:=aCc (cBg N) 8186 (aAx P238_l2 (bZT N N))
def aDx (a0:ByteArray)(a1:zt7)(a2:zt1)(a3:zt2)(a4:zt0)(a5:zt7)(a6:zt6)(k0:zk1 (Option R)):Option R:=(aBW N a0 (fun y1=>(bif (!y1)then (k0 0 4)else (aDD N a1 (fun y2 y3=>(bif decide (y3≠0)then (k0 y2 y3)else (aC0 N a1 a2 (fun y4 y5=>(bif decide (y5≠0)then (k0 y4 y5)else (aEo N a0 a1 a2 a3 a4 a5 a6 (fun y6=>(aDG N y6 a3 (fun y7 y8=>(bif decide (y8≠0)then (k0 y7 y8)else (bif decide (16<((a4.length:Nat):Int))then (k0 0 8)else (aBz N k0 (fun z20 z21 z22 z23 z24 z25 z26=>(aCx N z23 z25 (fun y27 y28=>(bif decide (y28≠0)then (k0 y27 y28)else (bif decide (16<((z26.length:Nat):Int))then (k0 0 8)else (aAW N k0 (k0 0 0) N 0 z20 z21 z22 z23 z24 z25 z26)))))) N 0 a0 a1 a2 a3 a4 a5 a6))))))))))))))))
def bRK:CfS R:=u1 (bTy N) 120 ⟨[.agg zb2],[]⟩ ⟨[pI,pI],[]⟩ (aDx N)
theorem aU1:FOK (bRK N:CfS R) (aAo T):=uCk (aTZ N) bDo (Lp:=(cCr N)) (hl:=(aAi (l:=[(1018,[1,10],aR2),(8186,[1,16],aUc)]) (by kernel_rfl) ⟨(aDL (by decide) (aDL (by decide) (aAf (bBI N N)))),(aAf (cBN N N)),trivial⟩))
def aBm (N:Nat)(k0:Int->Bool->Option R)(k1:Int->Option R):Nat->zk1 (Int->zk0 (Option R))
 | 0,_,_,_,_,_,_,_,_,_,_=>none
 | n+1,b0,b1,b2,b3,b4,b5,b6,b7,b8,b9=>((at? b7 b0).bind fun x1=>(bif decide (b2<((x1.2.2.length:Nat):Int))then ((at? b7 b0).bind fun x2=>((at? x2.2.2 b2).bind fun x3=>((at? b5 x3.1).bind fun x4=>(bif decide (b1≠(-1))then (bif decide (x4.2.2.2.2≠b1)then (k0 0 false)else (aBm N k0 k1 n b0 x4.2.2.2.2 (w64 (b2+1)) b3 b4 b5 b6 b7 b8 b9))else (aBm N k0 k1 n b0 x4.2.2.2.2 (w64 (b2+1)) b3 b4 b5 b6 b7 b8 b9)))))else (k1 b1)))
def P239_l0:SP:=⟨[(1,pI),(2,.ptr 0 0),(6,pI),(7,pI)],[(0,.box zb2)]⟩
def aVg:Nat->P239_l0.den->KS R->Option R:=eS P239_l0 fun k=>aBm N (qS k .ret ⟨[(4,pI),(5,pB)],[]⟩) (qS k (.ex 0) ⟨[(6,pI)],[]⟩)
theorem bCp:LpG T P239_l0 (aVg N (R:=R)) [1,2,6,7] aZo:=lpk (aU1 N) 58
def bHy:LpS R:=aCc noL 58 (aAx P239_l0 (aVg N N))
def aDb (a0:ByteArray)(a1:zt7)(a2:zt1)(a3:zt2)(a4:zt0)(a5:zt7)(a6:zt6)(a7:Int)(k0:Int->Bool->Option R):Option R:=(aBm N k0 (fun z7=>(k0 z7 true)) N a7 (-1) 0 a0 a1 a2 a3 a4 a5 a6)
def bSw:CfS R:=u1 (bRK N) 91 ⟨[.agg zb2,pI],[]⟩ ⟨[pI,pB],[]⟩ (aDb N)
theorem aTK:FOK (bSw N:CfS R) (aAo T):=uCk (aU1 N) c91 (Lp:=(bHy N)) (hl:=(aAi (l:=[(58,[1,2,6,7],aZo)]) (by kernel_rfl) ⟨(aAf (bCp N N)),trivial⟩))
def aA4 (k0:Int->Option R)(k1:Option R):Nat->Int->zk0 (Option R)
 | 0,_,_,_,_,_,_,_,_=>none
 | n+1,b0,b1,b2,b3,b4,b5,b6,b7=>(bif decide (b0<((b5.length:Nat):Int))then (aDb N b1 b2 b3 b4 b5 b6 b7 b0 (fun y1 y2=>(bif (!y2)then (k0 30)else (aA4 k0 k1 n (w64 (b0+1)) b1 b2 b3 b4 b5 b6 b7))))else k1)
def P240_l0:SP:=⟨[(1,.ptr 0 0),(5,pI)],[(0,.box zb2)]⟩
def aWW:Nat->P240_l0.den->KS R->Option R:=eS P240_l0 fun k=>aA4 N (qS k .ret ⟨[(2,pI)],[]⟩) (qS k (.ex 0) ⟨[],[]⟩)
theorem bE5:LpG T P240_l0 (aWW N (R:=R)) [1,5] bAd:=lpk (aTK N) 58
def bKq:LpS R:=aCc noL 58 (aAx P240_l0 (aWW N N))
def aDd (a0:ByteArray)(a1:zt7)(a2:zt1)(a3:zt2)(a4:zt0)(a5:zt7)(a6:zt6)(k0:Int->Option R):Option R:=(aDx N a0 a1 a2 a3 a4 a5 a6 (fun y1 y2=>(bif decide (y2≠0)then (k0 y2)else (aA4 N k0 (k0 0) N 0 a0 a1 a2 a3 a4 a5 a6))))
def bRy:CfS R:=u1 (bSw N) 41 ⟨[.agg zb2],[]⟩ ⟨[pI],[]⟩ (aDd N)
theorem aMX:FOK (bRy N:CfS R) (aAo T):=uCk (aTK N) c41 (Lp:=(bKq N)) (hl:=(aAi (l:=[(58,[1,5],bAd)]) (by kernel_rfl) ⟨(aAf (bE5 N N)),trivial⟩))
def bXC (a0:ByteArray)(a1:zt7)(a2:zt1)(a3:zt2)(a4:zt0)(a5:zt7)(a6:zt6)(k0:List Int->Option R):Option R:=(aEo N a0 a1 a2 a3 a4 a5 a6 (fun y1=>(bif slP 0 ((a1.length:Nat):Int) y1.length then (k0 (List.take a1.length (List.drop 0 y1)))else none)))
def bSu:CfS R:=u1 (bRy N) 134 ⟨[.agg zb2],[]⟩ ⟨[pL [hI]],[]⟩ (bXC N)
theorem aPp:FOK (bSu N:CfS R) (aAo T):=uCk (aMX N) cDf
def bXc (k0:Bool->Option R)(k1:Option R):Nat->zk3 (Int->Option R)
 | 0,_,_,_=>none
 | n+1,b0,b1,b2=>(bif decide (b2<((b1.length:Nat):Int))then ((at? b1 b2).bind fun x1=>((at? b0 b2).bind fun x2=>(aEg N x1 x2 (fun y3=>(bif (!y3)then (k0 false)else (bXc k0 k1 n b0 b1 (w64 (b2+1))))))))else k1)
def P242_l0:SP:=⟨[(0,pL [hI]),(1,pL [hI]),(5,pI)],[]⟩
def aWc:Nat->P242_l0.den->KS R->Option R:=eS P242_l0 fun k=>bXc N (qS k .ret ⟨[(4,pB)],[]⟩) (qS k (.ex 0) ⟨[],[]⟩)
theorem bFE:LpG T P242_l0 (aWc N (R:=R)) [0,1,5] bZ7:=lpk (aPp N) 58
def bBe:LpS R:=aCc noL 58 (aAx P242_l0 (aWc N N))
def bXI (a0 a1:List Int)(k0:Bool->Option R):Option R:=(bif decide (((a0.length:Nat):Int)≠((a1.length:Nat):Int))then (k0 false)else (bXc N k0 (k0 true) N a0 a1 0))
def bRz:CfS R:=u1 (bSu N) 183 ⟨[pL [hI],pL [hI]],[]⟩ ⟨[pB],[]⟩ (bXI N)
theorem aPC:FOK (bRz N:CfS R) (aAo T):=uCk (aPp N) cCW (Lp:=(bBe N)) (hl:=(aAi (l:=[(58,[0,1,5],bZ7)]) (by kernel_rfl) ⟨(aAf (bFE N N)),trivial⟩))
def bXr (a0 a1:List Int)(k0:Int->Option R):Option R:=(bif decide (((a1.length:Nat):Int)≠((a0.length:Nat):Int))then (k0 10)else (bXI N a0 a1 (fun y1=>(bif (!y1)then (k0 2)else (k0 0)))))
def bQl:CfS R:=u1 (bRz N) 133 ⟨[pL [hI],pL [hI]],[]⟩ ⟨[pI],[]⟩ (bXr N)
theorem aPo:FOK (bQl N:CfS R) (aAo T):=uCk (aPC N) cDg
def bXx (a0:ByteArray)(a1:zt7)(a2:zt1)(a3:zt2)(a4:zt0)(a5:zt7)(a6:zt6)(a7:Int)(a8:List Int)(k0:Int->Option R):Option R:=(aAz N a7 0 3 (fun y1=>(bif (!y1)then (k0 2)else (bXC N a0 a1 a2 a3 a4 a5 a6 (fun y2=>(bXr N y2 a8 k0))))))
def bRZ:CfS R:=u1 (bQl N) 55 ⟨[.agg zb2,.agg [pI,pL [hI]]],[]⟩ ⟨[pI],[]⟩ (bXx N)
theorem aJR:FOK (bRZ N:CfS R) (aAo T):=uCk (aPo N) c55
def bW8 (k0:Int->Option R)(k1:Option R):Nat->zt6->Int->zk0 (Option R)
 | 0,_,_,_,_,_,_,_,_,_=>none
 | n+1,b0,b1,b2,b3,b4,b5,b6,b7,b8=>(bif decide (b1<((b0.length:Nat):Int))then ((at? b0 b1).bind fun x1=>(bXx N b2 b3 b4 b5 b6 b7 b8 x1.1 x1.2 (fun y2=>(bif decide (y2≠0)then (k0 y2)else (bW8 k0 k1 n b0 (w64 (b1+1)) b2 b3 b4 b5 b6 b7 b8)))))else k1)
def P245_l0:SP:=⟨[(1,pL zs3),(2,.ptr 0 0),(5,pI)],[(0,.box zb2)]⟩
def aVf:Nat->P245_l0.den->KS R->Option R:=eS P245_l0 fun k=>bW8 N (qS k .ret ⟨[(4,pI)],[]⟩) (qS k (.ex 0) ⟨[],[]⟩)
theorem bDQ:LpG T P245_l0 (aVf N (R:=R)) [1,2,5] cAM:=lpk (aJR N) 58
def aZP:LpS R:=aCc noL 58 (aAx P245_l0 (aVf N N))
def bXu (a0:ByteArray)(a1:zt7)(a2:zt1)(a3:zt2)(a4:zt0)(a5:zt7)(a6 a7:zt6)(k0:Int->Option R):Option R:=(bif decide (60<((a7.length:Nat):Int))then (k0 8)else (bW8 N k0 (k0 0) N a7 0 a0 a1 a2 a3 a4 a5 a6))
def bR4:CfS R:=u1 (bRZ N) 66 ⟨[.agg zb2,pL zs3],[]⟩ ⟨[pI],[]⟩ (bXu N)
theorem bCo:FOK (bR4 N:CfS R) (aAo T):=uCk (aJR N) c66 (Lp:=(aZP N)) (hl:=(aAi (l:=[(58,[1,2,5],cAM)]) (by kernel_rfl) ⟨(aAf (bDQ N N)),trivial⟩))
def cDz:Nat->Option (List Sh):=fun n=>if n=6000 then some [hI]else none
def bXi (N:Nat)(k0:List Int->Option R):Nat->Int->zk0 (List Int->Option R)
 | 0,_,_,_,_,_,_,_,_,_=>none
 | n+1,b0,b1,b2,b3,b4,b5,b6,b7,b8=>(bif decide (b0<((b3.length:Nat):Int))then ((at? b3 b0).bind fun x1=>(bif inR b0 b8.length then ((b8[b0.toNat]?).bind fun x2=>(bXi N k0 n (w64 (b0+1)) b1 b2 b3 b4 b5 b6 b7 (List.set b8 b0.toNat x1.2.2.2.1)))else none))else (k0 b8))
def P246_l0:SP:=⟨[(1,.ptr 0 0),(3,.own 1),(4,pI)],[(0,.box zb2),(1,.arr [hI])]⟩
def bZA:Nat->P246_l0.den->KS R->Option R:=eS P246_l0 fun k=>bXi N (qS k (.ex 0) ⟨[(3,.own 0)],[(0,.arr [hI])]⟩)
theorem cBW:LpG T P246_l0 (bZA N (R:=R)) [1,3,4] cAJ:=lpk (bCo N) 58 (H:=cDz)
def cCB:LpS R:=aCc noL 58 (aAx P246_l0 (bZA N N))
def bXF (a0:ByteArray)(a1:zt7)(a2:zt1)(a3:zt2)(a4:zt0)(a5:zt7)(a6:zt6)(k0:List Int->Option R):Option R:=(bif decide (0<=((a2.length:Nat):Int)∧((a2.length:Nat):Int)<=((a2.length:Nat):Int))then (bif aBU a2.length 8 then (bXi N k0 N 0 a0 a1 a2 a3 a4 a5 a6 (List.replicate a2.length 0))else none)else none)
def cDD:CfS R:=u1 (bR4 N) 19 ⟨[.agg zb2],[]⟩ ⟨[pL [hI]],[]⟩ (bXF N)
theorem bZY:FOK (cDD N:CfS R) (aAo T):=uCk (bCo N) c19 (H:=cDz) (Lp:=(cCB N)) (hl:=(aAi (l:=[(58,[1,3,4],cAJ)]) (by kernel_rfl) ⟨(aAf (cBW N N)),trivial⟩))
def bWZ (N:Nat)(k0:List Int->Option R):Nat->zk1 (zk0 (List Int->Option R))
 | 0,_,_,_,_,_,_,_,_,_,_=>none
 | n+1,b0,b1,b2,b3,b4,b5,b6,b7,b8,b9=>(bif decide (b1<((b4.length:Nat):Int))then ((at? b4 b1).bind fun x1=>(bif decide (x1.2.1=1)then ((at? b4 b1).bind fun x2=>(bif decide (x2.2.2.2.2=b0)then ((at? b4 b1).bind fun x3=>(bif inR b1 b9.length then ((b9[b1.toNat]?).bind fun x4=>(bWZ N k0 n b0 (w64 (b1+1)) b2 b3 b4 b5 b6 b7 b8 (List.set b9 b1.toNat x3.2.2.2.1)))else none))else (bWZ N k0 n b0 (w64 (b1+1)) b2 b3 b4 b5 b6 b7 b8 b9)))else (bWZ N k0 n b0 (w64 (b1+1)) b2 b3 b4 b5 b6 b7 b8 b9)))else (k0 b9))
def P247_l0:SP:=⟨[(1,pI),(3,.ptr 0 0),(7,.own 1),(8,pI)],[(0,.box zb2),(1,.arr [hI])]⟩
def bZl:Nat->P247_l0.den->KS R->Option R:=eS P247_l0 fun k=>bWZ N (qS k (.ex 0) ⟨[(7,.own 0)],[(0,.arr [hI])]⟩)
theorem cBx:LpG T P247_l0 (bZl N (R:=R)) [1,3,7,8] cBc:=lpk (bZY N) 58
def cCv:LpS R:=aCc noL 58 (aAx P247_l0 (bZl N N))
def bXv (a0:ByteArray)(a1:zt7)(a2:zt1)(a3:zt2)(a4:zt0)(a5:zt7)(a6:zt6)(a7:Int)(a8:List Int)(k0:List Int->Option R):Option R:=(aCX N a8 (fun y1=>(bWZ N k0 N a7 0 a0 a1 a2 a3 a4 a5 a6 y1)))
def cDq:CfS R:=u1 (cDD N) 90 ⟨[.agg zb2,pI,pL [hI]],[]⟩ ⟨[pL [hI]],[]⟩ (bXv N)
theorem cBv:FOK (cDq N:CfS R) (aAo T):=uCk (bZY N) c90 (Lp:=(cCv N)) (hl:=(aAi (l:=[(58,[1,3,7,8],cBc)]) (by kernel_rfl) ⟨(aAf (cBx N N)),trivial⟩))
def bXk (a0 a1:List Int)(k0:List Int->Option R):Option R:=(aCX N a0 (fun y1=>(bif aBU (y1.length+a1.length) 8 then (k0 (y1++a1))else none)))
def cDE:CfS R:=u1 (cDq N) 95 ⟨[pL [hI],pL [hI]],[]⟩ ⟨[pL [hI]],[]⟩ (bXk N)
theorem cB7:FOK (cDE N:CfS R) (aAo T):=uCk (cBv N) c95
def bXA (N:Nat)(a0:Bool)(k0:Int->Option R):Option R:=(bif a0 then (k0 1)else (k0 0))
def cDA:CfS R:=u1 (cDE N) 32 ⟨[pB],[]⟩ ⟨[pI],[]⟩ (bXA N)
theorem cBQ:FOK (cDA N:CfS R) (aAo T):=uCk (cB7 N) c32
def bXm (a0 a1:Int)(k0:Int->Option R):Option R:=(aEO N (w64 (a1-1)) (fun y1=>(bif decide (y1<=a0)then (aEO N a1 (fun y2=>(k0 (w64 (a0-y2)))))else (k0 a0))))
def cDn:CfS R:=u1 (cDA N) 211 ⟨[pI,pI],[]⟩ ⟨[pI],[]⟩ (bXm N)
theorem cBM:FOK (cDn N:CfS R) (aAo T):=uCk (cBQ N) cC2
def bXz (a0 a1:Int)(a2:List Int)(a3:Int)(a4 a5 a6:List Int)(k0:Int->Option R):Option R:=(aEO N a1 (fun y1=>(bif decide (a0=0)then (k0 a3)else (bif decide (a0=1)then ((at? a6 a3).bind fun x2=>(k0 x2))else (bif decide (a0=2)then ((at? a4 0).bind fun x3=>(k0 (w64 ((w64 (y1-1))-x3))))else (bif decide (a0=3)then ((at? a4 0).bind fun x4=>((at? a4 1).bind fun x5=>(k0 (bLe .i64 x4 x5))))else (bif decide (a0=4)then ((at? a4 0).bind fun x6=>((at? a4 1).bind fun x7=>(k0 (orI .i64 x6 x7))))else (bif decide (a0=5)then ((at? a4 0).bind fun x8=>((at? a4 1).bind fun x9=>(k0 (bQA .i64 x8 x9))))else (bif decide (a0=6)then ((at? a4 0).bind fun x10=>((at? a4 1).bind fun x11=>(bif decide (y1=0)then none else (k0 (Int.tmod (w64 (x10+x11)) y1)))))else (bif decide (a0=7)then ((at? a4 0).bind fun x12=>((at? a4 1).bind fun x13=>(bif decide (y1=0)then none else (k0 (Int.tmod (w64 ((w64 (x12-x13))+y1)) y1)))))else (bif decide (a0=8)then ((at? a4 0).bind fun x14=>((at? a4 1).bind fun x15=>(bif decide (y1=0)then none else (k0 (Int.tmod (w64 (x14*x15)) y1)))))else (bif decide (a0=9)then ((at? a4 0).bind fun x16=>((at? a4 1).bind fun x17=>(bXA N (decide (x16=x17)) k0)))else (bif decide (a0=10)then ((at? a4 0).bind fun x19=>((at? a4 1).bind fun x20=>(bXA N (decide (x19<x20)) k0)))else (bif decide (a0=11)then ((at? a4 0).bind fun x22=>((at? a5 0).bind fun x23=>(bXm N x22 x23 (fun y24=>((at? a4 1).bind fun x25=>((at? a5 1).bind fun x26=>(bXm N x25 x26 (fun y27=>(bXA N (decide (y24<y27)) k0)))))))))else (bif decide (a0=12)then ((at? a4 0).bind fun x29=>(bif decide (x29=1)then ((at? a4 1).bind fun x30=>(k0 x30))else ((at? a4 2).bind fun x31=>(k0 x31))))else (bif decide (a0=13)then ((at? a4 0).bind fun x32=>((at? a5 1).bind fun x33=>(aEO N x33 (fun y34=>((at? a4 1).bind fun x35=>(k0 (w64 ((w64 (x32*y34))+x35))))))))else (bif decide (a0=14)then ((at? a4 0).bind fun x36=>(aEO N a3 (fun y37=>(bif decide (y37=0)then none else (bif decide (y1=0)then none else (k0 (Int.tmod (w64 (Int.tdiv x36 y37)) y1)))))))else (bif decide (a0=15)then ((at? a4 0).bind fun x38=>(k0 x38))else (bif decide (a0=16)then ((at? a4 0).bind fun x39=>((at? a5 0).bind fun x40=>(bXm N x39 x40 (fun y41=>(bif decide (y1=0)then none else (k0 (Int.tmod (w64 (y41+y1)) y1)))))))else (bif decide (a0=17)then ((at? a4 1).bind fun x42=>(bif decide (a1<=x42)then (k0 0)else ((at? a4 0).bind fun x43=>((at? a4 1).bind fun x44=>(aEO N x44 (fun y45=>(bif decide (y1=0)then none else (k0 (Int.tmod (w64 (x43*y45)) y1)))))))))else ((at? a4 1).bind fun x46=>(bif decide (a1<=x46)then (k0 0)else ((at? a4 0).bind fun x47=>((at? a4 1).bind fun x48=>(aEO N x48 (fun y49=>(bif decide (y49=0)then none else (k0 (w64 (Int.tdiv x47 y49))))))))))))))))))))))))))))))
def cDB:CfS R:=u1 (cDn N) 156 ⟨[.agg zb6,pL [hI],pL [hI],pL [hI]],[]⟩ ⟨[pI],[]⟩ (bXz N)
theorem bYS:FOK (cDB N:CfS R) (aAo T):=uCk (cBM N) cC0
def cDa:Nat->Option (List Sh):=fun n=>if n=4000 then some [hI]else if n=34000 then some [hI]else if n=49000 then some [hI]else none
def bW4 (N:Nat)(k0:zt2->zk4 (zk3 (List Int->Option R))):Nat->zt2->List Int->zk1 (zk3 (List Int->Option R))
 | 0,_,_,_,_,_,_,_=>none
 | n+1,b0,b1,b2,b3,b4,b5,b6=>((at? b0 b2).bind fun x1=>(bif decide (b3<((x1.2.2.1.length:Nat):Int))then ((at? b0 b2).bind fun x2=>((at? x2.2.2.1 b3).bind fun x3=>(bif inR x3 b4.length then ((b4[x3.toNat]?).bind fun x4=>(bif aBU (b5.length+1) 8 then ((at? b0 b2).bind fun x5=>((at? x5.2.2.1 b3).bind fun x6=>((at? b0 x6).bind fun x7=>(bif aBU (b6.length+1) 8 then (bW4 N k0 n b0 b1 b2 (w64 (b3+1)) b4 (b5++[x4]) (b6++[x7.2.1]))else none))))else none))else none)))else (k0 b0 b1 b2 b4 b5 b6)))
def P252_l1:SP:=⟨[(0,pL zs1),(1,pL [hI]),(5,.own 0),(6,pI),(7,.own 1),(8,.own 2),(9,pI)],[(0,.arr [hI]),(1,.arr [hI]),(2,.arr [hI])]⟩
def bZt:Nat->P252_l1.den->KS R->Option R:=eS P252_l1 fun k=>bW4 N (qS k (.ex 2) ⟨[(0,pL zs1),(1,pL [hI]),(5,.own 0),(6,pI),(7,.own 1),(8,.own 2)],[(0,.arr [hI]),(1,.arr [hI]),(2,.arr [hI])]⟩)
theorem cBB:LpG T P252_l1 (bZt N (R:=R)) [0,1,5,6,7,8,9] cA3:=lpk (bYS N) 14922 (H:=cDa)
def cA1:LpS R:=aCc noL 14922 (aAx P252_l1 (bZt N N))
def bWV (k0:List Int->Option R):Nat->zt2->zk4 (List Int->Option R)
 | 0,_,_,_,_=>none
 | n+1,b0,b1,b2,b3=>(bif decide (b2<((b0.length:Nat):Int))then (bW4 N (fun z8 z9 z10 z11 z12 z13=>((at? z8 z10).bind fun x14=>(bXz N x14.1 x14.2.1 x14.2.2.1 x14.2.2.2 z12 z13 z9 (fun y15=>(bif inR z10 z11.length then ((z11[z10.toNat]?).bind fun x16=>(bWV k0 n z8 z9 (w64 (z10+1)) (List.set z11 z10.toNat y15)))else none))))) N b0 b1 b2 0 b3 [] [])else (k0 b3))
def P252_l0:SP:=⟨[(0,pL zs1),(1,pL [hI]),(5,.own 0),(6,pI)],[(0,.arr [hI])]⟩
def cAf:Nat->P252_l0.den->KS R->Option R:=eS P252_l0 fun k=>bWV N (qS k (.ex 0) ⟨[(5,.own 0)],[(0,.arr [hI])]⟩)
theorem cBs:LpG T P252_l0 (cAf N (R:=R)) [0,1,5,6] cAT:=lpk (bYS N) 58 (H:=cDa) (Lp:=(cA1 N)) (hl:=(aAi (l:=[(14922,[0,1,5,6,7,8,9],cA3)]) (by kernel_rfl) ⟨(aAf (cBB N N)),trivial⟩))
def cCG:LpS R:=aCc (cA1 N) 58 (aAx P252_l0 (cAf N N))
def bXj (a0:zt2)(a1:List Int)(k0:List Int->Option R):Option R:=(bif decide (0<=((a0.length:Nat):Int)∧((a0.length:Nat):Int)<=((a0.length:Nat):Int))then (bif aBU a0.length 8 then (bWV N k0 N a0 a1 0 (List.replicate a0.length 0))else none)else none)
def cDm:CfS R:=u1 (cDB N) 94 ⟨[pL zs1,pL [hI]],[]⟩ ⟨[pL [hI]],[]⟩ (bXj N)
theorem cBO:FOK (cDm N:CfS R) (aAo T):=uCk (bYS N) c94 (H:=cDa) (Lp:=(cCG N)) (hl:=(aAi (l:=[(58,[0,1,5,6],cAT)]) (by kernel_rfl) ⟨(aAf (cBs N N)),trivial⟩))
def bXD (a0:ByteArray)(a1:zt7)(a2:zt1)(a3:zt2)(a4:zt0)(a5:zt7)(a6:zt6)(a7:Int)(a8 a9:List Int)(k0:Bool->Option R):Option R:=(bXk N a8 a9 (fun y1=>(bXj N a3 y1 (fun y2=>((at? a4 a7).bind fun x3=>((at? y2 x3.2.1).bind fun x4=>(k0 (decide (x4=1)))))))))
def cDr:CfS R:=u1 (cDm N) 92 ⟨[.agg zb2,pI,pL [hI],pL [hI]],[]⟩ ⟨[pB],[]⟩ (bXD N)
theorem bZR:FOK (cDr N:CfS R) (aAo T):=uCk (cBO N) c92
def bW3 (N:Nat)(k0:List Int->Option R):zk7 (zt8->aRN (Option R))
 | 0,_,_,_,_=>none
 | n+1,b0,b1,b2,b3=>(bif decide (b2<((b1.length:Nat):Int))then ((at? b1 b2).bind fun x1=>((at? b0 x1.2.1).bind fun x2=>(bif decide (x2=1)then ((at? b1 b2).bind fun x3=>((at? b1 b2).bind fun x4=>((at? b0 x4.2.2).bind fun x5=>(bif inR x3.1 b3.length then ((b3[x3.1.toNat]?).bind fun x6=>(bW3 N k0 n b0 b1 (w64 (b2+1)) (List.set b3 x3.1.toNat x5)))else none))))else (bW3 N k0 n b0 b1 (w64 (b2+1)) b3))))else (k0 b3))
def P254_l0:SP:=⟨[(9,pL [hI]),(10,.own 0),(11,pL zs5),(12,pI)],[(0,.arr [hI])]⟩
def bZ8:Nat->P254_l0.den->KS R->Option R:=eS P254_l0 fun k=>bW3 N (qS k (.ex 0) ⟨[(10,.own 0)],[(0,.arr [hI])]⟩)
theorem cB3:LpG T P254_l0 (bZ8 N (R:=R)) [9,10,11,12] cA8:=lpk (bZR N) 250
def cCz:LpS R:=aCc noL 250 (aAx P254_l0 (bZ8 N N))
def bXy (a0:ByteArray)(a1:zt7)(a2:zt1)(a3:zt2)(a4:zt0)(a5:zt7)(a6:zt6)(a7:Int)(a8 a9:List Int)(k0:List Int->Option R):Option R:=(bXk N a8 a9 (fun y1=>(bXj N a3 y1 (fun y2=>(aCX N a9 (fun y3=>((at? a4 a7).bind fun x4=>(bW3 N k0 N y2 x4.2.2 0 y3))))))))
def cDF:CfS R:=u1 (cDr N) 93 ⟨[.agg zb2,pI,pL [hI],pL [hI]],[]⟩ ⟨[pL [hI]],[]⟩ (bXy N)
theorem bZx:FOK (cDF N:CfS R) (aAo T):=uCk (bZR N) c93 (Lp:=(cCz N)) (hl:=(aAi (l:=[(250,[9,10,11,12],cA8)]) (by kernel_rfl) ⟨(aAf (cB3 N N)),trivial⟩))
def cDy:Nat->Option (List Sh):=fun n=>if n=46000 then some [hI]else none
def bW6 (k0:List Int->zk0 (Int->zk3 (Option R))):Nat->zk4 (zk0 (Int->zk3 (Option R)))
 | 0,_,_,_,_,_,_,_,_,_,_,_,_=>none
 | n+1,b0,b1,b2,b3,b4,b5,b6,b7,b8,b9,b10,b11=>(bif decide (b1<((b6.length:Nat):Int))then (aDb N b2 b3 b4 b5 b6 b7 b8 b1 (fun y1 y2=>(bif decide (y1=b9)then (bXD N b2 b3 b4 b5 b6 b7 b8 b1 b10 b0 (fun y3=>(bif y3 then (bXy N b2 b3 b4 b5 b6 b7 b8 b1 b10 b0 (fun y4=>(bif aBU (b11.length+1) 8 then (bW6 k0 n y4 (w64 (b1+1)) b2 b3 b4 b5 b6 b7 b8 b9 b10 (b11++[b1]))else none)))else (bW6 k0 n b0 (w64 (b1+1)) b2 b3 b4 b5 b6 b7 b8 b9 b10 b11))))else (bW6 k0 n b0 (w64 (b1+1)) b2 b3 b4 b5 b6 b7 b8 b9 b10 b11))))else (k0 b0 b2 b3 b4 b5 b6 b7 b8 b9 b10 b11))
def P255_l0:SP:=⟨[(3,.ptr 0 0),(4,.ptr 1 0),(8,pL [hI]),(9,.own 2),(10,pI)],[(0,.box zb2),(1,.box [pI,pL [hI]]),(2,.arr [hI])]⟩
def bZG:Nat->P255_l0.den->KS R->Option R:=eS P255_l0 fun k=>bW6 N (qS k (.ex 0) ⟨[(3,.ptr 0 0),(4,.ptr 1 0),(8,pL [hI]),(9,.own 2)],[(0,.box zb2),(1,.box [pI,pL [hI]]),(2,.arr [hI])]⟩)
theorem cCb:LpG T P255_l0 (bZG N (R:=R)) [3,4,8,9,10] cBb:=lpk (bZx N) 122 (H:=cDy)
def cCw:LpS R:=aCc noL 122 (aAx P255_l0 (bZG N N))
def bXB (a0:ByteArray)(a1:zt7)(a2:zt1)(a3:zt2)(a4:zt0)(a5:zt7)(a6:zt6)(a7:Int)(a8 a9:List Int)(k0:zk3 (Option R)):Option R:=(bXv N a0 a1 a2 a3 a4 a5 a6 a7 a9 (fun y1=>(bW6 N (fun z5 z6 z7 z8 z9 z10 z11 z12 z13 z14 z15=>(bXv N z6 z7 z8 z9 z10 z11 z12 z13 z5 (fun y16=>(k0 y16 z15)))) N y1 0 a0 a1 a2 a3 a4 a5 a6 a7 a8 [])))
def cDh:CfS R:=u1 (cDF N) 22 ⟨[.agg zb2,.agg [pI,pL [hI]],pL [hI]],[]⟩ ⟨[pL [hI],pL [hI]],[]⟩ (bXB N)
theorem bZK:FOK (cDh N:CfS R) (aAo T):=uCk (bZx N) c22 (H:=cDy) (Lp:=(cCw N)) (hl:=(aAi (l:=[(122,[3,4,8,9,10],cBb)]) (by kernel_rfl) ⟨(aAf (cCb N N)),trivial⟩))
def cDl:Nat->Option (List Sh):=fun n=>if n=5000 then some [.sl [hI]]else if n=29000 then some [.sl [hI]]else none
def bXl (k0:List (List Int)->Option R):Nat->zt6->Int->zk0 (List (List Int)->Option R)
 | 0,_,_,_,_,_,_,_,_,_,_=>none
 | n+1,b0,b1,b2,b3,b4,b5,b6,b7,b8,b9=>(bif decide (b1<((b0.length:Nat):Int))then ((at? b0 b1).bind fun x1=>(bif inR b1 b9.length then ((b9[b1.toNat]?).bind fun x2=>(bXB N b2 b3 b4 b5 b6 b7 b8 x1.1 x1.2 x2 (fun y3 y4=>(bif aBU (b9.length+1) 24 then (bXl k0 n b0 (w64 (b1+1)) b2 b3 b4 b5 b6 b7 b8 (b9++[y3]))else none))))else none))else (k0 b9))
def P256_l0:SP:=⟨[(1,pL zs3),(2,.ptr 0 0),(5,.own 1),(6,pI)],[(0,.box zb2),(1,.arr zs6)]⟩
def cAh:Nat->P256_l0.den->KS R->Option R:=eS P256_l0 fun k=>bXl N (qS k (.ex 0) ⟨[(5,.own 0)],[(0,.arr zs6)]⟩)
theorem cB2:LpG T P256_l0 (cAh N (R:=R)) [1,2,5,6] cAH:=lpk (bZK N) 58 (H:=cDl)
def cCF:LpS R:=aCc noL 58 (aAx P256_l0 (cAh N N))
def bXE (a0:ByteArray)(a1:zt7)(a2:zt1)(a3:zt2)(a4:zt0)(a5:zt7)(a6 a7:zt6)(k0:List (List Int)->Option R):Option R:=(bXF N a0 a1 a2 a3 a4 a5 a6 (fun y1=>(bXl N k0 N a7 0 a0 a1 a2 a3 a4 a5 a6 [y1])))
def cDx:CfS R:=u1 (cDh N) 67 ⟨[.agg zb2,pL zs3],[]⟩ ⟨[pL zs6],[]⟩ (bXE N)
theorem bZ2:FOK (cDx N:CfS R) (aAo T):=uCk (bZK N) c67 (H:=cDl) (Lp:=(cCF N)) (hl:=(aAi (l:=[(58,[1,2,5,6],cAH)]) (by kernel_rfl) ⟨(aAf (cB2 N N)),trivial⟩))
def bW2 (N:Nat)(k0:List Int->Option R):Nat->zt1->zk1 (List Int->Option R)
 | 0,_,_,_,_=>none
 | n+1,b0,b1,b2,b3=>(bif decide (b2<b1)then ((at? b0 b2).bind fun x1=>(bif decide (x1.2.1=1)then (bif inR b2 b3.length then ((b3[b2.toNat]?).bind fun x2=>(bW2 N k0 n b0 b1 (w64 (b2+1)) (List.set b3 b2.toNat x1.2.2.2.1)))else none)else (bW2 N k0 n b0 b1 (w64 (b2+1)) b3)))else (k0 b3))
def P257_l0:SP:=⟨[(5,.own 0),(12,pL zs2),(13,pI),(14,pI)],[(0,.arr [hI])]⟩
def bZu:Nat->P257_l0.den->KS R->Option R:=eS P257_l0 fun k=>bW2 N (qS k (.ex 0) ⟨[(5,.own 0)],[(0,.arr [hI])]⟩)
theorem cBP:LpG T P257_l0 (bZu N (R:=R)) [5,12,13,14] cAa:=lpk (bZ2 N) 58
def cCO:LpS R:=aCc noL 58 (aAx P257_l0 (bZu N N))
def bXw (a0:ByteArray)(a1:zt7)(a2:zt1)(a3:zt2)(a4:zt0)(a5:zt7)(a6:zt6)(a7:List Int)(k0:List Int->Option R):Option R:=(bif aBU a7.length 8 then (bW2 N k0 N a2 ((a2.length:Nat):Int) 0 a7)else none)
def cDk:CfS R:=u1 (cDx N) 177 ⟨[.agg zb2,pL [hI]],[]⟩ ⟨[pL [hI]],[]⟩ (bXw N)
theorem cBq:FOK (cDk N:CfS R) (aAo T):=uCk (bZ2 N) cCV (Lp:=(cCO N)) (hl:=(aAi (l:=[(58,[5,12,13,14],cAa)]) (by kernel_rfl) ⟨(aAf (cBP N N)),trivial⟩))
def bXJ (a0:ByteArray)(a1:zt7)(a2:zt1)(a3:zt2)(a4:zt0)(a5:zt7)(a6:zt6)(a7:List Int)(k0:zk4 (Option R)):Option R:=(aIF N a0 a1 a2 a3 a4 a5 a6 (fun y1 y2 y3 y4 y5 y6 y7 y8=>(bif decide (y8=0)then (aFL N y1 y2 y3 y4 y5 y6 y7 a7 (fun y9=>(bif decide (y9≠0)then (k0 [] y9)else (bXw N y1 y2 y3 y4 y5 y6 y7 a7 (fun y10=>(k0 y10 0))))))else (bif decide (y8≠0)then (k0 [] y8)else (bXw N y1 y2 y3 y4 y5 y6 y7 a7 (fun y11=>(k0 y11 0)))))))
def cDp:CfS R:=u1 (cDk N) 124 ⟨[.agg zb2,pL [hI]],[]⟩ ⟨[pL [hI],pI],[]⟩ (bXJ N)
theorem cBL:FOK (cDp N:CfS R) (aAo T):=uCk (cBq N) cC5 (rp:=[⟨[pL [hI],pI],[]⟩])
def cDJ:Nat->Option (List Sh):=fun n=>if n=31000 then some [hI]else none
def bXP (a0:ByteArray)(a1:zt7)(a2:zt1)(a3:zt2)(a4:zt0)(a5:zt7)(a6:zt6)(a7:Int)(a8 a9:List Int)(k0:zk3 (Int->Option R)):Option R:=(aDo N a0 a1 a2 a3 a4 a5 a6 (fun y1=>(bif decide (y1≠0)then (k0 [] [] y1)else (bXJ N a0 a1 a2 a3 a4 a5 a6 a9 (fun y2 y3=>(aGd N a7 a8))))) (fun y4 y5 y6 y7 y8 y9 y10 y11 y12=>(bif decide (y12≠0)then (k0 [] [] y12)else (bXJ N a0 a1 a2 a3 a4 a5 a6 a9 (fun y13 y14=>(aFp N y4 y5 y6 y7 y8 y9 y10 y11 a7 a8 (fun y15=>(aHk N [y15,y14] (fun y16=>(bif decide (y16≠0)then (k0 [] [] y16)else (aFF N y4 y5 y6 y7 y8 y9 y10 y11 a7 a8 a9 (fun y17 y18=>(k0 y17 y18 0)))))))))))))
def cDj:CfS R:=u1 (cDp N) 53 ⟨[.agg zb2,.agg [pI,pL [hI]],pL [hI]],[]⟩ ⟨[pL [hI],pL [hI],pI],[]⟩ (bXP N)
theorem cAi:FOK (cDj N:CfS R) (aAo T):=uCk (cBL N) c53 (H:=cDJ) (rp:=[⟨[pL [hI],pL [hI],pI],[]⟩])
def cDi:Nat->Option (List Sh):=fun n=>if n=3000 then some [hI]else none
def bXh (N:Nat)(k0:List Int->Option R):Nat->zk1 (List Int->Option R)
 | 0,_,_,_=>none
 | n+1,b0,b1,b2=>(bif decide (0<=b1)then (bif inR b1 b2.length then ((b2[b1.toNat]?).bind fun x1=>(bXh N k0 n (w64 (Int.tdiv b0 2)) (w64 (b1-1)) (List.set b2 b1.toNat (Int.tmod b0 2))))else none)else (k0 b2))
def P260_l0:SP:=⟨[(0,pI),(5,.own 0),(6,pI)],[(0,.arr [hI])]⟩
def bZZ:Nat->P260_l0.den->KS R->Option R:=eS P260_l0 fun k=>bXh N (qS k (.ex 0) ⟨[(5,.own 0)],[(0,.arr [hI])]⟩)
theorem cBY:LpG T P260_l0 (bZZ N (R:=R)) [0,5,6] bZs:=lpk (cAi N) 58 (H:=cDi)
def cCo:LpS R:=aCc noL 58 (aAx P260_l0 (bZZ N N))
def bXt (a0 a1:Int)(k0:List Int->Option R):Option R:=(bif decide (0<=a1∧a1<=a1)then (bif aBU a1.toNat 8 then (bXh N k0 N a0 (w64 (a1-1)) (List.replicate a1.toNat 0))else none)else none)
def cDv:CfS R:=u1 (cDj N) 143 ⟨[pI,pI],[]⟩ ⟨[pL [hI]],[]⟩ (bXt N)
theorem bYM:FOK (cDv N:CfS R) (aAo T):=uCk (cAi N) cCX (H:=cDi) (Lp:=(cCo N)) (hl:=(aAi (l:=[(58,[0,5,6],bZs)]) (by kernel_rfl) ⟨(aAf (cBY N N)),trivial⟩))
def bXe (k0:Int->List (List Int)->zk1 (Int->zk0 (Option R))):Nat->Int->List (List Int)->zk1 (Int->zk3 (zk1 (zk0 (Option R))))
 | 0,_,_,_,_,_,_,_,_,_,_,_,_,_,_,_,_=>none
 | n+1,b0,b1,b2,b3,b4,b5,b6,b7,b8,b9,b10,b11,b12,b13,b14,b15=>(bif decide (b8<b4)then ((at? b5 b8).bind fun x1=>((at? b6 b8).bind fun x2=>(bXA N (decide (x1≠x2)) (fun y3=>(bXe k0 n b0 b1 b2 b3 b4 b5 b6 (w64 (b7+y3)) (w64 (b8+1)) b9 b10 b11 b12 b13 b14 b15)))))else (k0 b0 b1 b2 b3 b7 b9 b10 b11 b12 b13 b14 b15))
def P261_l1:SP:=⟨[(1,pI),(3,.ptr 0 0),(7,pL zs6),(8,pI),(9,pI),(10,pI),(11,pL [hI]),(12,pL [hI]),(13,pI),(14,pI)],[(0,.box zb2)]⟩
def bZv:Nat->P261_l1.den->KS R->Option R:=eS P261_l1 fun k=>bXe N (qS k (.ex 2) ⟨[(1,pI),(3,.ptr 0 0),(7,pL zs6),(8,pI),(9,pI),(13,pI)],[(0,.box zb2)]⟩)
theorem cBm:LpG T P261_l1 (bZv N (R:=R)) [1,3,7,8,9,10,11,12,13,14] cAL:=lpk (bYM N) 125242
def cBh:LpS R:=aCc noL 125242 (aAx P261_l1 (bZv N N))
def bXf (k0:Int->Option R):Nat->Int->List (List Int)->zk1 (zk0 (Option R))
 | 0,_,_,_,_,_,_,_,_,_,_,_=>none
 | n+1,b0,b1,b2,b3,b4,b5,b6,b7,b8,b9,b10=>(bif decide (b3<((b1.length:Nat):Int))then ((at? b6 b0).bind fun x1=>((at? b1 (w64 (b3-1))).bind fun x2=>((at? x2 b0).bind fun x3=>(bXt N x3 x1.2.2.1 (fun y4=>((at? b1 b3).bind fun x5=>((at? x5 b0).bind fun x6=>(bXt N x6 x1.2.2.1 (fun y7=>(bXe N (fun z8 z9 z10 z11 z12 z13 z14 z15 z16 z17 z18 z19=>(bXf k0 n z8 z9 (max z10 z12) (w64 (z11+1)) z13 z14 z15 z16 z17 z18 z19)) N b0 b1 b2 b3 x1.2.2.1 y4 y7 0 0 b4 b5 b6 b7 b8 b9 b10))))))))))else (k0 b2))
def P261_l0:SP:=⟨[(1,pI),(3,.ptr 0 0),(7,pL zs6),(8,pI),(9,pI)],[(0,.box zb2)]⟩
def bZE:Nat->P261_l0.den->KS R->Option R:=eS P261_l0 fun k=>bXf N (qS k (.ex 0) ⟨[(8,pI)],[]⟩)
theorem cBD:LpG T P261_l0 (bZE N (R:=R)) [1,3,7,8,9] cAS:=lpk (bYM N) 122 (Lp:=(cBh N)) (hl:=(aAi (l:=[(125242,[1,3,7,8,9,10,11,12,13,14],cAL)]) (by kernel_rfl) ⟨(aAf (cBm N N)),trivial⟩))
def cCA:LpS R:=aCc (cBh N) 122 (aAx P261_l0 (bZE N N))
def bXG (a0:ByteArray)(a1:zt7)(a2:zt1)(a3:zt2)(a4:zt0)(a5:zt7)(a6:zt6)(a7:Int)(a8:zt6)(k0:Int->Option R):Option R:=(bXE N a0 a1 a2 a3 a4 a5 a6 a8 (fun y1=>(bXf N k0 N a7 y1 0 1 a0 a1 a2 a3 a4 a5 a6)))
def cDw:CfS R:=u1 (cDv N) 69 ⟨[.agg zb2,pI,pL zs3],[]⟩ ⟨[pI],[]⟩ (bXG N)
theorem bXS:FOK (cDw N:CfS R) (aAo T):=uCk (bYM N) c69 (Lp:=(cCA N)) (hl:=(aAi (l:=[(122,[1,3,7,8,9],cAS)]) (by kernel_rfl) ⟨(aAf (cBD N N)),trivial⟩))
def bWX (k0:Bool->Option R)(k1:Option R):Nat->zt6->List (List Int)->Int->zk0 (Option R)
 | 0,_,_,_,_,_,_,_,_,_,_=>none
 | n+1,b0,b1,b2,b3,b4,b5,b6,b7,b8,b9=>(bif decide (b2<((b0.length:Nat):Int))then (aA6 N b3 b4 b5 b6 b7 b8 b9 (fun y1 y2 y3 y4 y5 y6 y7=>((at? b0 b2).bind fun x8=>((at? b0 b2).bind fun x9=>(aCX N x9.2 (fun y10=>((at? b1 b2).bind fun x11=>(aCX N x11 (fun y12=>(bXP N y1 y2 y3 y4 y5 y6 y7 x8.1 y10 y12 (fun y13 y14 y15=>((at? b0 b2).bind fun x16=>((at? b1 b2).bind fun x17=>(bXB N b3 b4 b5 b6 b7 b8 b9 x16.1 x16.2 x17 (fun y18 y19=>(bif decide (y15≠0)then (k0 false)else (aCr N y13 y18 (fun y20=>(bif (!y20)then (k0 false)else (aCr N y14 y19 (fun y21=>(bif (!y21)then (k0 false)else (bWX k0 k1 n b0 b1 (w64 (b2+1)) b3 b4 b5 b6 b7 b8 b9)))))))))))))))))))))))else k1)
def P262_l0:SP:=⟨[(1,pL zs3),(3,.ptr 0 0),(12,pL zs6),(13,pI)],[(0,.box zb2)]⟩
def bZ1:Nat->P262_l0.den->KS R->Option R:=eS P262_l0 fun k=>bWX N (qS k .ret ⟨[(6,pB)],[]⟩) (qS k (.ex 0) ⟨[],[]⟩)
theorem cBo:LpG T P262_l0 (bZ1 N (R:=R)) [1,3,12,13] cAG:=lpk (bXS N) 533721269314
def cBe:LpS R:=aCc noL 533721269314 (aAx P262_l0 (bZ1 N N))
def bXb (k0:Bool->Option R)(b0:zt6)(b1:List (List Int))(b2:ByteArray)(b3:zt7)(b4:zt1)(b5:zt2)(b6:zt0)(b7:zt7)(b8:zt6):Option R:=(bWX N k0 (k0 true) N b0 b1 0 b2 b3 b4 b5 b6 b7 b8)
def P262_j7:SP:=⟨[(1,pL zs3),(3,.ptr 0 0),(12,pL zs6)],[(0,.box zb2)]⟩
def bZV:Nat->P262_j7.den->KS R->Option R:=jS P262_j7 fun k=>bXb N (qS k .ret ⟨[(6,pB)],[]⟩)
theorem cCe:LpG T P262_j7 (bZV N (R:=R)) [1,3,12] cAP:=lpk (bXS N) 16678789666 (Lp:=(cBe N)) (hl:=(aAi (l:=[(533721269314,[1,3,12,13],cAG)]) (by kernel_rfl) ⟨(aAf (cBo N N)),trivial⟩))
def cAX:LpS R:=aCc (cBe N) 16678789666 (aAx P262_j7 (bZV N 1))
def bW9 (k0:Bool->Option R)(b0:zt6)(b1 b2:Int)(b3:List (List Int))(b4:ByteArray)(b5:zt7)(b6:zt1)(b7:zt2)(b8:zt0)(b9:zt7)(b10:zt6)(b11 b12:Int):Option R:=(aAz N b11 0 (w64 (((b6.length:Nat):Int)-1)) (fun y1=>(bif (!y1)then (bif decide (b2≠6)then (k0 false)else (bif decide (b1≠0)then (k0 false)else (bXb N k0 b0 b3 b4 b5 b6 b7 b8 b9 b10)))else (bif decide (b2≠0)then (k0 false)else (bXG N b4 b5 b6 b7 b8 b9 b10 b11 b0 (fun y24=>(bif decide (b1≠y24)then (k0 false)else (bXb N k0 b0 b3 b4 b5 b6 b7 b8 b9 b10))))))))
def P262_j6:SP:=⟨[(1,pL zs3),(3,.ptr 0 0),(5,.ptr 1 0),(9,pI),(10,pI),(12,pL zs6)],[(0,.box zb2),(1,.box [pI,pI])]⟩
def bZS:Nat->P262_j6.den->KS R->Option R:=jS P262_j6 fun k=>bW9 N (qS k .ret ⟨[(6,pB)],[]⟩)
theorem cBK:LpG T P262_j6 (bZS N (R:=R)) [1,3,5,9,10,12] cAD:=lpk (bXS N) 1042424354 (Lp:=(cAX N)) (hl:=(aAi (l:=[(16678789666,[1,3,12],cAP)]) (by kernel_rfl) ⟨(aAf (cCe N 1)),trivial⟩))
def cBf:LpS R:=aCc (cAX N) 1042424354 (aAx P262_j6 (bZS N 1))
def bXp (k0:Bool->Option R)(b0:zt6)(b1:List (List Int))(b2 b3 b4:Int)(b5:List (List Int))(b6:ByteArray)(b7:zt7)(b8:zt1)(b9:zt2)(b10:zt0)(b11:zt7)(b12:zt6)(b13 b14:Int):Option R:=(bif decide (b2≠0)then (k0 false)else (aHt N b1 b5 (fun y1=>(bif (!y1)then (k0 false)else (bW9 N k0 b0 b3 b4 b5 b6 b7 b8 b9 b10 b11 b12 b13 b14)))))
def P262_j5:SP:=⟨[(1,pL zs3),(3,.ptr 0 0),(5,.ptr 1 0),(7,pL zs6),(8,pI),(9,pI),(10,pI),(12,pL zs6)],[(0,.box zb2),(1,.box [pI,pI])]⟩
def bZW:Nat->P262_j5.den->KS R->Option R:=jS P262_j5 fun k=>bXp N (qS k .ret ⟨[(6,pB)],[]⟩)
theorem cBZ:LpG T P262_j5 (bZW N (R:=R)) [1,3,5,7,8,9,10,12] cAw:=lpk (bXS N) 65151522 (Lp:=(cBf N)) (hl:=(aAi (l:=[(1042424354,[1,3,5,9,10,12],cAD)]) (by kernel_rfl) ⟨(aAf (cBK N 1)),trivial⟩))
def cAU:LpS R:=aCc (cBf N) 65151522 (aAx P262_j5 (bZW N 1))
def bXa (k0:Bool->Option R)(b0:zt6)(b1:List (List Int))(b2 b3 b4:Int)(b5:ByteArray)(b6:zt7)(b7:zt1)(b8:zt2)(b9:zt0)(b10:zt7)(b11:zt6)(b12 b13:Int):Option R:=(bXE N b5 b6 b7 b8 b9 b10 b11 b0 (fun y1=>(bXp N k0 b0 b1 b2 b3 b4 y1 b5 b6 b7 b8 b9 b10 b11 b12 b13)))
def P262_j4:SP:=⟨[(1,pL zs3),(3,.ptr 0 0),(5,.ptr 1 0),(7,pL zs6),(8,pI),(9,pI),(10,pI)],[(0,.box zb2),(1,.box [pI,pI])]⟩
def bZX:Nat->P262_j4.den->KS R->Option R:=jS P262_j4 fun k=>bXa N (qS k .ret ⟨[(6,pB)],[]⟩)
theorem cB9:LpG T P262_j4 (bZX N (R:=R)) [1,3,5,7,8,9,10] cA9:=lpk (bXS N) 4071970 (Lp:=(cAU N)) (hl:=(aAi (l:=[(65151522,[1,3,5,7,8,9,10,12],cAw)]) (by kernel_rfl) ⟨(aAf (cBZ N 1)),trivial⟩))
def cAW:LpS R:=aCc (cAU N) 4071970 (aAx P262_j4 (bZX N 1))
def bXo (k0:Bool->Option R)(b0:zt6)(b1:List (List Int))(b2 b3 b4:Int)(b5:ByteArray)(b6:zt7)(b7:zt1)(b8:zt2)(b9:zt0)(b10:zt7)(b11:zt6)(b12 b13:Int):Option R:=(bXu N b5 b6 b7 b8 b9 b10 b11 b0 (fun y1=>(bif decide (y1≠0)then (bif decide (b2=y1)then (bif decide (((b1.length:Nat):Int)=0)then (bif decide (b4=6)then (k0 (decide (b3=0)))else (bif decide (b4=y1)then (k0 (decide (b3=0)))else (k0 false)))else (k0 false))else (k0 false))else (bXa N k0 b0 b1 b2 b3 b4 b5 b6 b7 b8 b9 b10 b11 b12 b13))))
def P262_j3:SP:=⟨[(1,pL zs3),(3,.ptr 0 0),(5,.ptr 1 0),(7,pL zs6),(8,pI),(9,pI),(10,pI)],[(0,.box zb2),(1,.box [pI,pI])]⟩
def bZn:Nat->P262_j3.den->KS R->Option R:=jS P262_j3 fun k=>bXo N (qS k .ret ⟨[(6,pB)],[]⟩)
theorem cBz:LpG T P262_j3 (bZn N (R:=R)) [1,3,5,7,8,9,10] cAB:=lpk (bXS N) 254498 (Lp:=(cAW N)) (hl:=(aAi (l:=[(4071970,[1,3,5,7,8,9,10],cA9)]) (by kernel_rfl) ⟨(aAf (cB9 N 1)),trivial⟩))
def cBj:LpS R:=aCc (cAW N) 254498 (aAx P262_j3 (bZn N 1))
def bWY (k0:Bool->Option R)(b0:zt6)(b1:List (List Int))(b2 b3 b4 b5:Int)(b6:ByteArray)(b7:zt7)(b8:zt1)(b9:zt2)(b10:zt0)(b11:zt7)(b12:zt6)(b13 b14:Int):Option R:=(bif decide (b5≠0)then (bif decide (b2=b5)then (bif decide (b4=b5)then (bif decide (((b1.length:Nat):Int)=0)then (k0 (decide (b3=0)))else (k0 false))else (k0 false))else (k0 false))else (bXo N k0 b0 b1 b2 b3 b4 b6 b7 b8 b9 b10 b11 b12 b13 b14))
def P262_j2:SP:=⟨[(1,pL zs3),(3,.ptr 0 0),(5,.ptr 1 0),(7,pL zs6),(8,pI),(9,pI),(10,pI),(11,pI)],[(0,.box zb2),(1,.box [pI,pI])]⟩
def bZq:Nat->P262_j2.den->KS R->Option R:=jS P262_j2 fun k=>bWY N (qS k .ret ⟨[(6,pB)],[]⟩)
theorem cBS:LpG T P262_j2 (bZq N (R:=R)) [1,3,5,7,8,9,10,11] cAx:=lpk (bXS N) 15906 (Lp:=(cBj N)) (hl:=(aAi (l:=[(254498,[1,3,5,7,8,9,10],cAB)]) (by kernel_rfl) ⟨(aAf (cBz N 1)),trivial⟩))
def cAN:LpS R:=aCc (cBj N) 15906 (aAx P262_j2 (bZq N 1))
def bXq (k0:Bool->Option R)(b0:zt6)(b1:List (List Int))(b2 b3 b4:Int)(b5:ByteArray)(b6:zt7)(b7:zt1)(b8:zt2)(b9:zt0)(b10:zt7)(b11:zt6)(b12 b13:Int):Option R:=(aDd N b5 b6 b7 b8 b9 b10 b11 (fun y1=>(bWY N k0 b0 b1 b2 b3 b4 y1 b5 b6 b7 b8 b9 b10 b11 b12 b13)))
def P262_j1:SP:=⟨[(1,pL zs3),(3,.ptr 0 0),(5,.ptr 1 0),(7,pL zs6),(8,pI),(9,pI),(10,pI)],[(0,.box zb2),(1,.box [pI,pI])]⟩
def bZ3:Nat->P262_j1.den->KS R->Option R:=jS P262_j1 fun k=>bXq N (qS k .ret ⟨[(6,pB)],[]⟩)
theorem cB0:LpG T P262_j1 (bZ3 N (R:=R)) [1,3,5,7,8,9,10] cA5:=lpk (bXS N) 994 (Lp:=(cAN N)) (hl:=(aAi (l:=[(15906,[1,3,5,7,8,9,10,11],cAx)]) (by kernel_rfl) ⟨(aAf (cBS N 1)),trivial⟩))
def cBi:LpS R:=aCc (cAN N) 994 (aAx P262_j1 (bZ3 N 1))
def bWW (k0:Bool->Option R)(b0:zt6)(b1:List (List Int))(b2:Int)(b3:ByteArray)(b4:zt7)(b5:zt1)(b6:zt2)(b7:zt0)(b8:zt7)(b9:zt6)(b10 b11:Int):Option R:=(aA6 N b3 b4 b5 b6 b7 b8 b9 (fun y1 y2 y3 y4 y5 y6 y7=>(bW7 N b0 (fun y8=>(bXK N y1 y2 y3 y4 y5 y6 y7 b10 y8 (fun y9 y10=>(bXq N k0 b0 b1 b2 y9 y10 b3 b4 b5 b6 b7 b8 b9 b10 b11)))))))
def P262_j0:SP:=⟨[(1,pL zs3),(3,.ptr 0 0),(5,.ptr 1 0),(7,pL zs6),(8,pI)],[(0,.box zb2),(1,.box [pI,pI])]⟩
def cAd:Nat->P262_j0.den->KS R->Option R:=jS P262_j0 fun k=>bWW N (qS k .ret ⟨[(6,pB)],[]⟩)
theorem cBn:LpG T P262_j0 (cAd N (R:=R)) [1,3,5,7,8] cAV:=lpk (bXS N) 62 (Lp:=(cBi N)) (hl:=(aAi (l:=[(994,[1,3,5,7,8,9,10],cA5)]) (by kernel_rfl) ⟨(aAf (cB0 N 1)),trivial⟩))
def cCP:LpS R:=aCc (cBi N) 62 (aAx P262_j0 (cAd N 1))
def bXg (a0:ByteArray)(a1:zt7)(a2:zt1)(a3:zt2)(a4:zt0)(a5:zt7)(a6 a7:zt6)(a8 a9:Int)(k0:Bool->Option R):Option R:=(aFB N (fun y1=>(bif (!y1)then (k0 false)else (aDs N a0 a1 a2 a3 a4 a5 a6 (fun y2=>(bif (!y2)then (k0 true)else (bXd N a7 (fun y3=>(bif (!y3)then (k0 true)else (aA6 N a0 a1 a2 a3 a4 a5 a6 (fun y4 y5 y6 y7 y8 y9 y10=>(bW7 N a7 (fun y11=>(aKg N y4 y5 y6 y7 y8 y9 y10 y11 (fun y12 y13=>(bWW N k0 a7 y12 y13 a0 a1 a2 a3 a4 a5 a6 a8 a9))))))))))))))))
def cDC:CfS R:=u1 (cDw N) 10 ⟨[.agg zb2,pL zs3,.agg [pI,pI]],[]⟩ ⟨[pB],[]⟩ (bXg N)
theorem cCd:FOK (cDC N:CfS R) (aAo T):=uCk (bXS N) c10 (Lp:=(cCP N)) (hl:=(aAi (l:=[(62,[1,3,5,7,8],cAV)]) (by kernel_rfl) ⟨(aAf (cBn N 1)),trivial⟩))
end
def bXR:Prop:=∀ (x0:ByteArray×(List (ByteArray×Int))×(List (ByteArray×Int×Int×Int×Int))×(List (Int×Int×(List Int)×Int))×(List (ByteArray×Int×(List (Int×Int×Int))))×(List (ByteArray×Int))×(List (Int×(List Int)))) (x1:List (Int×(List Int))) (x2:Int×Int),okL [.s,.sl [.s,hI],.sl [.s,hI,hI,hI,hI],.sl [hI,hI,.sl [hI],hI],.sl [.s,hI,.sl [hI,hI,hI]],.sl [.s,hI],.sl [hI,.sl [hI]]] x0->okL [.sl [hI,.sl [hI]]] x1->okL [hI,hI] x2->∃ N,∀ {R:Type} (k:Bool->Option R),bXg N x0.1 x0.2.1 x0.2.2.1 x0.2.2.2.1 x0.2.2.2.2.1 x0.2.2.2.2.2.1 x0.2.2.2.2.2.2 x1 x2.1 x2.2 k=k true
end Am
end Go.Proofs.YtkmbhgggpfbffaaGreatDoor
