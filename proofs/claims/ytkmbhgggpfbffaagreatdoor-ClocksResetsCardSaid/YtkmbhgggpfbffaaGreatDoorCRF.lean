/- Each function that is reached as a function on plain data, and that the version comes to it. -/
import Derived.Test.YtkmbhgggpfbffaaGreatDoorCRF0
set_option linter.unusedVariables false
set_option linter.unusedSimpArgs false
set_option linter.constructorNameAsVariable false
set_option maxRecDepth 100000
namespace Go.Proofs.YtkmbhgggpfbffaaGreatDoor
namespace Am
noncomputable section
variable (N:Nat) {R:Type}
def aHe (a0 a1:Int)(a2:List (Int×Int))(k0:zk3 (Int->Option R)):Option R:=(aIt N a0 a1 (fun y1 y2 y3 y4 y5 y6 y7=>(bif decide (y7≠0)then (k0 [] [] y7)else (aHV N a2 a1 (fun y8=>(bif decide (y8≠0)then (k0 [] [] y8)else (bif decide (a0<0)then none else (aEp N y1 y2 y3 y4 y5 y6 [] a2 (aPi .i64 1 a0) (fun y9 y10 y11 y12=>(k0 y9 y10 y11))))))))))
def bSY:CfS R:=u1 (bTx N) 26 ⟨[.agg [pI,pI],pL [hI,hI]],[]⟩ ⟨[pL [hI],pL [hI],pI],[]⟩ (aHe N)
theorem aUy:FOK (bSY N:CfS R) (aAo T):=uCk (bDY N) c26 (rp:=[⟨[pL [hI],pL [hI],pI],[]⟩])
def aCA (N:Nat)(k0:Bool->Option R)(k1:Option R):Nat->zk3 (Int->Option R)
 | 0,_,_,_=>none
 | n+1,b0,b1,b2=>(bif decide (b2<((b0.length:Nat):Int))then ((at? b0 b2).bind fun x1=>((at? b1 b2).bind fun x2=>(bif decide (x1≠x2)then (k0 false)else (aCA N k0 k1 n b0 b1 (w64 (b2+1))))))else k1)
def P212_l0:SP:=⟨[(0,pL [hI]),(1,pL [hI]),(5,pI)],[]⟩
def aVT:Nat->P212_l0.den->KS R->Option R:=eS P212_l0 fun k=>aCA N (qS k .ret ⟨[(4,pB)],[]⟩) (qS k (.ex 0) ⟨[],[]⟩)
theorem bBP:LpG T P212_l0 (aVT N (R:=R)) [0,1,5] aZh:=lpk (aUy N) 58
def bHp:LpS R:=aCc noL 58 (aAx P212_l0 (aVT N N))
def aCr (a0 a1:List Int)(k0:Bool->Option R):Option R:=(bif decide (((a0.length:Nat):Int)≠((a1.length:Nat):Int))then (k0 false)else (aCA N k0 (k0 true) N a0 a1 0))
def bRR:CfS R:=u1 (bSY N) 23 ⟨[pL [hI],pL [hI]],[]⟩ ⟨[pB],[]⟩ (aCr N)
theorem aWv:FOK (bRR N:CfS R) (aAo T):=uCk (aUy N) c23 (Lp:=(bHp N)) (hl:=(aAi (l:=[(58,[0,1,5],aZh)]) (by kernel_rfl) ⟨(aAf (bBP N N)),trivial⟩))
def aE1 (k0:Bool->Option R)(k1:Option R):Nat->List (List Int)->List (List Int)->Int->Option R
 | 0,_,_,_=>none
 | n+1,b0,b1,b2=>(bif decide (b2<((b0.length:Nat):Int))then ((at? b0 b2).bind fun x1=>((at? b1 b2).bind fun x2=>(aCr N x1 x2 (fun y3=>(bif (!y3)then (k0 false)else (aE1 k0 k1 n b0 b1 (w64 (b2+1))))))))else k1)
def P213_l0:SP:=⟨[(0,pL zs6),(1,pL zs6),(5,pI)],[]⟩
def aW4:Nat->P213_l0.den->KS R->Option R:=eS P213_l0 fun k=>aE1 N (qS k .ret ⟨[(4,pB)],[]⟩) (qS k (.ex 0) ⟨[],[]⟩)
theorem bFw:LpG T P213_l0 (aW4 N (R:=R)) [0,1,5] aZn:=lpk (aWv N) 58
def bI6:LpS R:=aCc noL 58 (aAx P213_l0 (aW4 N N))
def aHt (a0 a1:List (List Int))(k0:Bool->Option R):Option R:=(bif decide (((a0.length:Nat):Int)≠((a1.length:Nat):Int))then (k0 false)else (aE1 N k0 (k0 true) N a0 a1 0))
def bQt:CfS R:=u1 (bRR N) 68 ⟨[pL zs6,pL zs6],[]⟩ ⟨[pB],[]⟩ (aHt N)
theorem aJD:FOK (bQt N:CfS R) (aAo T):=uCk (aWv N) c68 (Lp:=(bI6 N)) (hl:=(aAi (l:=[(58,[0,1,5],aZn)]) (by kernel_rfl) ⟨(aAf (bFw N N)),trivial⟩))
def bGt:Nat->Option (List Sh):=fun n=>if n=34000 then some [hI]else if n=43000 then some [hI,.sl [hI]]else if n=57000 then some [hI,hI]else if n=70000 then some [hI]else if n=95000 then some [hI]else if n=96000 then some [hI]else if n=97000 then some [hI]else if n=98000 then some [hI]else if n=99000 then some [.sl [hI]]else if n=108000 then some [hI]else if n=113000 then some [hI]else none
def aGi (k0:Bool->Option R)(b0:List Int)(b1:Int)(b2:zt8)(b3:Int)(b4:List (List Int))(b5:Int)(b6 b7:List Int)(b8:Int):Option R:=(bif decide (b1=0)then (aCr N b0 [0,1] (fun y1=>(bif y1 then (bif decide (b3=0)then (bif decide (((b2.length:Nat):Int)=1)then ((at? b2 0).bind fun x2=>(bif (false != (decide (x2.1=0)&&(decide (x2.2.1=1)&&(decide (x2.2.2=2)&&true))))then (bif decide (b5=0)then (aHt N b4 [[0,0,0],[1,0,0],[1,1,0],[1,1,1]] (fun y3=>(bif y3 then (bif decide (b8=0)then (aCr N b6 [5,6] (fun y4=>(bif y4 then (aCr N b7 [5] k0)else (k0 false))))else (k0 false))else (k0 false))))else (k0 false))else (k0 false)))else (k0 false))else (k0 false))else (k0 false))))else (k0 false))
def P214_j4:SP:=⟨[(3,pL [hI]),(4,pI),(5,pL zs5),(6,pI),(8,pL zs6),(9,pI),(10,pL [hI]),(11,pL [hI]),(12,pI)],[]⟩
def aXk:Nat->P214_j4.den->KS R->Option R:=jS P214_j4 fun k=>aGi N (qS k .ret ⟨[(0,pB)],[]⟩)
theorem bED:LpG T P214_j4 (aXk N (R:=R)) [3,4,5,6,8,9,10,11,12] aZw:=lpk (aJD N) 4071970 (H:=bGt)
def bAY:LpS R:=aCc noL 4071970 (aAx P214_j4 (aXk N 1))
def aGj (k0:Bool->Option R)(b0:List Int)(b1:Int)(b2:zt8)(b3:Int)(b4:List (List Int))(b5:Int):Option R:=(aHe N 1 4 [(0,5),(0,6),(0,7),(1,1),(1,1),(1,1)] (fun y1 y2 y3=>(aGi N k0 b0 b1 b2 b3 b4 b5 y1 y2 y3)))
def P214_j3:SP:=⟨[(3,pL [hI]),(4,pI),(5,pL zs5),(6,pI),(8,pL zs6),(9,pI)],[]⟩
def aXj:Nat->P214_j3.den->KS R->Option R:=jS P214_j3 fun k=>aGj N (qS k .ret ⟨[(0,pB)],[]⟩)
theorem bC1:LpG T P214_j3 (aXj N (R:=R)) [3,4,5,6,8,9] bBs:=lpk (aJD N) 254498 (H:=bGt) (Lp:=(bAY N)) (hl:=(aAi (l:=[(4071970,[3,4,5,6,8,9,10,11,12],aZw)]) (by kernel_rfl) ⟨(aAf (bED N 1)),trivial⟩))
def bAP:LpS R:=aCc (bAY N) 254498 (aAx P214_j3 (aXj N 1))
def aGo (k0:Bool->Option R)(b0:List Int)(b1:Int)(b2:zt8)(b3:Int)(b4:ByteArray)(b5:zt7)(b6:zt1)(b7:zt2)(b8:zt0)(b9:zt7)(b10:List Int):Option R:=(aKg N b4 b5 b6 b7 b8 b9 [] [(0,b10),(1,b10),(1,b10)] (fun y1 y2=>(aGj N k0 b0 b1 b2 b3 y1 y2)))
def P214_j2:SP:=⟨[(1,.ptr 0 0),(3,pL [hI]),(4,pI),(5,pL zs5),(6,pI),(7,.own 1)],[(0,.box zb8),(1,.arr [hI])]⟩
def aTF:Nat->P214_j2.den->KS R->Option R:=jS P214_j2 fun k=>aGo N (qS k .ret ⟨[(0,pB)],[]⟩)
theorem bCO:LpG T P214_j2 (aTF N (R:=R)) [1,3,4,5,6,7] aZW:=lpk (aJD N) 15906 (H:=bGt) (Lp:=(bAP N)) (hl:=(aAi (l:=[(254498,[3,4,5,6,8,9],bBs)]) (by kernel_rfl) ⟨(aAf (bC1 N 1)),trivial⟩))
def bAQ:LpS R:=aCc (bAP N) 15906 (aAx P214_j2 (aTF N 1))
def aGe (k0:Bool->Option R)(b0:List Int)(b1:Int)(b2:zt8)(b3:Int)(b4:ByteArray)(b5:zt7)(b6:zt1)(b7:zt2)(b8:zt0)(b9:zt7):Option R:=(aGo N k0 b0 b1 b2 b3 b4 b5 b6 b7 b8 b9 [1])
def P214_j1:SP:=⟨[(1,.ptr 0 0),(3,pL [hI]),(4,pI),(5,pL zs5),(6,pI)],[(0,.box zb8)]⟩
def aWY:Nat->P214_j1.den->KS R->Option R:=jS P214_j1 fun k=>aGe N (qS k .ret ⟨[(0,pB)],[]⟩)
theorem bEF:LpG T P214_j1 (aWY N (R:=R)) [1,3,4,5,6] aZt:=lpk (aJD N) 994 (H:=bGt) (Lp:=(bAQ N)) (hl:=(aAi (l:=[(15906,[1,3,4,5,6,7],aZW)]) (by kernel_rfl) ⟨(aAf (bCO N 1)),trivial⟩))
def bAf:LpS R:=aCc (bAQ N) 994 (aAx P214_j1 (aWY N 1))
def aGl (k0:Bool->Option R)(b0:List Int)(b1:Int)(b2:ByteArray)(b3:zt7)(b4:zt1)(b5:zt2)(b6:zt0)(b7:zt7):Option R:=(aA6 N b2 b3 b4 b5 b6 b7 [] (fun y1 y2 y3 y4 y5 y6 y7=>(aIB N y1 y2 y3 y4 y5 y6 y7 (fun y8 y9=>(aGe N k0 b0 b1 y8 y9 b2 b3 b4 b5 b6 b7)))))
def P214_j0:SP:=⟨[(1,.ptr 0 0),(3,pL [hI]),(4,pI)],[(0,.box zb8)]⟩
def aXd:Nat->P214_j0.den->KS R->Option R:=jS P214_j0 fun k=>aGl N (qS k .ret ⟨[(0,pB)],[]⟩)
theorem bGj:LpG T P214_j0 (aXd N (R:=R)) [1,3,4] aZ9:=lpk (aJD N) 62 (H:=bGt) (Lp:=(bAf N)) (hl:=(aAi (l:=[(994,[1,3,4,5,6],aZt)]) (by kernel_rfl) ⟨(aAf (bEF N 1)),trivial⟩))
def bIp:LpS R:=aCc (bAf N) 62 (aAx P214_j0 (aXd N 1))
def aFB (k0:Bool->Option R):Option R:=(aIy N 2 (fun y1 y2 y3 y4 y5 y6 y7=>(bif decide (y7≠0)then (k0 false)else (bif decide (((y5.length:Nat):Int)≠2)then (k0 false)else (aA6 N y1 y2 y3 y4 y5 y6 [] (fun y8 y9 y10 y11 y12 y13 y14=>(aDm N y8 y9 y10 y11 y12 y13 y14 (fun y15 y16=>(aGl N k0 y15 y16 y1 y2 y3 y4 y5 y6)))))))))
def bTi:CfS R:=u1 (bQt N) 12 ⟨[],[]⟩ ⟨[pB],[]⟩ (aFB N)
theorem aND:FOK (bTi N:CfS R) (aAo T):=uCk (aJD N) c12 (H:=bGt) (Lp:=(bIp N)) (hl:=(aAi (l:=[(62,[1,3,4],aZ9)]) (by kernel_rfl) ⟨(aAf (bGj N 1)),trivial⟩))
def aCb (N:Nat)(k0:Bool->Option R)(k1:zk0 (Option R)):Nat->Int->zk0 (Option R)
 | 0,_,_,_,_,_,_,_,_=>none
 | n+1,b0,b1,b2,b3,b4,b5,b6,b7=>(bif decide (b0<((b4.length:Nat):Int))then ((at? b4 b0).bind fun x1=>(bif decide (4<((x1.2.2.1.length:Nat):Int))then (k0 false)else (aCb N k0 k1 n (w64 (b0+1)) b1 b2 b3 b4 b5 b6 b7)))else (k1 b1 b2 b3 b4 b5 b6 b7))
def P215_l0:SP:=⟨[(1,.ptr 0 0),(3,pI)],[(0,.box zb2)]⟩
def aSn:Nat->P215_l0.den->KS R->Option R:=eS P215_l0 fun k=>aCb N (qS k .ret ⟨[(2,pB)],[]⟩) (qS k (.ex 0) ⟨[(1,.ptr 0 0)],[(0,.box zb2)]⟩)
theorem bCU:LpG T P215_l0 (aSn N (R:=R)) [1,3] bAX:=lpk (aND N) 58
def aZI:LpS R:=aCc noL 58 (aAx P215_l0 (aSn N N))
def aB8 (N:Nat)(k0:Bool->Option R)(k1:zk0 (Option R)):Nat->Int->zk0 (Option R)
 | 0,_,_,_,_,_,_,_,_=>none
 | n+1,b0,b1,b2,b3,b4,b5,b6,b7=>(bif decide (b0<((b5.length:Nat):Int))then ((at? b5 b0).bind fun x1=>(bif decide (8<((x1.2.2.length:Nat):Int))then (k0 false)else (aB8 N k0 k1 n (w64 (b0+1)) b1 b2 b3 b4 b5 b6 b7)))else (k1 b1 b2 b3 b4 b5 b6 b7))
def P215_l1:SP:=⟨[(1,.ptr 0 0),(4,pI)],[(0,.box zb2)]⟩
def aUf:Nat->P215_l1.den->KS R->Option R:=eS P215_l1 fun k=>aB8 N (qS k .ret ⟨[(2,pB)],[]⟩) (qS k (.ex 2) ⟨[(1,.ptr 0 0)],[(0,.box zb2)]⟩)
theorem bFT:LpG T P215_l1 (aUf N (R:=R)) [1,4] aZ5:=lpk (aND N) 122 (Lp:=(aZI N))
def bBd:LpS R:=aCc (aZI N) 122 (aAx P215_l1 (aUf N N))
def aB6 (N:Nat)(k0:Bool->Option R)(k1:Option R):Nat->Int->zk0 (Option R)
 | 0,_,_,_,_,_,_,_,_=>none
 | n+1,b0,b1,b2,b3,b4,b5,b6,b7=>(bif decide (b0<((b7.length:Nat):Int))then ((at? b7 b0).bind fun x1=>(bif decide (20<((x1.2.length:Nat):Int))then (k0 false)else (aB6 N k0 k1 n (w64 (b0+1)) b1 b2 b3 b4 b5 b6 b7)))else k1)
def P215_l2:SP:=⟨[(1,.ptr 0 0),(5,pI)],[(0,.box zb2)]⟩
def aWs:Nat->P215_l2.den->KS R->Option R:=eS P215_l2 fun k=>aB6 N (qS k .ret ⟨[(2,pB)],[]⟩) (qS k (.ex 4) ⟨[],[]⟩)
theorem bCP:LpG T P215_l2 (aWs N (R:=R)) [1,5] aY9:=lpk (aND N) 250 (Lp:=(bBd N))
def bIB:LpS R:=aCc (bBd N) 250 (aAx P215_l2 (aWs N N))
def aDs (a0:ByteArray)(a1:zt7)(a2:zt1)(a3:zt2)(a4:zt0)(a5:zt7)(a6:zt6)(k0:Bool->Option R):Option R:=(bif decide (60<((a3.length:Nat):Int))then (k0 false)else (bif decide (8<((a4.length:Nat):Int))then (k0 false)else (bif decide (12<((a2.length:Nat):Int))then (k0 false)else (bif decide (6<((a1.length:Nat):Int))then (k0 false)else (bif decide (6<((a5.length:Nat):Int))then (k0 false)else (bif decide (4<((a6.length:Nat):Int))then (k0 false)else (aCb N k0 (fun z3 z4 z5 z6 z7 z8 z9=>(aB8 N k0 (fun z11 z12 z13 z14 z15 z16 z17=>(aB6 N k0 (k0 true) N 0 z11 z12 z13 z14 z15 z16 z17)) N 0 z3 z4 z5 z6 z7 z8 z9)) N 0 a0 a1 a2 a3 a4 a5 a6)))))))
def bQ7:CfS R:=u1 (bTi N) 37 ⟨[.agg zb2],[]⟩ ⟨[pB],[]⟩ (aDs N)
theorem bBH:FOK (bQ7 N:CfS R) (aAo T):=uCk (aND N) c37 (Lp:=(bIB N)) (hl:=(aAi (l:=[(58,[1,3],bAX),(122,[1,4],aZ5),(250,[1,5],aY9)]) (by kernel_rfl) ⟨(aDL (by decide) (aDL (by decide) (aAf (bCU N N)))),(aDL (by decide) (aAf (bFT N N))),(aAf (bCP N N)),trivial⟩))
def bW2 (N:Nat)(k0:List Int->Option R):Nat->zt1->zk1 (List Int->Option R)
 | 0,_,_,_,_=>none
 | n+1,b0,b1,b2,b3=>(bif decide (b2<b1)then ((at? b0 b2).bind fun x1=>(bif decide (x1.2.1=1)then (bif inR b2 b3.length then ((b3[b2.toNat]?).bind fun x2=>(bW2 N k0 n b0 b1 (w64 (b2+1)) (List.set b3 b2.toNat x1.2.2.2.1)))else none)else (bW2 N k0 n b0 b1 (w64 (b2+1)) b3)))else (k0 b3))
def P216_l0:SP:=⟨[(5,.own 0),(12,pL zs2),(13,pI),(14,pI)],[(0,.arr [hI])]⟩
def bZS:Nat->P216_l0.den->KS R->Option R:=eS P216_l0 fun k=>bW2 N (qS k (.ex 0) ⟨[(5,.own 0)],[(0,.arr [hI])]⟩)
theorem cA7:LpG T P216_l0 (bZS N (R:=R)) [5,12,13,14] bZD:=lpk (bBH N) 58
def cBK:LpS R:=aCc noL 58 (aAx P216_l0 (bZS N N))
def bXu (a0:ByteArray)(a1:zt7)(a2:zt1)(a3:zt2)(a4:zt0)(a5:zt7)(a6:zt6)(a7:List Int)(k0:List Int->Option R):Option R:=(bif aBU a7.length 8 then (bW2 N k0 N a2 ((a2.length:Nat):Int) 0 a7)else none)
def bSm:CfS R:=u1 (bQ7 N) 177 ⟨[.agg zb2,pL [hI]],[]⟩ ⟨[pL [hI]],[]⟩ (bXu N)
theorem aUS:FOK (bSm N:CfS R) (aAo T):=uCk (bBH N) cB2 (Lp:=(cBK N)) (hl:=(aAi (l:=[(58,[5,12,13,14],bZD)]) (by kernel_rfl) ⟨(aAf (cA7 N N)),trivial⟩))
def bXt (a0:ByteArray)(a1:zt7)(a2:zt1)(a3:zt2)(a4:zt0)(a5:zt7)(a6:zt6)(a7:List Int)(k0:aRN (Option R)):Option R:=(aIF N a0 a1 a2 a3 a4 a5 a6 (fun y1 y2 y3 y4 y5 y6 y7 y8=>(bif decide (y8=0)then (aFL N y1 y2 y3 y4 y5 y6 y7 a7 (fun y9=>(bif decide (y9≠0)then (k0 [] y9)else (bXu N y1 y2 y3 y4 y5 y6 y7 a7 (fun y10=>(k0 y10 0))))))else (bif decide (y8≠0)then (k0 [] y8)else (bXu N y1 y2 y3 y4 y5 y6 y7 a7 (fun y11=>(k0 y11 0)))))))
def bTn:CfS R:=u1 (bSm N) 124 ⟨[.agg zb2,pL [hI]],[]⟩ ⟨[pL [hI],pI],[]⟩ (bXt N)
theorem aPJ:FOK (bTn N:CfS R) (aAo T):=uCk (aUS N) cCj (rp:=[⟨[pL [hI],pI],[]⟩])
def bMK:Nat->Option (List Sh):=fun n=>if n=31000 then some [hI]else none
def bXN (a0:ByteArray)(a1:zt7)(a2:zt1)(a3:zt2)(a4:zt0)(a5:zt7)(a6:zt6)(a7:Int)(a8 a9:List Int)(k0:zk3 (Int->Option R)):Option R:=(aDo N a0 a1 a2 a3 a4 a5 a6 (fun y1=>(bif decide (y1≠0)then (k0 [] [] y1)else (bXt N a0 a1 a2 a3 a4 a5 a6 a9 (fun y2 y3=>(aGd N a7 a8))))) (fun y4 y5 y6 y7 y8 y9 y10 y11 y12=>(bif decide (y12≠0)then (k0 [] [] y12)else (bXt N a0 a1 a2 a3 a4 a5 a6 a9 (fun y13 y14=>(aFp N y4 y5 y6 y7 y8 y9 y10 y11 a7 a8 (fun y15=>(aHk N [y15,y14] (fun y16=>(bif decide (y16≠0)then (k0 [] [] y16)else (aFF N y4 y5 y6 y7 y8 y9 y10 y11 a7 a8 a9 (fun y17 y18=>(k0 y17 y18 0)))))))))))))
def bTt:CfS R:=u1 (bTn N) 53 ⟨[.agg zb2,.agg [pI,pL [hI]],pL [hI]],[]⟩ ⟨[pL [hI],pL [hI],pI],[]⟩ (bXN N)
theorem bBV:FOK (bTt N:CfS R) (aAo T):=uCk (aPJ N) c53 (H:=bMK) (rp:=[⟨[pL [hI],pL [hI],pI],[]⟩])
def cCL:Nat->Option (List Sh):=fun n=>if n=21000 then some [hI]else none
def bXB (a0 a1 a2 a3:Int)(a4:List Int)(k0:zk1 (zk4 (Option R))):Option R:=(aCm N a1 0 (w64 (a2-1)) (fun y1=>(aA8 N y1 a3 (fun y2=>(bif decide (a0=0)then (aA8 N true 9 (fun y3=>(aHk N [y2,y3] (fun y4=>(k0 y4 a2 a3 a4)))))else ((at? a4 (w64 ((max a0 1)-1))).bind fun x5=>(aA8 N (decide (x5<a1)) 9 (fun y6=>(aHk N [y2,y6] (fun y7=>(k0 y7 a2 a3 a4)))))))))))
def bQJ:CfS R:=u2 (bTt N) 181 ⟨[pI,pI,.ptr 0 0,.ptr 1 0,.ptr 2 0],[(0,.box [pI]),(1,.box [pI]),(2,.box [pL [hI]])]⟩ (bXB N) fun f k=>f (qA k [0,1,2] ⟨[pI],[(0,.box [pI]),(1,.box [pI]),(2,.box [pL [hI]])]⟩)
theorem aP9:FOK (bQJ N:CfS R) (aAo T):=uCk (bBV N) cCd (H:=cCL)
def bWY (k0:zk1 (zk4 (Option R)))(k1:zk1 (List Int->Option R)):zk5 (zk1 (zk1 (List Int->Option R)))
 | 0,_,_,_,_,_,_=>none
 | n+1,b0,b1,b2,b3,b4,b5=>(bif decide (b2<b1)then ((at? b0 b2).bind fun x1=>(bXB N b2 x1 b3 b4 b5 (fun y2 y3 y4 y5=>(bif decide (y2≠0)then (k0 y2 y3 y4 y5)else (bWY k0 k1 n b0 b1 (w64 (b2+1)) y3 y4 y5)))))else (k1 b3 b4 b5))
def P220_l0:SP:=⟨[(1,.fn 181 [.ptr 0 0,.ptr 1 0,.ptr 2 0]),(8,pL [hI]),(9,pI),(10,pI),(100001,.fn 181 [.ptr 0 0,.ptr 1 0,.ptr 2 0])],[(0,.box [pI]),(1,.box [pI]),(2,.box [pL [hI]])]⟩
def aSQ:Nat->P220_l0.den->KS R->Option R:=eS P220_l0 fun k=>bWY N (qS k .ret ⟨[(4,pI),(100001,.fn 181 [.ptr 0 0,.ptr 1 0,.ptr 2 0])],[(0,.box [pI]),(1,.box [pI]),(2,.box [pL [hI]])]⟩) (qS k (.ex 0) ⟨[(100001,.fn 181 [.ptr 0 0,.ptr 1 0,.ptr 2 0])],[(0,.box [pI]),(1,.box [pI]),(2,.box [pL [hI]])]⟩)
theorem bCr:LpG T P220_l0 (aSQ N (R:=R)) [1,8,9,10] aTi:=lpk (aP9 N) 26
def aZK:LpS R:=aCc noL 26 (aAx P220_l0 (aSQ N N))
def bXl (a0:List Int)(a1 a2:Int)(a3:List Int)(k0:zk1 (zk4 (Option R))):Option R:=(bWY N k0 (fun z10 z11 z12=>(k0 0 z10 z11 z12)) N a0 ((a0.length:Nat):Int) 0 a1 a2 a3)
def bQS:CfS R:=u2 (bQJ N) 178 ⟨[pL [hI],.fn 181 [.ptr 0 0,.ptr 1 0,.ptr 2 0]],[(0,.box [pI]),(1,.box [pI]),(2,.box [pL [hI]])]⟩ (bXl N) fun f k=>f (qA k [0,1,2] ⟨[pI],[(0,.box [pI]),(1,.box [pI]),(2,.box [pL [hI]])]⟩)
theorem bDy:FOK (bQS N:CfS R) (aAo T):=uCk (aP9 N) bLj (Lp:=(aZK N)) (hl:=(aAi (l:=[(26,[1,8,9,10],aTi)]) (by kernel_rfl) ⟨(aAf (bCr N N)),trivial⟩))
def bXr (a0:List Int)(a1 a2:Int)(k0:Int->Option R):Option R:=(bXl N a0 a1 a2 a0 (fun y1 y2 y3 y4=>(k0 y1)))
def bS2:CfS R:=u1 (bQS N) 128 ⟨[pL [hI],pI,pI],[]⟩ ⟨[pI],[]⟩ (bXr N)
theorem bFX:FOK (bS2 N:CfS R) (aAo T):=uCk (bDy N) cCn
def bXA (N:Nat)(a0 a1:List Int):Option R:=none
def bTk:CfS R:=u2 (bS2 N) 130 ⟨[.p (.nl 0),.own 0,.fn 131 [.ptr 1 0]],[(0,.arr [hI]),(1,.box [pL [hI]])]⟩ (bXA N) fun f k=>f
theorem aPQ:FOK (bTk N:CfS R) (aAo T):=uCk (bFX N) bLv (hl:=(aAi (l:=[(6,[1,2,12,13,14],aT0)]) (by kernel_rfl) ⟨(fun _ _ _ h=>by cases h),trivial⟩))
def bXK (a0:ByteArray)(a1 a2 a3 a4:Int)(a5:List Int)(k0:Bool->List Int->Option R):Option R:=(aB7 N a5 a4 (fun y1=>(k0 y1 a5)))
def bR7:CfS R:=u2 (bTk N) 131 ⟨[.agg [pS,pI,pI,pI,pI],.ptr 0 0],[(0,.box [pL [hI]])]⟩ (bXK N) fun f k=>f (qA k [0] ⟨[pB],[(0,.box [pL [hI]])]⟩)
theorem bEz:FOK (bR7 N:CfS R) (aAo T):=uCk (aPQ N) cCl
def bWV (k0:zk3 (Option R)):Nat->zt1->zk1 (zk3 (Option R))
 | 0,_,_,_,_,_=>none
 | n+1,b0,b1,b2,b3,b4=>(bif decide (b2<b1)then ((at? b0 b2).bind fun x1=>(bXK N x1.1 x1.2.1 x1.2.2.1 x1.2.2.2.1 x1.2.2.2.2 b4 (fun y2 y3=>(bif y2 then (bif inR b2 b3.length then ((b3[b2.toNat]?).bind fun x4=>(bWV k0 n b0 b1 (w64 (b2+1)) (List.set b3 b2.toNat x1.2.2.2.1) y3))else none)else (bWV k0 n b0 b1 (w64 (b2+1)) b3 y3)))))else (k0 b3 b4))
def P224_l0:SP:=⟨[(1,.own 0),(2,.fn 131 [.ptr 1 0]),(12,pL zs2),(13,pI),(14,pI),(100001,.own 0),(100002,.fn 131 [.ptr 1 0])],[(0,.arr [hI]),(1,.box [pL [hI]])]⟩
def bZj:Nat->P224_l0.den->KS R->Option R:=eS P224_l0 fun k=>bWV N (qS k (.ex 0) ⟨[(100001,.own 0),(100002,.fn 131 [.ptr 1 0])],[(0,.arr [hI]),(1,.box [pL [hI]])]⟩)
theorem cAW:LpG T P224_l0 (bZj N (R:=R)) [1,2,12,13,14] aT0:=lpk (bEz N) 6
def cBt:LpS R:=aCc noL 6 (aAx P224_l0 (bZj N N))
def bW6 (a0:ByteArray)(a1:zt7)(a2:zt1)(a3:zt2)(a4:zt0)(a5:zt7)(a6:zt6)(a7 a8 a9:List Int)(k0:zk3 (Option R)):Option R:=(bWV N k0 N a2 ((a2.length:Nat):Int) 0 a8 a9)
def bSU:CfS R:=u2 (bR7 N) 130 ⟨[.p (.cp [.s .s,.s (.sl [.s,hI]),.s (.sl [.s,hI,hI,hI,hI]),.s (.sl [hI,hI,.sl [hI],hI]),.s (.sl [.s,hI,.sl [hI,hI,hI]]),.s (.sl [.s,hI]),.s (.sl [hI,.sl [hI]]),.s (.sl [hI])]),.own 0,.fn 131 [.ptr 1 0]],[(0,.arr [hI]),(1,.box [pL [hI]])]⟩ (bW6 N) fun f k=>f (qA k [0,1] ⟨[],[(0,.arr [hI]),(1,.box [pL [hI]])]⟩)
theorem bCz:FOK (bSU N:CfS R) (aAo T):=uCk (bEz N) bLv (Lp:=(cBt N)) (hl:=(aAi (l:=[(6,[1,2,12,13,14],aT0)]) (by kernel_rfl) ⟨(aAf (cAW N N)),trivial⟩))
def cCV:Nat->List SP:=fun p=>if p=117 then [⟨[(6,.own 0),(7,pI)],[(0,.arr [hI])]⟩]else if p=1005 then [⟨[(6,.own 0),(7,pI)],[(0,.arr [hI])]⟩]else []
def cCM:Nat->Option (List Sh):=fun n=>if n=28000 then some [hI]else none
def bXD (a0:ByteArray)(a1:zt7)(a2:zt1)(a3:zt2)(a4:zt0)(a5:zt7)(a6:zt6)(a7 a8:List Int)(k0:aRN (Option R)):Option R:=(aDo N a0 a1 a2 a3 a4 a5 a6 (fun y1=>(bif decide (y1≠0)then (k0 [] y1)else (bXt N a0 a1 a2 a3 a4 a5 a6 a8 (fun y2 y3=>(bXr N a7 4 2 (fun y4=>(aHk N [y4,y3] (fun y5=>(bif decide (y5≠0)then (k0 [] y5)else (bif aBU a8.length 8 then (bXA N a8 a7)else none)))))))))) (fun y6 y7 y8 y9 y10 y11 y12 y13 y14=>(bif decide (y14≠0)then (k0 [] y14)else (bXt N a0 a1 a2 a3 a4 a5 a6 a8 (fun y15 y16=>(bXr N a7 4 2 (fun y17=>(aHk N [y17,y16] (fun y18=>(bif decide (y18≠0)then (k0 [] y18)else (bif aBU a8.length 8 then (bW6 N y6 y7 y8 y9 y10 y11 y12 y13 a8 a7 (fun y19 y20=>(k0 y19 0)))else none)))))))))))
def bQZ:CfS R:=u1 (bSU N) 54 ⟨[.agg zb2,pL [hI],pL [hI]],[]⟩ ⟨[pL [hI],pI],[]⟩ (bXD N)
theorem aNk:FOK (bQZ N:CfS R) (aAo T):=uCk (bCz N) c54 (H:=cCM) (X:=cCV)
def aA3 (N:Nat)(k0:Bool->Option R)(k1:zk6 (Option R))(b0:ByteArray)(b1 b2:Int)(b3:Bool):Option R:=(bif (!b3)then (bif decide (b1=0)then (k0 false)else (bif decide (b2≠95)then (bif decide (b2<48)then (k0 false)else (bif decide (57<b2)then (k0 false)else (k1 b0 b1)))else (k1 b0 b1)))else (k1 b0 b1))
def P226_j0:SP:=⟨[(0,pS),(3,pI),(4,.p (.s (.i .u8))),(5,pB)],[]⟩
def bZF:Nat->P226_j0.den->KS R->Option R:=jS P226_j0 fun k=>aA3 N (qS k .ret ⟨[(2,pB)],[]⟩) (qS k (.ex 1001865) ⟨[(0,pS),(3,pI)],[]⟩)
theorem cA8:LpG T P226_j0 (bZF N (R:=R)) [0,3,4,5] aTx:=lpk (aNk N) 7462
def bA8:LpS R:=aCc noL 7462 (aAx P226_j0 (bZF N 1))
def aAC (k0:Bool->Option R)(k1:Option R):Nat->zk6 (Option R)
 | 0,_,_=>none
 | n+1,b0,b1=>(bif decide (b1<((b0.size:Nat):Int))then ((aJd b0 b1).bind fun x1=>(bif decide (97<=x1)then (bif decide (x1<=122)then (aA3 N k0 (fun z3 z4=>(aAC k0 k1 n z3 (w64 (z4+1)))) b0 b1 x1 true)else (bif decide (65<=x1)then (aA3 N k0 (fun z6 z7=>(aAC k0 k1 n z6 (w64 (z7+1)))) b0 b1 x1 (decide (x1<=90)))else (aA3 N k0 (fun z9 z10=>(aAC k0 k1 n z9 (w64 (z10+1)))) b0 b1 x1 false)))else (bif decide (65<=x1)then (aA3 N k0 (fun z12 z13=>(aAC k0 k1 n z12 (w64 (z13+1)))) b0 b1 x1 (decide (x1<=90)))else (aA3 N k0 (fun z15 z16=>(aAC k0 k1 n z15 (w64 (z16+1)))) b0 b1 x1 false))))else k1)
def P226_l0:SP:=⟨[(0,pS),(3,pI)],[]⟩
def aSO:Nat->P226_l0.den->KS R->Option R:=eS P226_l0 fun k=>aAC N (qS k .ret ⟨[(2,pB)],[]⟩) (qS k (.ex 0) ⟨[],[]⟩)
theorem bFA:LpG T P226_l0 (aSO N (R:=R)) [0,3] aSc:=lpk (aNk N) 58 (Lp:=(bA8 N)) (hl:=(aAi (l:=[(7462,[0,3,4,5],aTx)]) (by kernel_rfl) ⟨(aAf (cA8 N 1)),trivial⟩))
def aZB:LpS R:=aCc (bA8 N) 58 (aAx P226_l0 (aSO N N))
def aBW (a0:ByteArray)(k0:Bool->Option R):Option R:=(bif decide (((a0.size:Nat):Int)<1)then (k0 false)else (bif decide (16<((a0.size:Nat):Int))then (k0 false)else (aAC N k0 (k0 true) N a0 0)))
def bSc:CfS R:=u1 (bQZ N) 169 ⟨[pS],[]⟩ ⟨[pB],[]⟩ (aBW N)
theorem aPw:FOK (bSc N:CfS R) (aAo T):=uCk (aNk N) bH7 (Lp:=(aZB N)) (hl:=(aAi (l:=[(58,[0,3],aSc)]) (by kernel_rfl) ⟨(aAf (bFA N N)),trivial⟩))
def aAz (N:Nat)(a0 a1 a2:Int)(k0:Bool->Option R):Option R:=(bif decide (a1<=a0)then (k0 (decide (a0<=a2)))else (k0 false))
def bRa:CfS R:=u1 (bSc N) 14 ⟨[pI,pI,pI],[]⟩ ⟨[pB],[]⟩ (aAz N)
theorem bD9:FOK (bRa N:CfS R) (aAo T):=uCk (aPw N) c14
def aCz (a0:Int)(k0:Bool->Option R):Option R:=(aAz N a0 1 16 k0)
def bQF:CfS R:=u1 (bRa N) 246 ⟨[pI],[]⟩ ⟨[pB],[]⟩ (aCz N)
theorem aUn:FOK (bQF N:CfS R) (aAo T):=uCk (bD9 N) bNF
def aBJ (N:Nat)(k0:zk1 (Option R))(k1:zt7->Int->Option R):Nat->zt7->zk1 (Option R)
 | 0,_,_,_=>none
 | n+1,b0,b1,b2=>(bif decide (b2<b1)then ((at? b0 b2).bind fun x1=>((at? b0 b1).bind fun x2=>(bif decide (x1.1=x2.1)then (k0 b1 5)else (aBJ N k0 k1 n b0 b1 (w64 (b2+1))))))else (k1 b0 b1))
def P229_l1:SP:=⟨[(0,pL [.s,hI]),(4,pI),(5,pI)],[]⟩
def bZq:Nat->P229_l1.den->KS R->Option R:=eS P229_l1 fun k=>aBJ N (qS k .ret ⟨[(2,pI),(3,pI)],[]⟩) (qS k (.ex 2) ⟨[(0,pL [.s,hI]),(4,pI)],[]⟩)
theorem cAy:LpG T P229_l1 (bZq N (R:=R)) [0,4,5] aWZ:=lpk (aUn N) 14922
def bKl:LpS R:=aCc noL 14922 (aAx P229_l1 (bZq N N))
def aBM (k0:zk1 (Option R))(k1:Option R):Nat->zt7->Int->Option R
 | 0,_,_=>none
 | n+1,b0,b1=>(bif decide (b1<((b0.length:Nat):Int))then ((at? b0 b1).bind fun x1=>(aBW N x1.1 (fun y2=>(bif (!y2)then (k0 b1 4)else (aBJ N k0 (fun z5 z6=>((at? z5 z6).bind fun x7=>(aCz N x7.2 (fun y8=>(bif (!y8)then (k0 z6 2)else (aBM k0 k1 n z5 (w64 (z6+1)))))))) N b0 b1 0)))))else k1)
def P229_l0:SP:=⟨[(0,pL [.s,hI]),(4,pI)],[]⟩
def aR6:Nat->P229_l0.den->KS R->Option R:=eS P229_l0 fun k=>aBM N (qS k .ret ⟨[(2,pI),(3,pI)],[]⟩) (qS k (.ex 0) ⟨[],[]⟩)
theorem bBw:LpG T P229_l0 (aR6 N (R:=R)) [0,4] aW5:=lpk (aUn N) 58 (Lp:=(bKl N)) (hl:=(aAi (l:=[(14922,[0,4,5],aWZ)]) (by kernel_rfl) ⟨(aAf (cAy N N)),trivial⟩))
def cBE:LpS R:=aCc (bKl N) 58 (aAx P229_l0 (aR6 N N))
def aDD (a0:zt7)(k0:zk1 (Option R)):Option R:=(bif decide (12<((a0.length:Nat):Int))then (k0 0 8)else (aBM N k0 (k0 0 0) N a0 0))
def bSV:CfS R:=u1 (bQF N) 170 ⟨[pL [.s,hI]],[]⟩ ⟨[pI,pI],[]⟩ (aDD N)
theorem aVd:FOK (bSV N:CfS R) (aAo T):=uCk (aUn N) bHG (Lp:=(cBE N)) (hl:=(aAi (l:=[(58,[0,4],aW5)]) (by kernel_rfl) ⟨(aAf (bBw N N)),trivial⟩))
def aEO (N:Nat)(a0:Int)(k0:Int->Option R):Option R:=(bif decide (a0<0)then none else (k0 (aPi .i64 1 a0)))
def bQn:CfS R:=u1 (bSV N) 33 ⟨[pI],[]⟩ ⟨[pI],[]⟩ (aEO N)
theorem aUY:FOK (bQn N:CfS R) (aAo T):=uCk (aVd N) c33
def aEg (a0 a1:Int)(k0:Bool->Option R):Option R:=(aEO N a1 (fun y1=>(aAz N a0 0 (w64 (y1-1)) k0)))
def bSX:CfS R:=u1 (bQn N) 109 ⟨[pI,pI],[]⟩ ⟨[pB],[]⟩ (aEg N)
theorem bDZ:FOK (bSX N:CfS R) (aAo T):=uCk (aUY N) bNz
def aBc (N:Nat)(k0:zk1 (Option R))(k1:zt7->zt1->Int->Option R):Nat->zt7->zt1->zk1 (Option R)
 | 0,_,_,_,_=>none
 | n+1,b0,b1,b2,b3=>(bif decide (b3<b2)then ((at? b1 b3).bind fun x1=>((at? b1 b2).bind fun x2=>(bif decide (x1.1=x2.1)then (k0 b2 5)else (aBc N k0 k1 n b0 b1 b2 (w64 (b3+1))))))else (k1 b0 b1 b2))
def P232_l1:SP:=⟨[(0,pL [.s,hI]),(1,pL zs2),(6,pI),(7,pI)],[]⟩
def bZc:Nat->P232_l1.den->KS R->Option R:=eS P232_l1 fun k=>aBc N (qS k .ret ⟨[(4,pI),(5,pI)],[]⟩) (qS k (.ex 2) ⟨[(0,pL [.s,hI]),(1,pL zs2),(6,pI)],[]⟩)
theorem cAN:LpG T P232_l1 (bZc N (R:=R)) [0,1,6,7] aTW:=lpk (bDZ N) 14922
def cAm:LpS R:=aCc noL 14922 (aAx P232_l1 (bZc N N))
def aBd (N:Nat)(k0:zk1 (Option R))(k1:zt7->zt1->Int->Option R):Nat->zt7->zt1->zk1 (Option R)
 | 0,_,_,_,_=>none
 | n+1,b0,b1,b2,b3=>(bif decide (b3<((b0.length:Nat):Int))then ((at? b0 b3).bind fun x1=>((at? b1 b2).bind fun x2=>(bif decide (x1.1=x2.1)then (k0 b2 5)else (aBd N k0 k1 n b0 b1 b2 (w64 (b3+1))))))else (k1 b0 b1 b2))
def P232_l2:SP:=⟨[(0,pL [.s,hI]),(1,pL zs2),(6,pI),(8,pI)],[]⟩
def bZR:Nat->P232_l2.den->KS R->Option R:=eS P232_l2 fun k=>aBd N (qS k .ret ⟨[(4,pI),(5,pI)],[]⟩) (qS k (.ex 4) ⟨[(0,pL [.s,hI]),(1,pL zs2),(6,pI)],[]⟩)
theorem cBd:LpG T P232_l2 (bZR N (R:=R)) [0,1,6,8] aVz:=lpk (bDZ N) 29850 (Lp:=(cAm N))
def cAd:LpS R:=aCc (cAm N) 29850 (aAx P232_l2 (bZR N N))
def aBb (k0:zk1 (Option R))(k1:Option R):Nat->zt7->zt1->Int->Option R
 | 0,_,_,_=>none
 | n+1,b0,b1,b2=>(bif decide (b2<((b1.length:Nat):Int))then ((at? b1 b2).bind fun x1=>(aBW N x1.1 (fun y2=>(bif (!y2)then (k0 b2 4)else (aBc N k0 (fun z5 z6 z7=>(aBd N k0 (fun z10 z11 z12=>((at? z11 z12).bind fun x13=>(aAz N x13.2.1 0 1 (fun y14=>(bif (!y14)then (k0 z12 15)else ((at? z11 z12).bind fun x15=>(aCz N x15.2.2.1 (fun y16=>(bif (!y16)then (k0 z12 2)else ((at? z11 z12).bind fun x17=>((at? z11 z12).bind fun x18=>(aEg N x17.2.2.2.1 x18.2.2.1 (fun y19=>(bif (!y19)then (k0 z12 2)else ((at? z11 z12).bind fun x20=>(aAz N x20.2.2.2.2 0 3 (fun y21=>(bif (!y21)then (k0 z12 2)else (aBb k0 k1 n z10 z11 (w64 (z12+1))))))))))))))))))))) N z5 z6 z7 0)) N b0 b1 b2 0)))))else k1)
def P232_l0:SP:=⟨[(0,pL [.s,hI]),(1,pL zs2),(6,pI)],[]⟩
def bY0:Nat->P232_l0.den->KS R->Option R:=eS P232_l0 fun k=>aBb N (qS k .ret ⟨[(4,pI),(5,pI)],[]⟩) (qS k (.ex 0) ⟨[],[]⟩)
theorem cA0:LpG T P232_l0 (bY0 N (R:=R)) [0,1,6] aTC:=lpk (bDZ N) 58 (Lp:=(cAd N)) (hl:=(aAi (l:=[(14922,[0,1,6,7],aTW),(29850,[0,1,6,8],aVz)]) (by kernel_rfl) ⟨(aDL (by decide) (aAf (cAN N N))),(aAf (cBd N N)),trivial⟩))
def cBH:LpS R:=aCc (cAd N) 58 (aAx P232_l0 (bY0 N N))
def aC0 (a0:zt7)(a1:zt1)(k0:zk1 (Option R)):Option R:=(bif decide (40<(w64 (((a0.length:Nat):Int)+((a1.length:Nat):Int))))then (k0 0 8)else (aBb N k0 (k0 0 0) N a0 a1 0))
def bSb:CfS R:=u1 (bSX N) 171 ⟨[pL [.s,hI],pL zs2],[]⟩ ⟨[pI,pI],[]⟩ (aC0 N)
theorem bC7:FOK (bSb N:CfS R) (aAo T):=uCk (bDZ N) bGu (Lp:=(cBH N)) (hl:=(aAi (l:=[(58,[0,1,6],aTC)]) (by kernel_rfl) ⟨(aAf (cA0 N N)),trivial⟩))
def cCh:Nat->Option (List Sh):=fun n=>if n=17000 then some [hI]else if n=36000 then some [hI]else none
def aB5 (N:Nat)(k0:zk0 (List Int->Option R)):Nat->Int->zk0 (List Int->Option R)
 | 0,_,_,_,_,_,_,_,_,_=>none
 | n+1,b0,b1,b2,b3,b4,b5,b6,b7,b8=>(bif decide (b0<((b2.length:Nat):Int))then ((at? b2 b0).bind fun x1=>(bif aBU (b8.length+1) 8 then (aB5 N k0 n (w64 (b0+1)) b1 b2 b3 b4 b5 b6 b7 (b8++[x1.2]))else none))else (k0 b1 b2 b3 b4 b5 b6 b7 b8))
def P233_l0:SP:=⟨[(1,.ptr 0 0),(3,.own 1),(4,pI)],[(0,.box zb2),(1,.arr [hI])]⟩
def bZd:Nat->P233_l0.den->KS R->Option R:=eS P233_l0 fun k=>aB5 N (qS k (.ex 0) ⟨[(1,.ptr 0 0),(3,.own 1)],[(0,.box zb2),(1,.arr [hI])]⟩)
theorem cAL:LpG T P233_l0 (bZd N (R:=R)) [1,3,4] aTS:=lpk (bC7 N) 58 (H:=cCh)
def cAi:LpS R:=aCc noL 58 (aAx P233_l0 (bZd N N))
def aCa (N:Nat)(k0:List Int->Option R):Nat->Int->zk0 (List Int->Option R)
 | 0,_,_,_,_,_,_,_,_,_=>none
 | n+1,b0,b1,b2,b3,b4,b5,b6,b7,b8=>(bif decide (b0<((b3.length:Nat):Int))then ((at? b3 b0).bind fun x1=>(bif aBU (b8.length+1) 8 then (aCa N k0 n (w64 (b0+1)) b1 b2 b3 b4 b5 b6 b7 (b8++[x1.2.2.1]))else none))else (k0 b8))
def P233_l1:SP:=⟨[(1,.ptr 0 0),(3,.own 1),(5,pI)],[(0,.box zb2),(1,.arr [hI])]⟩
def bY7:Nat->P233_l1.den->KS R->Option R:=eS P233_l1 fun k=>aCa N (qS k (.ex 2) ⟨[(3,.own 0)],[(0,.arr [hI])]⟩)
theorem cA5:LpG T P233_l1 (bY7 N (R:=R)) [1,3,5] aSD:=lpk (bC7 N) 122 (H:=cCh) (Lp:=(cAi N))
def cBD:LpS R:=aCc (cAi N) 122 (aAx P233_l1 (bY7 N N))
def aEo (a0:ByteArray)(a1:zt7)(a2:zt1)(a3:zt2)(a4:zt0)(a5:zt7)(a6:zt6)(k0:List Int->Option R):Option R:=(aB5 N (fun z2 z3 z4 z5 z6 z7 z8 z9=>(aCa N k0 N 0 z2 z3 z4 z5 z6 z7 z8 z9)) N 0 a0 a1 a2 a3 a4 a5 a6 [])
def bRk:CfS R:=u1 (bSb N) 173 ⟨[.agg zb2],[]⟩ ⟨[pL [hI]],[]⟩ (aEo N)
theorem aUM:FOK (bRk N:CfS R) (aAo T):=uCk (bC7 N) bGR (H:=cCh) (Lp:=(cBD N)) (hl:=(aAi (l:=[(58,[1,3,4],aTS),(122,[1,3,5],aSD)]) (by kernel_rfl) ⟨(aDL (by decide) (aAf (cAL N N))),(aAf (cA5 N N)),trivial⟩))
def aDJ (N:Nat)(a0:Int)(k0:Int->Option R):Option R:=(bif decide (a0=0)then (k0 0)else (bif decide (a0=1)then (k0 0)else (bif decide (a0=2)then (k0 1)else (bif decide (a0=14)then (k0 1)else (bif decide (a0=15)then (k0 1)else (bif decide (a0=16)then (k0 1)else (bif decide (a0=12)then (k0 3)else (k0 2))))))))
def bRO:CfS R:=u1 (bRk N) 278 ⟨[pI],[]⟩ ⟨[pI],[]⟩ (aDJ N)
theorem aPz:FOK (bRO N:CfS R) (aAo T):=uCk (aUM N) bNW
def cCw:Nat->Option (List Sh):=fun n=>if n=20000 then some [hI]else none
def aBA (N:Nat)(k0:zk1 (List Int->zk4 (Option R))):Nat->zt2->zk1 (zk4 (zk4 (Option R)))
 | 0,_,_,_,_,_,_,_=>none
 | n+1,b0,b1,b2,b3,b4,b5,b6=>(bif decide (b1<((b4.length:Nat):Int))then ((at? b4 b1).bind fun x1=>((at? b0 x1).bind fun x2=>(bif aBU (b6.length+1) 8 then (aBA N k0 n b0 (w64 (b1+1)) b2 b3 b4 b5 (b6++[x2.2.1]))else none)))else (k0 b2 b3 b4 b5 b6))
def P235_l0:SP:=⟨[(0,pL zs1),(3,.ptr 0 0),(5,.own 1),(6,pI)],[(0,.box zb6),(1,.arr [hI])]⟩
def aUt:Nat->P235_l0.den->KS R->Option R:=eS P235_l0 fun k=>aBA N (qS k (.ex 0) ⟨[(3,.ptr 0 0),(5,.own 1)],[(0,.box zb6),(1,.arr [hI])]⟩)
theorem bDf:LpG T P235_l0 (aUt N (R:=R)) [0,3,5,6] aW1:=lpk (aPz N) 58 (H:=cCw)
def bAS:LpS R:=aCc noL 58 (aAx P235_l0 (aUt N N))
def aCJ (a0:zt2)(a1 a2:Int)(a3:List Int)(a4:Int)(k0:Bool->Option R):Option R:=(aBA N (fun z3 z4 z5 z6 z7=>(bif decide (z3=2)then (bif inR 0 z7.length then ((z7[0]?).bind fun x8=>(k0 (decide (x8=z4))))else none)else (bif decide (z3=3)then (bif inR 0 z7.length then ((z7[0]?).bind fun x9=>(bif decide (x9=z4)then (bif inR 1 z7.length then ((z7[1]?).bind fun x10=>(k0 (decide (x10=z4))))else none)else (k0 false)))else none)else (bif decide (z3=4)then (bif inR 0 z7.length then ((z7[0]?).bind fun x11=>(bif decide (x11=z4)then (bif inR 1 z7.length then ((z7[1]?).bind fun x12=>(k0 (decide (x12=z4))))else none)else (k0 false)))else none)else (bif decide (z3=5)then (bif inR 0 z7.length then ((z7[0]?).bind fun x13=>(bif decide (x13=z4)then (bif inR 1 z7.length then ((z7[1]?).bind fun x14=>(k0 (decide (x14=z4))))else none)else (k0 false)))else none)else (bif decide (z3=6)then (bif inR 0 z7.length then ((z7[0]?).bind fun x15=>(bif decide (x15=z4)then (bif inR 1 z7.length then ((z7[1]?).bind fun x16=>(k0 (decide (x16=z4))))else none)else (k0 false)))else none)else (bif decide (z3=7)then (bif inR 0 z7.length then ((z7[0]?).bind fun x17=>(bif decide (x17=z4)then (bif inR 1 z7.length then ((z7[1]?).bind fun x18=>(k0 (decide (x18=z4))))else none)else (k0 false)))else none)else (bif decide (z3=8)then (bif inR 0 z7.length then ((z7[0]?).bind fun x19=>(bif decide (x19=z4)then (bif inR 1 z7.length then ((z7[1]?).bind fun x20=>(k0 (decide (x20=z4))))else none)else (k0 false)))else none)else (bif decide (z3=9)then (bif inR 0 z7.length then ((z7[0]?).bind fun x21=>(bif inR 1 z7.length then ((z7[1]?).bind fun x22=>(bif decide (x21=x22)then (k0 (decide (z4=1)))else (k0 false)))else none))else none)else (bif decide (z3=10)then (bif inR 0 z7.length then ((z7[0]?).bind fun x23=>(bif inR 1 z7.length then ((z7[1]?).bind fun x24=>(bif decide (x23=x24)then (k0 (decide (z4=1)))else (k0 false)))else none))else none)else (bif decide (z3=11)then (bif inR 0 z7.length then ((z7[0]?).bind fun x25=>(bif inR 1 z7.length then ((z7[1]?).bind fun x26=>(bif decide (x25=x26)then (k0 (decide (z4=1)))else (k0 false)))else none))else none)else (bif decide (z3=12)then (bif inR 0 z7.length then ((z7[0]?).bind fun x27=>(bif decide (x27=1)then (bif inR 1 z7.length then ((z7[1]?).bind fun x28=>(bif decide (x28=z4)then (bif inR 2 z7.length then ((z7[2]?).bind fun x29=>(k0 (decide (x29=z4))))else none)else (k0 false)))else none)else (k0 false)))else none)else (bif decide (z3=13)then (bif inR 0 z7.length then ((z7[0]?).bind fun x30=>(bif inR 1 z7.length then ((z7[1]?).bind fun x31=>(k0 (decide ((w64 (x30+x31))=z4))))else none))else none)else (bif decide (z3=14)then (bif inR 0 z7.length then ((z7[0]?).bind fun x32=>(k0 (decide ((w64 (z6+z4))<=x32))))else none)else (bif decide (z3=15)then (bif inR 0 z7.length then ((z7[0]?).bind fun x33=>(k0 (decide (x33<=z4))))else none)else (bif decide (z3=16)then (bif inR 0 z7.length then ((z7[0]?).bind fun x34=>(k0 (decide (x34<=z4))))else none)else (bif inR 0 z7.length then ((z7[0]?).bind fun x35=>(k0 (decide (x35=z4))))else none))))))))))))))))) N a0 0 a1 a2 a3 a4 [])
def bTe:CfS R:=u1 (bRO N) 279 ⟨[pL zs1,.agg zb6],[]⟩ ⟨[pB],[]⟩ (aCJ N)
theorem aSX:FOK (bTe N:CfS R) (aAo T):=uCk (aPz N) bL1 (H:=cCw) (Lp:=(bAS N)) (hl:=(aAi (l:=[(58,[0,3,5,6],aW1)]) (by kernel_rfl) ⟨(aAf (bDf N N)),trivial⟩))
def aBY (k0:Int->Option R)(k1:List Int->zt2->zk1 (aRN (Option R))):zk5 (zt2->zk1 (zk1 (aRN (Option R))))
 | 0,_,_,_,_,_,_,_,_=>none
 | n+1,b0,b1,b2,b3,b4,b5,b6,b7=>(bif decide (b3<((b6.length:Nat):Int))then ((at? b6 b3).bind fun x1=>(aAz N x1 0 (w64 (b2-1)) (fun y2=>(bif (!y2)then (k0 9)else (aBY k0 k1 n b0 b1 b2 (w64 (b3+1)) b4 b5 b6 b7)))))else (k1 b0 b1 b4 b5 b6 b7))
def P236_l0:SP:=⟨[(0,pL [hI]),(1,pL zs1),(2,pI),(7,.ptr 0 0),(8,pI)],[(0,.box zb6)]⟩
def aWD:Nat->P236_l0.den->KS R->Option R:=eS P236_l0 fun k=>aBY N (qS k .ret ⟨[(6,pI)],[]⟩) (qS k (.ex 0) ⟨[(0,pL [hI]),(1,pL zs1),(7,.ptr 0 0)],[(0,.box zb6)]⟩)
theorem bCa:LpG T P236_l0 (aWD N (R:=R)) [0,1,2,7,8] aW0:=lpk (aSX N) 506
def bG4:LpS R:=aCc noL 506 (aAx P236_l0 (aWD N N))
def aDV (a0:List Int)(a1:zt2)(a2:Int)(k0:Int->Option R):Option R:=((at? a1 a2).bind fun x1=>(aAz N x1.1 0 18 (fun y2=>(bif (!y2)then (k0 15)else (aCz N x1.2.1 (fun y3=>(bif (!y3)then (k0 2)else (aDJ N x1.1 (fun y4=>(bif decide (((x1.2.2.1.length:Nat):Int)≠y4)then (k0 10)else (aBY N k0 (fun z6 z7 z8 z9 z10 z11=>(bif decide (z8=0)then (aEg N z11 z9 (fun y12=>(bif (!y12)then (k0 2)else (k0 0))))else (bif decide (z8=1)then (aAz N z11 0 (w64 (((z6.length:Nat):Int)-1)) (fun y13=>(bif (!y13)then (k0 6)else ((at? z6 z11).bind fun x14=>(bif decide (x14≠z9)then (k0 25)else (k0 0))))))else (bif decide (z8=14)then (aAz N z11 0 15 (fun y15=>(bif (!y15)then (k0 2)else (aCJ N z7 z8 z9 z10 z11 (fun y16=>(bif (!y16)then (k0 25)else (k0 0)))))))else (bif decide (z11≠0)then (k0 3)else (aCJ N z7 z8 z9 z10 z11 (fun y17=>(bif (!y17)then (k0 25)else (k0 0))))))))) N a0 a1 a2 0 x1.1 x1.2.1 x1.2.2.1 x1.2.2.2)))))))))))
def bQK:CfS R:=u1 (bTe N) 247 ⟨[pL [hI],pL zs1,pI],[]⟩ ⟨[pI],[]⟩ (aDV N)
theorem aLj:FOK (bQK N:CfS R) (aAo T):=uCk (aSX N) bLS (Lp:=(bG4 N)) (hl:=(aAi (l:=[(506,[0,1,2,7,8],aW0)]) (by kernel_rfl) ⟨(aAf (bCa N N)),trivial⟩))
def aBG (k0:zk1 (Option R))(k1:Option R):zk5 (zt2->Int->Option R)
 | 0,_,_,_=>none
 | n+1,b0,b1,b2=>(bif decide (b2<((b1.length:Nat):Int))then (aDV N b0 b1 b2 (fun y1=>(bif decide (y1≠0)then (k0 b2 y1)else (aBG k0 k1 n b0 b1 (w64 (b2+1))))))else k1)
def P237_l0:SP:=⟨[(0,pL [hI]),(1,pL zs1),(6,pI)],[]⟩
def aSg:Nat->P237_l0.den->KS R->Option R:=eS P237_l0 fun k=>aBG N (qS k .ret ⟨[(4,pI),(5,pI)],[]⟩) (qS k (.ex 0) ⟨[],[]⟩)
theorem bDE:LpG T P237_l0 (aSg N (R:=R)) [0,1,6] aTo:=lpk (aLj N) 58
def aZb:LpS R:=aCc noL 58 (aAx P237_l0 (aSg N N))
def aDG (a0:List Int)(a1:zt2)(k0:zk1 (Option R)):Option R:=(bif decide (400<((a1.length:Nat):Int))then (k0 0 8)else (aBG N k0 (k0 0 0) N a0 a1 0))
def bTy:CfS R:=u1 (bQK N) 172 ⟨[pL [hI],pL zs1],[]⟩ ⟨[pI,pI],[]⟩ (aDG N)
theorem aTZ:FOK (bTy N:CfS R) (aAo T):=uCk (aLj N) bLa (Lp:=(aZb N)) (hl:=(aAi (l:=[(58,[0,1,6],aTo)]) (by kernel_rfl) ⟨(aAf (bDE N N)),trivial⟩))
def aCQ (a0:zt2)(a1:Int)(k0:Bool->Option R):Option R:=(aAz N a1 0 (w64 (((a0.length:Nat):Int)-1)) k0)
def bRK:CfS R:=u1 (bTy N) 248 ⟨[pL zs1,pI],[]⟩ ⟨[pB],[]⟩ (aCQ N)
theorem aU1:FOK (bRK N:CfS R) (aAo T):=uCk (aTZ N) bQh
def aCl (a0:zt2)(a1:Int)(k0:Bool->Option R):Option R:=(aCQ N a0 a1 (fun y1=>(bif y1 then ((at? a0 a1).bind fun x2=>(k0 (decide (x2.2.1=1))))else (k0 false))))
def bSw:CfS R:=u1 (bRK N) 174 ⟨[pL zs1,pI],[]⟩ ⟨[pB],[]⟩ (aCl N)
theorem aTK:FOK (bSw N:CfS R) (aAo T):=uCk (aU1 N) bP6
def aBx (k0:Int->Option R)(k1:Option R):Nat->zt1->zt2->zt8->Int->Option R
 | 0,_,_,_,_=>none
 | n+1,b0,b1,b2,b3=>(bif decide (b3<((b2.length:Nat):Int))then ((at? b2 b3).bind fun x1=>(aAz N x1.1 0 (w64 (((b0.length:Nat):Int)-1)) (fun y2=>(bif (!y2)then (k0 6)else ((at? b2 b3).bind fun x3=>(aCl N b1 x3.2.1 (fun y4=>(bif (!y4)then (k0 9)else ((at? b2 b3).bind fun x5=>(aCQ N b1 x5.2.2 (fun y6=>(bif (!y6)then (k0 9)else ((at? b2 b3).bind fun x7=>((at? b1 x7.2.2).bind fun x8=>((at? b2 b3).bind fun x9=>((at? b0 x9.1).bind fun x10=>(bif decide (x8.2.1≠x10.2.2.1)then (k0 25)else (aBx k0 k1 n b0 b1 b2 (w64 (b3+1))))))))))))))))))))else k1)
def P240_l0:SP:=⟨[(0,pL zs2),(1,pL zs1),(2,pL zs5),(7,pI)],[]⟩
def aWW:Nat->P240_l0.den->KS R->Option R:=eS P240_l0 fun k=>aBx N (qS k .ret ⟨[(6,pI)],[]⟩) (qS k (.ex 0) ⟨[],[]⟩)
theorem bE5:LpG T P240_l0 (aWW N (R:=R)) [0,1,2,7] aSs:=lpk (aTK N) 58
def bKq:LpS R:=aCc noL 58 (aAx P240_l0 (aWW N N))
def aDp (a0:zt1)(a1:zt2)(a2:zt8)(k0:Int->Option R):Option R:=(bif decide (16<((a2.length:Nat):Int))then (k0 8)else (aBx N k0 (k0 0) N a0 a1 a2 0))
def bRy:CfS R:=u1 (bSw N) 175 ⟨[pL zs2,pL zs1,pL zs5],[]⟩ ⟨[pI],[]⟩ (aDp N)
theorem aMX:FOK (bRy N:CfS R) (aAo T):=uCk (aTK N) bK9 (Lp:=(bKq N)) (hl:=(aAi (l:=[(58,[0,1,2,7],aSs)]) (by kernel_rfl) ⟨(aAf (bE5 N N)),trivial⟩))
def aBg (N:Nat)(k0:zk1 (Option R))(k1:zt2->zt7->Int->Option R):Nat->zt2->zt7->zk1 (Option R)
 | 0,_,_,_,_=>none
 | n+1,b0,b1,b2,b3=>(bif decide (b3<b2)then ((at? b1 b3).bind fun x1=>((at? b1 b2).bind fun x2=>(bif decide (x1.1=x2.1)then (k0 b2 5)else (aBg N k0 k1 n b0 b1 b2 (w64 (b3+1))))))else (k1 b0 b1 b2))
def P241_l1:SP:=⟨[(0,pL zs1),(1,pL [.s,hI]),(6,pI),(7,pI)],[]⟩
def aTY:Nat->P241_l1.den->KS R->Option R:=eS P241_l1 fun k=>aBg N (qS k .ret ⟨[(4,pI),(5,pI)],[]⟩) (qS k (.ex 2) ⟨[(0,pL zs1),(1,pL [.s,hI]),(6,pI)],[]⟩)
theorem bCh:LpG T P241_l1 (aTY N (R:=R)) [0,1,6,7] aUh:=lpk (aMX N) 14922
def aZU:LpS R:=aCc noL 14922 (aAx P241_l1 (aTY N N))
def aBi (k0:zk1 (Option R))(k1:Option R):Nat->zt2->zt7->Int->Option R
 | 0,_,_,_=>none
 | n+1,b0,b1,b2=>(bif decide (b2<((b1.length:Nat):Int))then ((at? b1 b2).bind fun x1=>(aBW N x1.1 (fun y2=>(bif (!y2)then (k0 b2 4)else (aBg N k0 (fun z5 z6 z7=>((at? z6 z7).bind fun x8=>(aCQ N z5 x8.2 (fun y9=>(bif (!y9)then (k0 z7 9)else (aBi k0 k1 n z5 z6 (w64 (z7+1)))))))) N b0 b1 b2 0)))))else k1)
def P241_l0:SP:=⟨[(0,pL zs1),(1,pL [.s,hI]),(6,pI)],[]⟩
def aSY:Nat->P241_l0.den->KS R->Option R:=eS P241_l0 fun k=>aBi N (qS k .ret ⟨[(4,pI),(5,pI)],[]⟩) (qS k (.ex 0) ⟨[],[]⟩)
theorem bBy:LpG T P241_l0 (aSY N (R:=R)) [0,1,6] aVl:=lpk (aMX N) 58 (Lp:=(aZU N)) (hl:=(aAi (l:=[(14922,[0,1,6,7],aUh)]) (by kernel_rfl) ⟨(aAf (bCh N N)),trivial⟩))
def aZl:LpS R:=aCc (aZU N) 58 (aAx P241_l0 (aSY N N))
def aCx (a0:zt2)(a1:zt7)(k0:zk1 (Option R)):Option R:=(bif decide (12<((a1.length:Nat):Int))then (k0 0 8)else (aBi N k0 (k0 0 0) N a0 a1 0))
def bSu:CfS R:=u1 (bRy N) 176 ⟨[pL zs1,pL [.s,hI]],[]⟩ ⟨[pI,pI],[]⟩ (aCx N)
theorem aPp:FOK (bSu N:CfS R) (aAo T):=uCk (aMX N) bJU (Lp:=(aZl N)) (hl:=(aAi (l:=[(58,[0,1,6],aVl)]) (by kernel_rfl) ⟨(aAf (bBy N N)),trivial⟩))
def aCP (N:Nat)(k0:Bool->Option R)(k1:Option R):zk5 (zk1 (Option R))
 | 0,_,_,_=>none
 | n+1,b0,b1,b2=>(bif decide (b2<((b0.length:Nat):Int))then ((at? b0 b2).bind fun x1=>(bif decide (x1=b1)then (k0 true)else (aCP N k0 k1 n b0 b1 (w64 (b2+1)))))else k1)
def P242_l0:SP:=⟨[(0,pL [hI]),(1,pI),(5,pI)],[]⟩
def aWc:Nat->P242_l0.den->KS R->Option R:=eS P242_l0 fun k=>aCP N (qS k .ret ⟨[(4,pB)],[]⟩) (qS k (.ex 0) ⟨[],[]⟩)
theorem bFE:LpG T P242_l0 (aWc N (R:=R)) [0,1,5] aZu:=lpk (aPp N) 26
def bBe:LpS R:=aCc noL 26 (aAx P242_l0 (aWc N N))
def aEJ (a0:List Int)(a1:Int)(k0:Bool->Option R):Option R:=(aCP N k0 (k0 false) N a0 a1 0)
def bRz:CfS R:=u1 (bSu N) 88 ⟨[pL [hI],pI],[]⟩ ⟨[pB],[]⟩ (aEJ N)
theorem aPC:FOK (bRz N:CfS R) (aAo T):=uCk (aPp N) c88 (Lp:=(bBe N)) (hl:=(aAi (l:=[(26,[0,1,5],aZu)]) (by kernel_rfl) ⟨(aAf (bFE N N)),trivial⟩))
def aBw (N:Nat)(k0:zk1 (Option R))(k1:Int->zk0 (zk6 (zt8->Option R))):Nat->zk1 (zk0 (zk6 (zt8->Option R)))
 | 0,_,_,_,_,_,_,_,_,_,_,_,_=>none
 | n+1,b0,b1,b2,b3,b4,b5,b6,b7,b8,b9,b10,b11=>(bif decide (b1<b0)then ((at? b6 b1).bind fun x1=>(bif decide (x1.1=b9)then (k0 b0 5)else (aBw N k0 k1 n b0 (w64 (b1+1)) b2 b3 b4 b5 b6 b7 b8 b9 b10 b11)))else (k1 b0 b2 b3 b4 b5 b6 b7 b8 b9 b10 b11))
def P243_l1:SP:=⟨[(1,.ptr 0 0),(10,pI),(11,.ptr 1 0),(12,pI)],[(0,.box zb2),(1,.box [pS,pI,pL zs5])]⟩
def aVs:Nat->P243_l1.den->KS R->Option R:=eS P243_l1 fun k=>aBw N (qS k .ret ⟨[(2,pI),(3,pI)],[]⟩) (qS k (.ex 2) ⟨[(1,.ptr 0 0),(10,pI),(11,.ptr 1 0)],[(0,.box zb2),(1,.box [pS,pI,pL zs5])]⟩)
theorem bGa:LpG T P243_l1 (aVs N (R:=R)) [1,10,11,12] aUC:=lpk (aPC N) 521370
def aZD:LpS R:=aCc noL 521370 (aAx P243_l1 (aVs N N))
def aBz (k0:zk1 (Option R))(k1:zk0 (Option R)):Nat->Int->zk0 (Option R)
 | 0,_,_,_,_,_,_,_,_=>none
 | n+1,b0,b1,b2,b3,b4,b5,b6,b7=>(bif decide (b0<((b5.length:Nat):Int))then ((at? b5 b0).bind fun x1=>(aBW N x1.1 (fun y2=>(bif (!y2)then (k0 b0 4)else (aBw N k0 (fun z5 z6 z7 z8 z9 z10 z11 z12 z13 z14 z15=>(aCl N z9 z14 (fun y16=>(bif (!y16)then (k0 z5 9)else (aDp N z8 z9 z15 (fun y17=>(bif decide (y17≠0)then (k0 z5 y17)else (aBz k0 k1 n (w64 (z5+1)) z6 z7 z8 z9 z10 z11 z12)))))))) N b0 0 b1 b2 b3 b4 b5 b6 b7 x1.1 x1.2.1 x1.2.2)))))else (k1 b1 b2 b3 b4 b5 b6 b7))
def P243_l0:SP:=⟨[(1,.ptr 0 0),(10,pI)],[(0,.box zb2)]⟩
def aT2:Nat->P243_l0.den->KS R->Option R:=eS P243_l0 fun k=>aBz N (qS k .ret ⟨[(2,pI),(3,pI)],[]⟩) (qS k (.ex 0) ⟨[(1,.ptr 0 0)],[(0,.box zb2)]⟩)
theorem bFz:LpG T P243_l0 (aT2 N (R:=R)) [1,10] aR2:=lpk (aPC N) 1018 (Lp:=(aZD N)) (hl:=(aAi (l:=[(521370,[1,10,11,12],aUC)]) (by kernel_rfl) ⟨(aAf (bGa N N)),trivial⟩))
def bKm:LpS R:=aCc (aZD N) 1018 (aAx P243_l0 (aT2 N N))
def aBB (k0:zk1 (Option R))(k1:Int->zk0 (Option R)):Nat->zk1 (zk0 (zk4 (Option R)))
 | 0,_,_,_,_,_,_,_,_,_,_,_=>none
 | n+1,b0,b1,b2,b3,b4,b5,b6,b7,b8,b9,b10=>(bif decide (b1<((b10.length:Nat):Int))then ((at? b10 b1).bind fun x1=>(aAz N x1 0 (w64 (((b6.length:Nat):Int)-1)) (fun y2=>(bif (!y2)then (k0 b0 6)else (bif slP 0 b1 b10.length then ((at? b10 b1).bind fun x3=>(aEJ N (List.take b1.toNat (List.drop 0 b10)) x3 (fun y4=>(bif y4 then (k0 b0 23)else (aBB k0 k1 n b0 (w64 (b1+1)) b2 b3 b4 b5 b6 b7 b8 b9 b10)))))else none)))))else (k1 b0 b2 b3 b4 b5 b6 b7 b8))
def P243_l3:SP:=⟨[(1,.ptr 0 0),(16,pI),(17,.ptr 1 0),(18,pI)],[(0,.box zb2),(1,.box [pI,pL [hI]])]⟩
def bY1:Nat->P243_l3.den->KS R->Option R:=eS P243_l3 fun k=>aBB N (qS k .ret ⟨[(2,pI),(3,pI)],[]⟩) (qS k (.ex 6) ⟨[(1,.ptr 0 0),(16,pI)],[(0,.box zb2)]⟩)
theorem cAD:LpG T P243_l3 (bY1 N (R:=R)) [1,16,17,18] aWy:=lpk (aPC N) 4191390 (Lp:=(bKm N))
def bZ7:LpS R:=aCc (bKm N) 4191390 (aAx P243_l3 (bY1 N N))
def aAW (k0:zk1 (Option R))(k1:Option R):Nat->Int->zk0 (Option R)
 | 0,_,_,_,_,_,_,_,_=>none
 | n+1,b0,b1,b2,b3,b4,b5,b6,b7=>(bif decide (b0<((b7.length:Nat):Int))then ((at? b7 b0).bind fun x1=>(aAz N x1.1 0 3 (fun y2=>(bif (!y2)then (k0 b0 15)else (bif decide (((x1.2.length:Nat):Int)=0)then (k0 b0 10)else (bif decide (16<((x1.2.length:Nat):Int))then (k0 b0 10)else (aBB N k0 (fun z7 z8 z9 z10 z11 z12 z13 z14=>(aAW k0 k1 n (w64 (z7+1)) z8 z9 z10 z11 z12 z13 z14)) N b0 0 b1 b2 b3 b4 b5 b6 b7 x1.1 x1.2)))))))else k1)
def P243_l2:SP:=⟨[(1,.ptr 0 0),(16,pI)],[(0,.box zb2)]⟩
def bZu:Nat->P243_l2.den->KS R->Option R:=eS P243_l2 fun k=>aAW N (qS k .ret ⟨[(2,pI),(3,pI)],[]⟩) (qS k (.ex 4) ⟨[],[]⟩)
theorem cA6:LpG T P243_l2 (bZu N (R:=R)) [1,16] aUc:=lpk (aPC N) 8186 (Lp:=(bZ7 N)) (hl:=(aAi (l:=[(4191390,[1,16,17,18],aWy)]) (by kernel_rfl) ⟨(aAf (cAD N N)),trivial⟩))
def cBm:LpS R:=aCc (bZ7 N) 8186 (aAx P243_l2 (bZu N N))
def aDx (a0:ByteArray)(a1:zt7)(a2:zt1)(a3:zt2)(a4:zt0)(a5:zt7)(a6:zt6)(k0:zk1 (Option R)):Option R:=(aBW N a0 (fun y1=>(bif (!y1)then (k0 0 4)else (aDD N a1 (fun y2 y3=>(bif decide (y3≠0)then (k0 y2 y3)else (aC0 N a1 a2 (fun y4 y5=>(bif decide (y5≠0)then (k0 y4 y5)else (aEo N a0 a1 a2 a3 a4 a5 a6 (fun y6=>(aDG N y6 a3 (fun y7 y8=>(bif decide (y8≠0)then (k0 y7 y8)else (bif decide (16<((a4.length:Nat):Int))then (k0 0 8)else (aBz N k0 (fun z20 z21 z22 z23 z24 z25 z26=>(aCx N z23 z25 (fun y27 y28=>(bif decide (y28≠0)then (k0 y27 y28)else (bif decide (16<((z26.length:Nat):Int))then (k0 0 8)else (aAW N k0 (k0 0 0) N 0 z20 z21 z22 z23 z24 z25 z26)))))) N 0 a0 a1 a2 a3 a4 a5 a6))))))))))))))))
def bQl:CfS R:=u1 (bRz N) 120 ⟨[.agg zb2],[]⟩ ⟨[pI,pI],[]⟩ (aDx N)
theorem aPo:FOK (bQl N:CfS R) (aAo T):=uCk (aPC N) bDo (Lp:=(cBm N)) (hl:=(aAi (l:=[(1018,[1,10],aR2),(8186,[1,16],aUc)]) (by kernel_rfl) ⟨(aDL (by decide) (aDL (by decide) (aAf (bFz N N)))),(aAf (cA6 N N)),trivial⟩))
def aBm (N:Nat)(k0:Int->Bool->Option R)(k1:Int->Option R):Nat->zk1 (Int->zk0 (Option R))
 | 0,_,_,_,_,_,_,_,_,_,_=>none
 | n+1,b0,b1,b2,b3,b4,b5,b6,b7,b8,b9=>((at? b7 b0).bind fun x1=>(bif decide (b2<((x1.2.2.length:Nat):Int))then ((at? b7 b0).bind fun x2=>((at? x2.2.2 b2).bind fun x3=>((at? b5 x3.1).bind fun x4=>(bif decide (b1≠(-1))then (bif decide (x4.2.2.2.2≠b1)then (k0 0 false)else (aBm N k0 k1 n b0 x4.2.2.2.2 (w64 (b2+1)) b3 b4 b5 b6 b7 b8 b9))else (aBm N k0 k1 n b0 x4.2.2.2.2 (w64 (b2+1)) b3 b4 b5 b6 b7 b8 b9)))))else (k1 b1)))
def P244_l0:SP:=⟨[(1,pI),(2,.ptr 0 0),(6,pI),(7,pI)],[(0,.box zb2)]⟩
def aVC:Nat->P244_l0.den->KS R->Option R:=eS P244_l0 fun k=>aBm N (qS k .ret ⟨[(4,pI),(5,pB)],[]⟩) (qS k (.ex 0) ⟨[(6,pI)],[]⟩)
theorem bEC:LpG T P244_l0 (aVC N (R:=R)) [1,2,6,7] aZo:=lpk (aPo N) 58
def aYY:LpS R:=aCc noL 58 (aAx P244_l0 (aVC N N))
def aDb (a0:ByteArray)(a1:zt7)(a2:zt1)(a3:zt2)(a4:zt0)(a5:zt7)(a6:zt6)(a7:Int)(k0:Int->Bool->Option R):Option R:=(aBm N k0 (fun z7=>(k0 z7 true)) N a7 (-1) 0 a0 a1 a2 a3 a4 a5 a6)
def bRZ:CfS R:=u1 (bQl N) 91 ⟨[.agg zb2,pI],[]⟩ ⟨[pI,pB],[]⟩ (aDb N)
theorem aJR:FOK (bRZ N:CfS R) (aAo T):=uCk (aPo N) c91 (Lp:=(aYY N)) (hl:=(aAi (l:=[(58,[1,2,6,7],aZo)]) (by kernel_rfl) ⟨(aAf (bEC N N)),trivial⟩))
def aA4 (k0:Int->Option R)(k1:Option R):Nat->Int->zk0 (Option R)
 | 0,_,_,_,_,_,_,_,_=>none
 | n+1,b0,b1,b2,b3,b4,b5,b6,b7=>(bif decide (b0<((b5.length:Nat):Int))then (aDb N b1 b2 b3 b4 b5 b6 b7 b0 (fun y1 y2=>(bif (!y2)then (k0 30)else (aA4 k0 k1 n (w64 (b0+1)) b1 b2 b3 b4 b5 b6 b7))))else k1)
def P245_l0:SP:=⟨[(1,.ptr 0 0),(5,pI)],[(0,.box zb2)]⟩
def aVf:Nat->P245_l0.den->KS R->Option R:=eS P245_l0 fun k=>aA4 N (qS k .ret ⟨[(2,pI)],[]⟩) (qS k (.ex 0) ⟨[],[]⟩)
theorem bDQ:LpG T P245_l0 (aVf N (R:=R)) [1,5] bAd:=lpk (aJR N) 58
def aZP:LpS R:=aCc noL 58 (aAx P245_l0 (aVf N N))
def aDd (a0:ByteArray)(a1:zt7)(a2:zt1)(a3:zt2)(a4:zt0)(a5:zt7)(a6:zt6)(k0:Int->Option R):Option R:=(aDx N a0 a1 a2 a3 a4 a5 a6 (fun y1 y2=>(bif decide (y2≠0)then (k0 y2)else (aA4 N k0 (k0 0) N 0 a0 a1 a2 a3 a4 a5 a6))))
def bR4:CfS R:=u1 (bRZ N) 41 ⟨[.agg zb2],[]⟩ ⟨[pI],[]⟩ (aDd N)
theorem bCo:FOK (bR4 N:CfS R) (aAo T):=uCk (aJR N) c41 (Lp:=(aZP N)) (hl:=(aAi (l:=[(58,[1,5],bAd)]) (by kernel_rfl) ⟨(aAf (bDQ N N)),trivial⟩))
def bXy (a0:ByteArray)(a1:zt7)(a2:zt1)(a3:zt2)(a4:zt0)(a5:zt7)(a6:zt6)(k0:List Int->Option R):Option R:=(aEo N a0 a1 a2 a3 a4 a5 a6 (fun y1=>(bif slP 0 ((a1.length:Nat):Int) y1.length then (k0 (List.take a1.length (List.drop 0 y1)))else none)))
def cCG:CfS R:=u1 (bR4 N) 134 ⟨[.agg zb2],[]⟩ ⟨[pL [hI]],[]⟩ (bXy N)
theorem bZh:FOK (cCG N:CfS R) (aAo T):=uCk (bCo N) cCa
def bXa (k0:Bool->Option R)(k1:Option R):Nat->zk3 (Int->Option R)
 | 0,_,_,_=>none
 | n+1,b0,b1,b2=>(bif decide (b2<((b1.length:Nat):Int))then ((at? b1 b2).bind fun x1=>((at? b0 b2).bind fun x2=>(aEg N x1 x2 (fun y3=>(bif (!y3)then (k0 false)else (bXa k0 k1 n b0 b1 (w64 (b2+1))))))))else k1)
def P247_l0:SP:=⟨[(0,pL [hI]),(1,pL [hI]),(5,pI)],[]⟩
def bZA:Nat->P247_l0.den->KS R->Option R:=eS P247_l0 fun k=>bXa N (qS k .ret ⟨[(4,pB)],[]⟩) (qS k (.ex 0) ⟨[],[]⟩)
theorem cBf:LpG T P247_l0 (bZA N (R:=R)) [0,1,5] bZf:=lpk (bZh N) 58
def cBT:LpS R:=aCc noL 58 (aAx P247_l0 (bZA N N))
def bXI (a0 a1:List Int)(k0:Bool->Option R):Option R:=(bif decide (((a0.length:Nat):Int)≠((a1.length:Nat):Int))then (k0 false)else (bXa N k0 (k0 true) N a0 a1 0))
def cCB:CfS R:=u1 (cCG N) 183 ⟨[pL [hI],pL [hI]],[]⟩ ⟨[pB],[]⟩ (bXI N)
theorem cAZ:FOK (cCB N:CfS R) (aAo T):=uCk (bZh N) cB3 (Lp:=(cBT N)) (hl:=(aAi (l:=[(58,[0,1,5],bZf)]) (by kernel_rfl) ⟨(aAf (cBf N N)),trivial⟩))
def bXg (a0 a1:List Int)(k0:Int->Option R):Option R:=(bif decide (((a1.length:Nat):Int)≠((a0.length:Nat):Int))then (k0 10)else (bXI N a0 a1 (fun y1=>(bif (!y1)then (k0 2)else (k0 0)))))
def cCu:CfS R:=u1 (cCB N) 133 ⟨[pL [hI],pL [hI]],[]⟩ ⟨[pI],[]⟩ (bXg N)
theorem cA3:FOK (cCu N:CfS R) (aAo T):=uCk (cAZ N) cB6
def bXw (a0:ByteArray)(a1:zt7)(a2:zt1)(a3:zt2)(a4:zt0)(a5:zt7)(a6:zt6)(a7:Int)(a8:List Int)(k0:Int->Option R):Option R:=(aAz N a7 0 3 (fun y1=>(bif (!y1)then (k0 2)else (bXy N a0 a1 a2 a3 a4 a5 a6 (fun y2=>(bXg N y2 a8 k0))))))
def cCs:CfS R:=u1 (cCu N) 55 ⟨[.agg zb2,.agg [pI,pL [hI]]],[]⟩ ⟨[pI],[]⟩ (bXw N)
theorem cBl:FOK (cCs N:CfS R) (aAo T):=uCk (cA3 N) c55
def bXx (a0:ByteArray)(a1:zt7)(a2:zt1)(a3:zt2)(a4:zt0)(a5:zt7)(a6:zt6)(k0:List Int->Option R):Option R:=(aEo N a0 a1 a2 a3 a4 a5 a6 (fun y1=>(bif slP ((a1.length:Nat):Int) ((y1.length:Nat):Int) y1.length then (k0 (List.take (y1.length-a1.length) (List.drop a1.length y1)))else none)))
def cCC:CfS R:=u1 (cCs N) 135 ⟨[.agg zb2],[]⟩ ⟨[pL [hI]],[]⟩ (bXx N)
theorem cBa:FOK (cCC N:CfS R) (aAo T):=uCk (cBl N) cCk
def bXc (a0:ByteArray)(a1:zt7)(a2:zt1)(a3:zt2)(a4:zt0)(a5:zt7)(a6:zt6)(a7:List Int)(k0:Int->Option R):Option R:=(bXx N a0 a1 a2 a3 a4 a5 a6 (fun y1=>(bXg N y1 a7 k0)))
def cCp:CfS R:=u1 (cCC N) 56 ⟨[.agg zb2,pL [hI]],[]⟩ ⟨[pI],[]⟩ (bXc N)
theorem bZQ:FOK (cCp N:CfS R) (aAo T):=uCk (cBa N) c56
def bW1 (N:Nat)(k0:List Int->Option R):Nat->zk1 (zk0 (List Int->Option R))
 | 0,_,_,_,_,_,_,_,_,_,_=>none
 | n+1,b0,b1,b2,b3,b4,b5,b6,b7,b8,b9=>(bif decide (b1<((b4.length:Nat):Int))then ((at? b4 b1).bind fun x1=>(bif decide (x1.2.1=1)then ((at? b4 b1).bind fun x2=>(bif decide (x2.2.2.2.2=b0)then ((at? b4 b1).bind fun x3=>(bif inR b1 b9.length then ((b9[b1.toNat]?).bind fun x4=>(bW1 N k0 n b0 (w64 (b1+1)) b2 b3 b4 b5 b6 b7 b8 (List.set b9 b1.toNat x3.2.2.2.1)))else none))else (bW1 N k0 n b0 (w64 (b1+1)) b2 b3 b4 b5 b6 b7 b8 b9)))else (bW1 N k0 n b0 (w64 (b1+1)) b2 b3 b4 b5 b6 b7 b8 b9)))else (k0 b9))
def P252_l0:SP:=⟨[(1,pI),(3,.ptr 0 0),(7,.own 1),(8,pI)],[(0,.box zb2),(1,.arr [hI])]⟩
def bZC:Nat->P252_l0.den->KS R->Option R:=eS P252_l0 fun k=>bW1 N (qS k (.ex 0) ⟨[(7,.own 0)],[(0,.arr [hI])]⟩)
theorem cA4:LpG T P252_l0 (bZC N (R:=R)) [1,3,7,8] cAl:=lpk (bZQ N) 58
def cB1:LpS R:=aCc noL 58 (aAx P252_l0 (bZC N N))
def bXs (a0:ByteArray)(a1:zt7)(a2:zt1)(a3:zt2)(a4:zt0)(a5:zt7)(a6:zt6)(a7:Int)(a8:List Int)(k0:List Int->Option R):Option R:=(aCX N a8 (fun y1=>(bW1 N k0 N a7 0 a0 a1 a2 a3 a4 a5 a6 y1)))
def cCt:CfS R:=u1 (cCp N) 90 ⟨[.agg zb2,pI,pL [hI]],[]⟩ ⟨[pL [hI]],[]⟩ (bXs N)
theorem cAH:FOK (cCt N:CfS R) (aAo T):=uCk (bZQ N) c90 (Lp:=(cB1 N)) (hl:=(aAi (l:=[(58,[1,3,7,8],cAl)]) (by kernel_rfl) ⟨(aAf (cA4 N N)),trivial⟩))
def bXi (a0 a1:List Int)(k0:List Int->Option R):Option R:=(aCX N a0 (fun y1=>(bif aBU (y1.length+a1.length) 8 then (k0 (y1++a1))else none)))
def cCo:CfS R:=u1 (cCt N) 95 ⟨[pL [hI],pL [hI]],[]⟩ ⟨[pL [hI]],[]⟩ (bXi N)
theorem cAx:FOK (cCo N:CfS R) (aAo T):=uCk (cAH N) c95
def bXG (N:Nat)(a0:Bool)(k0:Int->Option R):Option R:=(bif a0 then (k0 1)else (k0 0))
def cCH:CfS R:=u1 (cCo N) 32 ⟨[pB],[]⟩ ⟨[pI],[]⟩ (bXG N)
theorem cBe:FOK (cCH N:CfS R) (aAo T):=uCk (cAx N) c32
def bXk (a0 a1:Int)(k0:Int->Option R):Option R:=(aEO N (w64 (a1-1)) (fun y1=>(bif decide (y1<=a0)then (aEO N a1 (fun y2=>(k0 (w64 (a0-y2)))))else (k0 a0))))
def cCD:CfS R:=u1 (cCH N) 211 ⟨[pI,pI],[]⟩ ⟨[pI],[]⟩ (bXk N)
theorem cAP:FOK (cCD N:CfS R) (aAo T):=uCk (cBe N) cB4
def bXz (a0 a1:Int)(a2:List Int)(a3:Int)(a4 a5 a6:List Int)(k0:Int->Option R):Option R:=(aEO N a1 (fun y1=>(bif decide (a0=0)then (k0 a3)else (bif decide (a0=1)then ((at? a6 a3).bind fun x2=>(k0 x2))else (bif decide (a0=2)then ((at? a4 0).bind fun x3=>(k0 (w64 ((w64 (y1-1))-x3))))else (bif decide (a0=3)then ((at? a4 0).bind fun x4=>((at? a4 1).bind fun x5=>(k0 (bLe .i64 x4 x5))))else (bif decide (a0=4)then ((at? a4 0).bind fun x6=>((at? a4 1).bind fun x7=>(k0 (orI .i64 x6 x7))))else (bif decide (a0=5)then ((at? a4 0).bind fun x8=>((at? a4 1).bind fun x9=>(k0 (bQA .i64 x8 x9))))else (bif decide (a0=6)then ((at? a4 0).bind fun x10=>((at? a4 1).bind fun x11=>(bif decide (y1=0)then none else (k0 (Int.tmod (w64 (x10+x11)) y1)))))else (bif decide (a0=7)then ((at? a4 0).bind fun x12=>((at? a4 1).bind fun x13=>(bif decide (y1=0)then none else (k0 (Int.tmod (w64 ((w64 (x12-x13))+y1)) y1)))))else (bif decide (a0=8)then ((at? a4 0).bind fun x14=>((at? a4 1).bind fun x15=>(bif decide (y1=0)then none else (k0 (Int.tmod (w64 (x14*x15)) y1)))))else (bif decide (a0=9)then ((at? a4 0).bind fun x16=>((at? a4 1).bind fun x17=>(bXG N (decide (x16=x17)) k0)))else (bif decide (a0=10)then ((at? a4 0).bind fun x19=>((at? a4 1).bind fun x20=>(bXG N (decide (x19<x20)) k0)))else (bif decide (a0=11)then ((at? a4 0).bind fun x22=>((at? a5 0).bind fun x23=>(bXk N x22 x23 (fun y24=>((at? a4 1).bind fun x25=>((at? a5 1).bind fun x26=>(bXk N x25 x26 (fun y27=>(bXG N (decide (y24<y27)) k0)))))))))else (bif decide (a0=12)then ((at? a4 0).bind fun x29=>(bif decide (x29=1)then ((at? a4 1).bind fun x30=>(k0 x30))else ((at? a4 2).bind fun x31=>(k0 x31))))else (bif decide (a0=13)then ((at? a4 0).bind fun x32=>((at? a5 1).bind fun x33=>(aEO N x33 (fun y34=>((at? a4 1).bind fun x35=>(k0 (w64 ((w64 (x32*y34))+x35))))))))else (bif decide (a0=14)then ((at? a4 0).bind fun x36=>(aEO N a3 (fun y37=>(bif decide (y37=0)then none else (bif decide (y1=0)then none else (k0 (Int.tmod (w64 (Int.tdiv x36 y37)) y1)))))))else (bif decide (a0=15)then ((at? a4 0).bind fun x38=>(k0 x38))else (bif decide (a0=16)then ((at? a4 0).bind fun x39=>((at? a5 0).bind fun x40=>(bXk N x39 x40 (fun y41=>(bif decide (y1=0)then none else (k0 (Int.tmod (w64 (y41+y1)) y1)))))))else (bif decide (a0=17)then ((at? a4 1).bind fun x42=>(bif decide (a1<=x42)then (k0 0)else ((at? a4 0).bind fun x43=>((at? a4 1).bind fun x44=>(aEO N x44 (fun y45=>(bif decide (y1=0)then none else (k0 (Int.tmod (w64 (x43*y45)) y1)))))))))else ((at? a4 1).bind fun x46=>(bif decide (a1<=x46)then (k0 0)else ((at? a4 0).bind fun x47=>((at? a4 1).bind fun x48=>(aEO N x48 (fun y49=>(bif decide (y49=0)then none else (k0 (w64 (Int.tdiv x47 y49))))))))))))))))))))))))))))))
def cCJ:CfS R:=u1 (cCD N) 156 ⟨[.agg zb6,pL [hI],pL [hI],pL [hI]],[]⟩ ⟨[pI],[]⟩ (bXz N)
theorem bYB:FOK (cCJ N:CfS R) (aAo T):=uCk (cAP N) cCc
def cB8:Nat->Option (List Sh):=fun n=>if n=4000 then some [hI]else if n=34000 then some [hI]else if n=49000 then some [hI]else none
def bW4 (N:Nat)(k0:zt2->aRN (zk3 (List Int->Option R))):Nat->zt2->List Int->zk1 (zk3 (List Int->Option R))
 | 0,_,_,_,_,_,_,_=>none
 | n+1,b0,b1,b2,b3,b4,b5,b6=>((at? b0 b2).bind fun x1=>(bif decide (b3<((x1.2.2.1.length:Nat):Int))then ((at? b0 b2).bind fun x2=>((at? x2.2.2.1 b3).bind fun x3=>(bif inR x3 b4.length then ((b4[x3.toNat]?).bind fun x4=>(bif aBU (b5.length+1) 8 then ((at? b0 b2).bind fun x5=>((at? x5.2.2.1 b3).bind fun x6=>((at? b0 x6).bind fun x7=>(bif aBU (b6.length+1) 8 then (bW4 N k0 n b0 b1 b2 (w64 (b3+1)) b4 (b5++[x4]) (b6++[x7.2.1]))else none))))else none))else none)))else (k0 b0 b1 b2 b4 b5 b6)))
def P257_l1:SP:=⟨[(0,pL zs1),(1,pL [hI]),(5,.own 0),(6,pI),(7,.own 1),(8,.own 2),(9,pI)],[(0,.arr [hI]),(1,.arr [hI]),(2,.arr [hI])]⟩
def bY3:Nat->P257_l1.den->KS R->Option R:=eS P257_l1 fun k=>bW4 N (qS k (.ex 2) ⟨[(0,pL zs1),(1,pL [hI]),(5,.own 0),(6,pI),(7,.own 1),(8,.own 2)],[(0,.arr [hI]),(1,.arr [hI]),(2,.arr [hI])]⟩)
theorem cAC:LpG T P257_l1 (bY3 N (R:=R)) [0,1,5,6,7,8,9] bZ9:=lpk (bYB N) 14922 (H:=cB8)
def cAb:LpS R:=aCc noL 14922 (aAx P257_l1 (bY3 N N))
def bW0 (k0:List Int->Option R):Nat->zt2->List Int->zk4 (Option R)
 | 0,_,_,_,_=>none
 | n+1,b0,b1,b2,b3=>(bif decide (b2<((b0.length:Nat):Int))then (bW4 N (fun z8 z9 z10 z11 z12 z13=>((at? z8 z10).bind fun x14=>(bXz N x14.1 x14.2.1 x14.2.2.1 x14.2.2.2 z12 z13 z9 (fun y15=>(bif inR z10 z11.length then ((z11[z10.toNat]?).bind fun x16=>(bW0 k0 n z8 z9 (w64 (z10+1)) (List.set z11 z10.toNat y15)))else none))))) N b0 b1 b2 0 b3 [] [])else (k0 b3))
def P257_l0:SP:=⟨[(0,pL zs1),(1,pL [hI]),(5,.own 0),(6,pI)],[(0,.arr [hI])]⟩
def bZo:Nat->P257_l0.den->KS R->Option R:=eS P257_l0 fun k=>bW0 N (qS k (.ex 0) ⟨[(5,.own 0)],[(0,.arr [hI])]⟩)
theorem cAF:LpG T P257_l0 (bZo N (R:=R)) [0,1,5,6] cAs:=lpk (bYB N) 58 (H:=cB8) (Lp:=(cAb N)) (hl:=(aAi (l:=[(14922,[0,1,5,6,7,8,9],bZ9)]) (by kernel_rfl) ⟨(aAf (cAC N N)),trivial⟩))
def cBM:LpS R:=aCc (cAb N) 58 (aAx P257_l0 (bZo N N))
def bXh (a0:zt2)(a1:List Int)(k0:List Int->Option R):Option R:=(bif decide (0<=((a0.length:Nat):Int)∧((a0.length:Nat):Int)<=((a0.length:Nat):Int))then (bif aBU a0.length 8 then (bW0 N k0 N a0 a1 0 (List.replicate a0.length 0))else none)else none)
def cCF:CfS R:=u1 (cCJ N) 94 ⟨[pL zs1,pL [hI]],[]⟩ ⟨[pL [hI]],[]⟩ (bXh N)
theorem cA1:FOK (cCF N:CfS R) (aAo T):=uCk (bYB N) c94 (H:=cB8) (Lp:=(cBM N)) (hl:=(aAi (l:=[(58,[0,1,5,6],cAs)]) (by kernel_rfl) ⟨(aAf (cAF N N)),trivial⟩))
def bXC (a0:ByteArray)(a1:zt7)(a2:zt1)(a3:zt2)(a4:zt0)(a5:zt7)(a6:zt6)(a7:Int)(a8 a9:List Int)(k0:Bool->Option R):Option R:=(bXi N a8 a9 (fun y1=>(bXh N a3 y1 (fun y2=>((at? a4 a7).bind fun x3=>((at? y2 x3.2.1).bind fun x4=>(k0 (decide (x4=1)))))))))
def cCE:CfS R:=u1 (cCF N) 92 ⟨[.agg zb2,pI,pL [hI],pL [hI]],[]⟩ ⟨[pB],[]⟩ (bXC N)
theorem bY5:FOK (cCE N:CfS R) (aAo T):=uCk (cA1 N) c92
def bW3 (N:Nat)(k0:List Int->Option R):zk5 (zt8->zk4 (Option R))
 | 0,_,_,_,_=>none
 | n+1,b0,b1,b2,b3=>(bif decide (b2<((b1.length:Nat):Int))then ((at? b1 b2).bind fun x1=>((at? b0 x1.2.1).bind fun x2=>(bif decide (x2=1)then ((at? b1 b2).bind fun x3=>((at? b1 b2).bind fun x4=>((at? b0 x4.2.2).bind fun x5=>(bif inR x3.1 b3.length then ((b3[x3.1.toNat]?).bind fun x6=>(bW3 N k0 n b0 b1 (w64 (b2+1)) (List.set b3 x3.1.toNat x5)))else none))))else (bW3 N k0 n b0 b1 (w64 (b2+1)) b3))))else (k0 b3))
def P259_l0:SP:=⟨[(9,pL [hI]),(10,.own 0),(11,pL zs5),(12,pI)],[(0,.arr [hI])]⟩
def bZO:Nat->P259_l0.den->KS R->Option R:=eS P259_l0 fun k=>bW3 N (qS k (.ex 0) ⟨[(10,.own 0)],[(0,.arr [hI])]⟩)
theorem cA2:LpG T P259_l0 (bZO N (R:=R)) [9,10,11,12] cAf:=lpk (bY5 N) 250
def cBX:LpS R:=aCc noL 250 (aAx P259_l0 (bZO N N))
def bXv (a0:ByteArray)(a1:zt7)(a2:zt1)(a3:zt2)(a4:zt0)(a5:zt7)(a6:zt6)(a7:Int)(a8 a9:List Int)(k0:List Int->Option R):Option R:=(bXi N a8 a9 (fun y1=>(bXh N a3 y1 (fun y2=>(aCX N a9 (fun y3=>((at? a4 a7).bind fun x4=>(bW3 N k0 N y2 x4.2.2 0 y3))))))))
def cCI:CfS R:=u1 (cCE N) 93 ⟨[.agg zb2,pI,pL [hI],pL [hI]],[]⟩ ⟨[pL [hI]],[]⟩ (bXv N)
theorem bZz:FOK (cCI N:CfS R) (aAo T):=uCk (bY5 N) c93 (Lp:=(cBX N)) (hl:=(aAi (l:=[(250,[9,10,11,12],cAf)]) (by kernel_rfl) ⟨(aAf (cA2 N N)),trivial⟩))
def cCv:Nat->Option (List Sh):=fun n=>if n=46000 then some [hI]else none
def bW5 (k0:List Int->zk0 (Int->zk3 (Option R))):zk5 (Int->zk0 (Int->zk3 (Option R)))
 | 0,_,_,_,_,_,_,_,_,_,_,_,_=>none
 | n+1,b0,b1,b2,b3,b4,b5,b6,b7,b8,b9,b10,b11=>(bif decide (b1<((b6.length:Nat):Int))then (aDb N b2 b3 b4 b5 b6 b7 b8 b1 (fun y1 y2=>(bif decide (y1=b9)then (bXC N b2 b3 b4 b5 b6 b7 b8 b1 b10 b0 (fun y3=>(bif y3 then (bXv N b2 b3 b4 b5 b6 b7 b8 b1 b10 b0 (fun y4=>(bif aBU (b11.length+1) 8 then (bW5 k0 n y4 (w64 (b1+1)) b2 b3 b4 b5 b6 b7 b8 b9 b10 (b11++[b1]))else none)))else (bW5 k0 n b0 (w64 (b1+1)) b2 b3 b4 b5 b6 b7 b8 b9 b10 b11))))else (bW5 k0 n b0 (w64 (b1+1)) b2 b3 b4 b5 b6 b7 b8 b9 b10 b11))))else (k0 b0 b2 b3 b4 b5 b6 b7 b8 b9 b10 b11))
def P260_l0:SP:=⟨[(3,.ptr 0 0),(4,.ptr 1 0),(8,pL [hI]),(9,.own 2),(10,pI)],[(0,.box zb2),(1,.box [pI,pL [hI]]),(2,.arr [hI])]⟩
def bY9:Nat->P260_l0.den->KS R->Option R:=eS P260_l0 fun k=>bW5 N (qS k (.ex 0) ⟨[(3,.ptr 0 0),(4,.ptr 1 0),(8,pL [hI]),(9,.own 2)],[(0,.box zb2),(1,.box [pI,pL [hI]]),(2,.arr [hI])]⟩)
theorem cAI:LpG T P260_l0 (bY9 N (R:=R)) [3,4,8,9,10] cAo:=lpk (bZz N) 122 (H:=cCv)
def cBP:LpS R:=aCc noL 122 (aAx P260_l0 (bY9 N N))
def bXH (a0:ByteArray)(a1:zt7)(a2:zt1)(a3:zt2)(a4:zt0)(a5:zt7)(a6:zt6)(a7:Int)(a8 a9:List Int)(k0:zk3 (Option R)):Option R:=(bXs N a0 a1 a2 a3 a4 a5 a6 a7 a9 (fun y1=>(bW5 N (fun z5 z6 z7 z8 z9 z10 z11 z12 z13 z14 z15=>(bXs N z6 z7 z8 z9 z10 z11 z12 z13 z5 (fun y16=>(k0 y16 z15)))) N y1 0 a0 a1 a2 a3 a4 a5 a6 a7 a8 [])))
def cCA:CfS R:=u1 (cCI N) 22 ⟨[.agg zb2,.agg [pI,pL [hI]],pL [hI]],[]⟩ ⟨[pL [hI],pL [hI]],[]⟩ (bXH N)
theorem bZb:FOK (cCA N:CfS R) (aAo T):=uCk (bZz N) c22 (H:=cCv) (Lp:=(cBP N)) (hl:=(aAi (l:=[(122,[3,4,8,9,10],cAo)]) (by kernel_rfl) ⟨(aAf (cAI N N)),trivial⟩))
def bWZ (k0:Int->Option R)(k1:Option R):zk5 (zk1 (Int->Option R))
 | 0,_,_,_,_=>none
 | n+1,b0,b1,b2,b3=>(bif decide (b3<((b0.length:Nat):Int))then ((at? b0 b3).bind fun x1=>(aAz N x1 0 (w64 (b1-1)) (fun y2=>(bif (!y2)then (k0 b2)else (bif decide (0<b3)then ((at? b0 b3).bind fun x3=>((at? b0 (w64 (b3-1))).bind fun x4=>(bif decide (x3<=x4)then (k0 9)else (bWZ k0 k1 n b0 b1 b2 (w64 (b3+1))))))else (bWZ k0 k1 n b0 b1 b2 (w64 (b3+1))))))))else k1)
def P261_l0:SP:=⟨[(0,pL [hI]),(1,pI),(2,pI),(7,pI)],[]⟩
def bZl:Nat->P261_l0.den->KS R->Option R:=eS P261_l0 fun k=>bWZ N (qS k .ret ⟨[(6,pI)],[]⟩) (qS k (.ex 0) ⟨[],[]⟩)
theorem cBi:LpG T P261_l0 (bZl N (R:=R)) [0,1,2,7] cAw:=lpk (bZb N) 26
def cBx:LpS R:=aCc noL 26 (aAx P261_l0 (bZl N N))
def bXj (a0:List Int)(a1 a2:Int)(k0:Int->Option R):Option R:=(bWZ N k0 (k0 0) N a0 a1 a2 0)
def cCq:CfS R:=u1 (cCA N) 57 ⟨[pL [hI],pI,pI],[]⟩ ⟨[pI],[]⟩ (bXj N)
theorem bYZ:FOK (cCq N:CfS R) (aAo T):=uCk (bZb N) c57 (Lp:=(cBx N)) (hl:=(aAi (l:=[(26,[0,1,2,7],cAw)]) (by kernel_rfl) ⟨(aAf (cBi N N)),trivial⟩))
def bW9 (k0:List Int->Option R):zk5 (Int->zk0 (List Int->Option R))
 | 0,_,_,_,_,_,_,_,_,_,_=>none
 | n+1,b0,b1,b2,b3,b4,b5,b6,b7,b8,b9=>(bif decide (b1<((b9.length:Nat):Int))then ((at? b4 b1).bind fun x1=>(aEJ N b0 x1.2.2.2.2 (fun y2=>(bif y2 then ((at? b4 b1).bind fun x3=>(bif inR b1 b9.length then ((b9[b1.toNat]?).bind fun x4=>(bW9 k0 n b0 (w64 (b1+1)) b2 b3 b4 b5 b6 b7 b8 (List.set b9 b1.toNat x3.2.2.2.1)))else none))else (bW9 k0 n b0 (w64 (b1+1)) b2 b3 b4 b5 b6 b7 b8 b9)))))else (k0 b9))
def P262_l0:SP:=⟨[(1,pL [hI]),(3,.ptr 0 0),(7,.own 1),(8,pI)],[(0,.box zb2),(1,.arr [hI])]⟩
def bZy:Nat->P262_l0.den->KS R->Option R:=eS P262_l0 fun k=>bW9 N (qS k (.ex 0) ⟨[(7,.own 0)],[(0,.arr [hI])]⟩)
theorem cAQ:LpG T P262_l0 (bZy N (R:=R)) [1,3,7,8] cAk:=lpk (bYZ N) 58
def cBp:LpS R:=aCc noL 58 (aAx P262_l0 (bZy N N))
def bXF (a0:ByteArray)(a1:zt7)(a2:zt1)(a3:zt2)(a4:zt0)(a5:zt7)(a6:zt6)(a7 a8:List Int)(k0:List Int->Option R):Option R:=(aCX N a8 (fun y1=>(bW9 N k0 N a7 0 a0 a1 a2 a3 a4 a5 a6 y1)))
def cCx:CfS R:=u1 (cCq N) 58 ⟨[.agg zb2,pL [hI],pL [hI]],[]⟩ ⟨[pL [hI]],[]⟩ (bXF N)
theorem bZK:FOK (cCx N:CfS R) (aAo T):=uCk (bYZ N) c58 (Lp:=(cBp N)) (hl:=(aAi (l:=[(58,[1,3,7,8],cAk)]) (by kernel_rfl) ⟨(aAf (cAQ N N)),trivial⟩))
def cCy:Nat->Option (List Sh):=fun n=>if n=6000 then some [hI]else none
def bXd (N:Nat)(k0:List Int->Option R):Nat->Int->zk0 (List Int->Option R)
 | 0,_,_,_,_,_,_,_,_,_=>none
 | n+1,b0,b1,b2,b3,b4,b5,b6,b7,b8=>(bif decide (b0<((b3.length:Nat):Int))then ((at? b3 b0).bind fun x1=>(bif inR b0 b8.length then ((b8[b0.toNat]?).bind fun x2=>(bXd N k0 n (w64 (b0+1)) b1 b2 b3 b4 b5 b6 b7 (List.set b8 b0.toNat x1.2.2.2.1)))else none))else (k0 b8))
def P263_l0:SP:=⟨[(1,.ptr 0 0),(3,.own 1),(4,pI)],[(0,.box zb2),(1,.arr [hI])]⟩
def bZi:Nat->P263_l0.den->KS R->Option R:=eS P263_l0 fun k=>bXd N (qS k (.ex 0) ⟨[(3,.own 0)],[(0,.arr [hI])]⟩)
theorem cAE:LpG T P263_l0 (bZi N (R:=R)) [1,3,4] cAp:=lpk (bZK N) 58 (H:=cCy)
def cBz:LpS R:=aCc noL 58 (aAx P263_l0 (bZi N N))
def bXE (a0:ByteArray)(a1:zt7)(a2:zt1)(a3:zt2)(a4:zt0)(a5:zt7)(a6:zt6)(k0:List Int->Option R):Option R:=(bif decide (0<=((a2.length:Nat):Int)∧((a2.length:Nat):Int)<=((a2.length:Nat):Int))then (bif aBU a2.length 8 then (bXd N k0 N 0 a0 a1 a2 a3 a4 a5 a6 (List.replicate a2.length 0))else none)else none)
def cCr:CfS R:=u1 (cCx N) 19 ⟨[.agg zb2],[]⟩ ⟨[pL [hI]],[]⟩ (bXE N)
theorem bXP:FOK (cCr N:CfS R) (aAo T):=uCk (bZK N) c19 (H:=cCy) (Lp:=(cBz N)) (hl:=(aAi (l:=[(58,[1,3,4],cAp)]) (by kernel_rfl) ⟨(aAf (cAE N N)),trivial⟩))
def bZV:Nat->Option (List Sh):=fun n=>if n=180000 then some [hI]else none
def bWX (k0:Bool->Option R)(b0:List Int)(b1 b2:Int)(b3:ByteArray)(b4:zt7)(b5:zt1)(b6:zt2)(b7:zt0)(b8:zt7)(b9:zt6)(b10 b11:List Int):Option R:=(bif decide (b2≠0)then (bif decide (b1=b2)then (k0 (decide (((b0.length:Nat):Int)=0)))else (k0 false))else (bif decide (b1≠0)then (k0 false)else (bXF N b3 b4 b5 b6 b7 b8 b9 b10 b11 (fun y1=>(aCr N b0 y1 (fun y2=>(bif (!y2)then (k0 false)else (aA6 N b3 b4 b5 b6 b7 b8 b9 (fun y3 y4 y5 y6 y7 y8 y9=>(aCX N b11 (fun y10=>(bXD N y3 y4 y5 y6 y7 y8 y9 [0,1,2,3] y10 (fun y11 y12=>(bif decide (y12=0)then (bXE N b3 b4 b5 b6 b7 b8 b9 (fun y13=>(aCr N y11 y13 k0)))else (k0 false)))))))))))))))
def P264_j8:SP:=⟨[(3,.ptr 0 0),(5,.ptr 1 0),(10,pL [hI]),(11,pI),(12,pI)],[(0,.box zb2),(1,.box [pL [hI],pL [hI]])]⟩
def bZg:Nat->P264_j8.den->KS R->Option R:=jS P264_j8 fun k=>bWX N (qS k .ret ⟨[(6,pB)],[]⟩)
theorem cBc:LpG T P264_j8 (bZg N (R:=R)) [3,5,10,11,12] cBy:=lpk (bXP N) 533721269318 (H:=bZV)
def cAn:LpS R:=aCc noL 533721269318 (aAx P264_j8 (bZg N 1))
def bW7 (k0:Bool->Option R)(b0:List Int)(b1:Int)(b2:ByteArray)(b3:zt7)(b4:zt1)(b5:zt2)(b6:zt0)(b7:zt7)(b8:zt6)(b9 b10:List Int):Option R:=(bXj N b9 4 2 (fun y1=>(bif decide (y1=0)then (bXc N b2 b3 b4 b5 b6 b7 b8 b10 (fun y2=>(bWX N k0 b0 b1 y2 b2 b3 b4 b5 b6 b7 b8 b9 b10)))else (bWX N k0 b0 b1 y1 b2 b3 b4 b5 b6 b7 b8 b9 b10))))
def P264_j7:SP:=⟨[(3,.ptr 0 0),(5,.ptr 1 0),(10,pL [hI]),(11,pI)],[(0,.box zb2),(1,.box [pL [hI],pL [hI]])]⟩
def bZr:Nat->P264_j7.den->KS R->Option R:=jS P264_j7 fun k=>bW7 N (qS k .ret ⟨[(6,pB)],[]⟩)
theorem cAR:LpG T P264_j7 (bZr N (R:=R)) [3,5,10,11] cBu:=lpk (bXP N) 16678789666 (H:=bZV) (Lp:=(cAn N)) (hl:=(aAi (l:=[(533721269318,[3,5,10,11,12],cBy)]) (by kernel_rfl) ⟨(aAf (cBc N 1)),trivial⟩))
def bZ8:LpS R:=aCc (cAn N) 16678789666 (aAx P264_j7 (bZr N 1))
def bXe (k0:Bool->Option R)(b0 b1:List Int)(b2:Int)(b3:List Int)(b4 b5:Int)(b6:ByteArray)(b7:zt7)(b8:zt1)(b9:zt2)(b10:zt0)(b11:zt7)(b12:zt6)(b13:Int)(b14 b15 b16:List Int):Option R:=(bif decide (b5=0)then (bXH N b6 b7 b8 b9 b10 b11 b12 b13 b14 b16 (fun y1 y2=>(bif decide (b2≠0)then (k0 false)else (aCr N b0 y1 (fun y3=>(bif (!y3)then (k0 false)else (aCr N b1 y2 (fun y4=>(bif (!y4)then (k0 false)else (bW7 N k0 b3 b4 b6 b7 b8 b9 b10 b11 b12 b15 b16))))))))))else (bW7 N k0 b3 b4 b6 b7 b8 b9 b10 b11 b12 b15 b16))
def P264_j6:SP:=⟨[(3,.ptr 0 0),(4,.ptr 1 0),(5,.ptr 2 0),(7,pL [hI]),(8,pL [hI]),(9,pI),(10,pL [hI]),(11,pI),(12,pI)],[(0,.box zb2),(1,.box [pI,pL [hI]]),(2,.box [pL [hI],pL [hI]])]⟩
def bZU:Nat->P264_j6.den->KS R->Option R:=jS P264_j6 fun k=>bXe N (qS k .ret ⟨[(6,pB)],[]⟩)
theorem cAV:LpG T P264_j6 (bZU N (R:=R)) [3,4,5,7,8,9,10,11,12] cBY:=lpk (bXP N) 1042424354 (H:=bZV) (Lp:=(bZ8 N)) (hl:=(aAi (l:=[(16678789666,[3,5,10,11],cBu)]) (by kernel_rfl) ⟨(aAf (cAR N 1)),trivial⟩))
def cAh:LpS R:=aCc (bZ8 N) 1042424354 (aAx P264_j6 (bZU N 1))
def bW8 (k0:Bool->Option R)(b0 b1:List Int)(b2:Int)(b3:List Int)(b4 b5:Int)(b6:ByteArray)(b7:zt7)(b8:zt1)(b9:zt2)(b10:zt0)(b11:zt7)(b12:zt6)(b13:Int)(b14 b15 b16:List Int):Option R:=(bif decide (b5≠0)then (bif decide (b2≠b5)then (k0 false)else (bif decide ((w64 (((b0.length:Nat):Int)+((b1.length:Nat):Int)))≠0)then (k0 false)else (bXe N k0 b0 b1 b2 b3 b4 b5 b6 b7 b8 b9 b10 b11 b12 b13 b14 b15 b16)))else (bXe N k0 b0 b1 b2 b3 b4 b5 b6 b7 b8 b9 b10 b11 b12 b13 b14 b15 b16))
def P264_j5:SP:=⟨[(3,.ptr 0 0),(4,.ptr 1 0),(5,.ptr 2 0),(7,pL [hI]),(8,pL [hI]),(9,pI),(10,pL [hI]),(11,pI),(12,pI)],[(0,.box zb2),(1,.box [pI,pL [hI]]),(2,.box [pL [hI],pL [hI]])]⟩
def bZt:Nat->P264_j5.den->KS R->Option R:=jS P264_j5 fun k=>bW8 N (qS k .ret ⟨[(6,pB)],[]⟩)
theorem cBg:LpG T P264_j5 (bZt N (R:=R)) [3,4,5,7,8,9,10,11,12] cBr:=lpk (bXP N) 65151522 (H:=bZV) (Lp:=(cAh N)) (hl:=(aAi (l:=[(1042424354,[3,4,5,7,8,9,10,11,12],cBY)]) (by kernel_rfl) ⟨(aAf (cAV N 1)),trivial⟩))
def bZ5:LpS R:=aCc (cAh N) 65151522 (aAx P264_j5 (bZt N 1))
def bXm (k0:Bool->Option R)(b0 b1:List Int)(b2:Int)(b3:List Int)(b4 b5:Int)(b6:ByteArray)(b7:zt7)(b8:zt1)(b9:zt2)(b10:zt0)(b11:zt7)(b12:zt6)(b13:Int)(b14 b15 b16:List Int):Option R:=(bif decide (b5=0)then (bXc N b6 b7 b8 b9 b10 b11 b12 b16 (fun y1=>(bW8 N k0 b0 b1 b2 b3 b4 y1 b6 b7 b8 b9 b10 b11 b12 b13 b14 b15 b16)))else (bW8 N k0 b0 b1 b2 b3 b4 b5 b6 b7 b8 b9 b10 b11 b12 b13 b14 b15 b16))
def P264_j4:SP:=⟨[(3,.ptr 0 0),(4,.ptr 1 0),(5,.ptr 2 0),(7,pL [hI]),(8,pL [hI]),(9,pI),(10,pL [hI]),(11,pI),(12,pI)],[(0,.box zb2),(1,.box [pI,pL [hI]]),(2,.box [pL [hI],pL [hI]])]⟩
def bZn:Nat->P264_j4.den->KS R->Option R:=jS P264_j4 fun k=>bXm N (qS k .ret ⟨[(6,pB)],[]⟩)
theorem cAA:LpG T P264_j4 (bZn N (R:=R)) [3,4,5,7,8,9,10,11,12] cBZ:=lpk (bXP N) 4071970 (H:=bZV) (Lp:=(bZ5 N)) (hl:=(aAi (l:=[(65151522,[3,4,5,7,8,9,10,11,12],cBr)]) (by kernel_rfl) ⟨(aAf (cBg N 1)),trivial⟩))
def cAe:LpS R:=aCc (bZ5 N) 4071970 (aAx P264_j4 (bZn N 1))
def bXo (k0:Bool->Option R)(b0 b1:List Int)(b2:Int)(b3:List Int)(b4:Int)(b5:ByteArray)(b6:zt7)(b7:zt1)(b8:zt2)(b9:zt0)(b10:zt7)(b11:zt6)(b12:Int)(b13 b14 b15:List Int):Option R:=(bXw N b5 b6 b7 b8 b9 b10 b11 b12 b13 (fun y1=>(bXm N k0 b0 b1 b2 b3 b4 y1 b5 b6 b7 b8 b9 b10 b11 b12 b13 b14 b15)))
def P264_j3:SP:=⟨[(3,.ptr 0 0),(4,.ptr 1 0),(5,.ptr 2 0),(7,pL [hI]),(8,pL [hI]),(9,pI),(10,pL [hI]),(11,pI)],[(0,.box zb2),(1,.box [pI,pL [hI]]),(2,.box [pL [hI],pL [hI]])]⟩
def bY4:Nat->P264_j3.den->KS R->Option R:=jS P264_j3 fun k=>bXo N (qS k .ret ⟨[(6,pB)],[]⟩)
theorem cAY:LpG T P264_j3 (bY4 N (R:=R)) [3,4,5,7,8,9,10,11] cBq:=lpk (bXP N) 254498 (H:=bZV) (Lp:=(cAe N)) (hl:=(aAi (l:=[(4071970,[3,4,5,7,8,9,10,11,12],cBZ)]) (by kernel_rfl) ⟨(aAf (cAA N 1)),trivial⟩))
def cAv:LpS R:=aCc (cAe N) 254498 (aAx P264_j3 (bY4 N 1))
def bWW (k0:Bool->Option R)(b0 b1:List Int)(b2:Int)(b3:List Int)(b4 b5:Int)(b6:ByteArray)(b7:zt7)(b8:zt1)(b9:zt2)(b10:zt0)(b11:zt7)(b12:zt6)(b13:Int)(b14 b15 b16:List Int):Option R:=(bif decide (b5≠0)then (bif decide (b2=b5)then (bif decide (b4=b5)then (k0 (decide ((w64 ((w64 (((b0.length:Nat):Int)+((b1.length:Nat):Int)))+((b3.length:Nat):Int)))=0)))else (k0 false))else (k0 false))else (bXo N k0 b0 b1 b2 b3 b4 b6 b7 b8 b9 b10 b11 b12 b13 b14 b15 b16))
def P264_j2:SP:=⟨[(3,.ptr 0 0),(4,.ptr 1 0),(5,.ptr 2 0),(7,pL [hI]),(8,pL [hI]),(9,pI),(10,pL [hI]),(11,pI),(12,pI)],[(0,.box zb2),(1,.box [pI,pL [hI]]),(2,.box [pL [hI],pL [hI]])]⟩
def bZa:Nat->P264_j2.den->KS R->Option R:=jS P264_j2 fun k=>bWW N (qS k .ret ⟨[(6,pB)],[]⟩)
theorem cAz:LpG T P264_j2 (bZa N (R:=R)) [3,4,5,7,8,9,10,11,12] cBo:=lpk (bXP N) 15906 (H:=bZV) (Lp:=(cAv N)) (hl:=(aAi (l:=[(254498,[3,4,5,7,8,9,10,11],cBq)]) (by kernel_rfl) ⟨(aAf (cAY N 1)),trivial⟩))
def cAr:LpS R:=aCc (cAv N) 15906 (aAx P264_j2 (bZa N 1))
def bXn (k0:Bool->Option R)(b0 b1:List Int)(b2:Int)(b3:List Int)(b4:Int)(b5:ByteArray)(b6:zt7)(b7:zt1)(b8:zt2)(b9:zt0)(b10:zt7)(b11:zt6)(b12:Int)(b13 b14 b15:List Int):Option R:=(aDd N b5 b6 b7 b8 b9 b10 b11 (fun y1=>(bWW N k0 b0 b1 b2 b3 b4 y1 b5 b6 b7 b8 b9 b10 b11 b12 b13 b14 b15)))
def P264_j1:SP:=⟨[(3,.ptr 0 0),(4,.ptr 1 0),(5,.ptr 2 0),(7,pL [hI]),(8,pL [hI]),(9,pI),(10,pL [hI]),(11,pI)],[(0,.box zb2),(1,.box [pI,pL [hI]]),(2,.box [pL [hI],pL [hI]])]⟩
def bZm:Nat->P264_j1.den->KS R->Option R:=jS P264_j1 fun k=>bXn N (qS k .ret ⟨[(6,pB)],[]⟩)
theorem cA9:LpG T P264_j1 (bZm N (R:=R)) [3,4,5,7,8,9,10,11] cBI:=lpk (bXP N) 994 (H:=bZV) (Lp:=(cAr N)) (hl:=(aAi (l:=[(15906,[3,4,5,7,8,9,10,11,12],cBo)]) (by kernel_rfl) ⟨(aAf (cAz N 1)),trivial⟩))
def cAt:LpS R:=aCc (cAr N) 994 (aAx P264_j1 (bZm N 1))
def bXf (k0:Bool->Option R)(b0 b1:List Int)(b2:Int)(b3:ByteArray)(b4:zt7)(b5:zt1)(b6:zt2)(b7:zt0)(b8:zt7)(b9:zt6)(b10:Int)(b11 b12 b13:List Int):Option R:=(aA6 N b3 b4 b5 b6 b7 b8 b9 (fun y1 y2 y3 y4 y5 y6 y7=>(aCX N b12 (fun y8=>(aCX N b13 (fun y9=>(bXD N y1 y2 y3 y4 y5 y6 y7 y8 y9 (fun y10 y11=>(bXn N k0 b0 b1 b2 y10 y11 b3 b4 b5 b6 b7 b8 b9 b10 b11 b12 b13)))))))))
def P264_j0:SP:=⟨[(3,.ptr 0 0),(4,.ptr 1 0),(5,.ptr 2 0),(7,pL [hI]),(8,pL [hI]),(9,pI)],[(0,.box zb2),(1,.box [pI,pL [hI]]),(2,.box [pL [hI],pL [hI]])]⟩
def bZk:Nat->P264_j0.den->KS R->Option R:=jS P264_j0 fun k=>bXf N (qS k .ret ⟨[(6,pB)],[]⟩)
theorem cBb:LpG T P264_j0 (bZk N (R:=R)) [3,4,5,7,8,9] cB0:=lpk (bXP N) 62 (H:=bZV) (Lp:=(cAt N)) (hl:=(aAi (l:=[(994,[3,4,5,7,8,9,10,11],cBI)]) (by kernel_rfl) ⟨(aAf (cA9 N 1)),trivial⟩))
def cBB:LpS R:=aCc (cAt N) 62 (aAx P264_j0 (bZk N 1))
def bXb (a0:ByteArray)(a1:zt7)(a2:zt1)(a3:zt2)(a4:zt0)(a5:zt7)(a6:zt6)(a7:Int)(a8 a9 a10:List Int)(k0:Bool->Option R):Option R:=(aFB N (fun y1=>(bif (!y1)then (k0 false)else (aDs N a0 a1 a2 a3 a4 a5 a6 (fun y2=>(bif (!y2)then (k0 true)else (bif decide (8<((a8.length:Nat):Int))then (k0 true)else (bif decide (14<((a9.length:Nat):Int))then (k0 true)else (bif decide (14<((a10.length:Nat):Int))then (k0 true)else (aA6 N a0 a1 a2 a3 a4 a5 a6 (fun y3 y4 y5 y6 y7 y8 y9=>(aCX N a8 (fun y10=>(aCX N a10 (fun y11=>(bXN N y3 y4 y5 y6 y7 y8 y9 a7 y10 y11 (fun y12 y13 y14=>(bXf N k0 y12 y13 y14 a0 a1 a2 a3 a4 a5 a6 a7 a8 a9 a10))))))))))))))))))
def cCz:CfS R:=u1 (cCr N) 8 ⟨[.agg zb2,.agg [pI,pL [hI]],.agg [pL [hI],pL [hI]]],[]⟩ ⟨[pB],[]⟩ (bXb N)
theorem cAS:FOK (cCz N:CfS R) (aAo T):=uCk (bXP N) c8 (H:=bZV) (Lp:=(cBB N)) (hl:=(aAi (l:=[(62,[3,4,5,7,8,9],cB0)]) (by kernel_rfl) ⟨(aAf (cBb N 1)),trivial⟩))
end
def bXM:Prop:=∀ (x0:ByteArray×(List (ByteArray×Int))×(List (ByteArray×Int×Int×Int×Int))×(List (Int×Int×(List Int)×Int))×(List (ByteArray×Int×(List (Int×Int×Int))))×(List (ByteArray×Int))×(List (Int×(List Int)))) (x1:Int×(List Int)) (x2:(List Int)×(List Int)),okL [.s,.sl [.s,hI],.sl [.s,hI,hI,hI,hI],.sl [hI,hI,.sl [hI],hI],.sl [.s,hI,.sl [hI,hI,hI]],.sl [.s,hI],.sl [hI,.sl [hI]]] x0->okL [hI,.sl [hI]] x1->okL [.sl [hI],.sl [hI]] x2->∃ N,∀ {R:Type} (k:Bool->Option R),bXb N x0.1 x0.2.1 x0.2.2.1 x0.2.2.2.1 x0.2.2.2.2.1 x0.2.2.2.2.2.1 x0.2.2.2.2.2.2 x1.1 x1.2 x2.1 x2.2 k=k true
end Am
end Go.Proofs.YtkmbhgggpfbffaaGreatDoor
