/- Each function that is reached as a function on plain data, and that the version comes to it. -/
import Derived.Test.YtkmbhgggpfbffaaGreatDoorCFF0
set_option linter.unusedVariables false
set_option linter.unusedSimpArgs false
set_option linter.constructorNameAsVariable false
set_option maxRecDepth 100000
namespace Go.Proofs.YtkmbhgggpfbffaaGreatDoor
namespace Am
noncomputable section
variable (N:Nat) {R:Type}
def aHe (a0 a1:Int)(a2:List (Int×Int))(k0:zk3 (Int->Option R)):Option R:=(aIt N a0 a1 (fun y1 y2 y3 y4 y5 y6 y7=>(bif decide (y7≠0)then (k0 [] [] y7)else (aHV N a2 a1 (fun y8=>(bif decide (y8≠0)then (k0 [] [] y8)else (bif decide (a0<0)then none else (aEp N y1 y2 y3 y4 y5 y6 [] a2 (aPi .i64 1 a0) (fun y9 y10 y11 y12=>(k0 y9 y10 y11))))))))))
def bSY:CfS R:=u1 (bTx N) 26 ⟨[.agg [pI,pI],pL [hI,hI]],[]⟩ ⟨[pL [hI],pL [hI],pI],[]⟩ (aHe N)
theorem aUy:FOK (bSY N:CfS R) (aAo T):=uCk (bDY N) c26 (rp:=[⟨[pL [hI],pL [hI],pI],[]⟩])
def aCA (N:Nat)(k0:Bool->Option R)(k1:Option R):Nat->zk3 (Int->Option R)
 | 0,_,_,_=>none
 | n+1,b0,b1,b2=>(bif decide (b2<((b0.length:Nat):Int))then ((at? b0 b2).bind fun x1=>((at? b1 b2).bind fun x2=>(bif decide (x1≠x2)then (k0 false)else (aCA N k0 k1 n b0 b1 (w64 (b2+1))))))else k1)
def P212_l0:SP:=⟨[(0,pL [hI]),(1,pL [hI]),(5,pI)],[]⟩
def aVT:Nat->P212_l0.den->KS R->Option R:=eS P212_l0 fun k=>aCA N (qS k .ret ⟨[(4,pB)],[]⟩) (qS k (.ex 0) ⟨[],[]⟩)
theorem bBP:LpG T P212_l0 (aVT N (R:=R)) [0,1,5] aZh:=lpk (aUy N) 58
def bHp:LpS R:=aCc noL 58 (aAx P212_l0 (aVT N N))
def aCr (a0 a1:List Int)(k0:Bool->Option R):Option R:=(bif decide (((a0.length:Nat):Int)≠((a1.length:Nat):Int))then (k0 false)else (aCA N k0 (k0 true) N a0 a1 0))
def bRR:CfS R:=u1 (bSY N) 23 ⟨[pL [hI],pL [hI]],[]⟩ ⟨[pB],[]⟩ (aCr N)
theorem aWv:FOK (bRR N:CfS R) (aAo T):=uCk (aUy N) c23 (Lp:=(bHp N)) (hl:=(aAi (l:=[(58,[0,1,5],aZh)]) (by kernel_rfl) ⟨(aAf (bBP N N)),trivial⟩))
def aE1 (k0:Bool->Option R)(k1:Option R):Nat->List (List Int)->List (List Int)->Int->Option R
 | 0,_,_,_=>none
 | n+1,b0,b1,b2=>(bif decide (b2<((b0.length:Nat):Int))then ((at? b0 b2).bind fun x1=>((at? b1 b2).bind fun x2=>(aCr N x1 x2 (fun y3=>(bif (!y3)then (k0 false)else (aE1 k0 k1 n b0 b1 (w64 (b2+1))))))))else k1)
def P213_l0:SP:=⟨[(0,pL zs6),(1,pL zs6),(5,pI)],[]⟩
def aW4:Nat->P213_l0.den->KS R->Option R:=eS P213_l0 fun k=>aE1 N (qS k .ret ⟨[(4,pB)],[]⟩) (qS k (.ex 0) ⟨[],[]⟩)
theorem bFw:LpG T P213_l0 (aW4 N (R:=R)) [0,1,5] aZn:=lpk (aWv N) 58
def bI6:LpS R:=aCc noL 58 (aAx P213_l0 (aW4 N N))
def aHt (a0 a1:List (List Int))(k0:Bool->Option R):Option R:=(bif decide (((a0.length:Nat):Int)≠((a1.length:Nat):Int))then (k0 false)else (aE1 N k0 (k0 true) N a0 a1 0))
def bQt:CfS R:=u1 (bRR N) 68 ⟨[pL zs6,pL zs6],[]⟩ ⟨[pB],[]⟩ (aHt N)
theorem aJD:FOK (bQt N:CfS R) (aAo T):=uCk (aWv N) c68 (Lp:=(bI6 N)) (hl:=(aAi (l:=[(58,[0,1,5],aZn)]) (by kernel_rfl) ⟨(aAf (bFw N N)),trivial⟩))
def bGt:Nat->Option (List Sh):=fun n=>if n=34000 then some [hI]else if n=43000 then some [hI,.sl [hI]]else if n=57000 then some [hI,hI]else if n=70000 then some [hI]else if n=95000 then some [hI]else if n=96000 then some [hI]else if n=97000 then some [hI]else if n=98000 then some [hI]else if n=99000 then some [.sl [hI]]else if n=108000 then some [hI]else if n=113000 then some [hI]else none
def aGi (k0:Bool->Option R)(b0:List Int)(b1:Int)(b2:zt8)(b3:Int)(b4:List (List Int))(b5:Int)(b6 b7:List Int)(b8:Int):Option R:=(bif decide (b1=0)then (aCr N b0 [0,1] (fun y1=>(bif y1 then (bif decide (b3=0)then (bif decide (((b2.length:Nat):Int)=1)then ((at? b2 0).bind fun x2=>(bif (false != (decide (x2.1=0)&&(decide (x2.2.1=1)&&(decide (x2.2.2=2)&&true))))then (bif decide (b5=0)then (aHt N b4 [[0,0,0],[1,0,0],[1,1,0],[1,1,1]] (fun y3=>(bif y3 then (bif decide (b8=0)then (aCr N b6 [5,6] (fun y4=>(bif y4 then (aCr N b7 [5] k0)else (k0 false))))else (k0 false))else (k0 false))))else (k0 false))else (k0 false)))else (k0 false))else (k0 false))else (k0 false))))else (k0 false))
def P214_j4:SP:=⟨[(3,pL [hI]),(4,pI),(5,pL zs5),(6,pI),(8,pL zs6),(9,pI),(10,pL [hI]),(11,pL [hI]),(12,pI)],[]⟩
def aXk:Nat->P214_j4.den->KS R->Option R:=jS P214_j4 fun k=>aGi N (qS k .ret ⟨[(0,pB)],[]⟩)
theorem bED:LpG T P214_j4 (aXk N (R:=R)) [3,4,5,6,8,9,10,11,12] aZw:=lpk (aJD N) 4071970 (H:=bGt)
def bAY:LpS R:=aCc noL 4071970 (aAx P214_j4 (aXk N 1))
def aGj (k0:Bool->Option R)(b0:List Int)(b1:Int)(b2:zt8)(b3:Int)(b4:List (List Int))(b5:Int):Option R:=(aHe N 1 4 [(0,5),(0,6),(0,7),(1,1),(1,1),(1,1)] (fun y1 y2 y3=>(aGi N k0 b0 b1 b2 b3 b4 b5 y1 y2 y3)))
def P214_j3:SP:=⟨[(3,pL [hI]),(4,pI),(5,pL zs5),(6,pI),(8,pL zs6),(9,pI)],[]⟩
def aXj:Nat->P214_j3.den->KS R->Option R:=jS P214_j3 fun k=>aGj N (qS k .ret ⟨[(0,pB)],[]⟩)
theorem bC1:LpG T P214_j3 (aXj N (R:=R)) [3,4,5,6,8,9] bBs:=lpk (aJD N) 254498 (H:=bGt) (Lp:=(bAY N)) (hl:=(aAi (l:=[(4071970,[3,4,5,6,8,9,10,11,12],aZw)]) (by kernel_rfl) ⟨(aAf (bED N 1)),trivial⟩))
def bAP:LpS R:=aCc (bAY N) 254498 (aAx P214_j3 (aXj N 1))
def aGo (k0:Bool->Option R)(b0:List Int)(b1:Int)(b2:zt8)(b3:Int)(b4:ByteArray)(b5:zt7)(b6:zt1)(b7:zt2)(b8:zt0)(b9:zt7)(b10:List Int):Option R:=(aKg N b4 b5 b6 b7 b8 b9 [] [(0,b10),(1,b10),(1,b10)] (fun y1 y2=>(aGj N k0 b0 b1 b2 b3 y1 y2)))
def P214_j2:SP:=⟨[(1,.ptr 0 0),(3,pL [hI]),(4,pI),(5,pL zs5),(6,pI),(7,.own 1)],[(0,.box zb6),(1,.arr [hI])]⟩
def aTF:Nat->P214_j2.den->KS R->Option R:=jS P214_j2 fun k=>aGo N (qS k .ret ⟨[(0,pB)],[]⟩)
theorem bCO:LpG T P214_j2 (aTF N (R:=R)) [1,3,4,5,6,7] aZW:=lpk (aJD N) 15906 (H:=bGt) (Lp:=(bAP N)) (hl:=(aAi (l:=[(254498,[3,4,5,6,8,9],bBs)]) (by kernel_rfl) ⟨(aAf (bC1 N 1)),trivial⟩))
def bAQ:LpS R:=aCc (bAP N) 15906 (aAx P214_j2 (aTF N 1))
def aGe (k0:Bool->Option R)(b0:List Int)(b1:Int)(b2:zt8)(b3:Int)(b4:ByteArray)(b5:zt7)(b6:zt1)(b7:zt2)(b8:zt0)(b9:zt7):Option R:=(aGo N k0 b0 b1 b2 b3 b4 b5 b6 b7 b8 b9 [1])
def P214_j1:SP:=⟨[(1,.ptr 0 0),(3,pL [hI]),(4,pI),(5,pL zs5),(6,pI)],[(0,.box zb6)]⟩
def aWY:Nat->P214_j1.den->KS R->Option R:=jS P214_j1 fun k=>aGe N (qS k .ret ⟨[(0,pB)],[]⟩)
theorem bEF:LpG T P214_j1 (aWY N (R:=R)) [1,3,4,5,6] aZt:=lpk (aJD N) 994 (H:=bGt) (Lp:=(bAQ N)) (hl:=(aAi (l:=[(15906,[1,3,4,5,6,7],aZW)]) (by kernel_rfl) ⟨(aAf (bCO N 1)),trivial⟩))
def bAf:LpS R:=aCc (bAQ N) 994 (aAx P214_j1 (aWY N 1))
def aGl (k0:Bool->Option R)(b0:List Int)(b1:Int)(b2:ByteArray)(b3:zt7)(b4:zt1)(b5:zt2)(b6:zt0)(b7:zt7):Option R:=(aA6 N b2 b3 b4 b5 b6 b7 [] (fun y1 y2 y3 y4 y5 y6 y7=>(aIB N y1 y2 y3 y4 y5 y6 y7 (fun y8 y9=>(aGe N k0 b0 b1 y8 y9 b2 b3 b4 b5 b6 b7)))))
def P214_j0:SP:=⟨[(1,.ptr 0 0),(3,pL [hI]),(4,pI)],[(0,.box zb6)]⟩
def aXd:Nat->P214_j0.den->KS R->Option R:=jS P214_j0 fun k=>aGl N (qS k .ret ⟨[(0,pB)],[]⟩)
theorem bGj:LpG T P214_j0 (aXd N (R:=R)) [1,3,4] aZ9:=lpk (aJD N) 62 (H:=bGt) (Lp:=(bAf N)) (hl:=(aAi (l:=[(994,[1,3,4,5,6],aZt)]) (by kernel_rfl) ⟨(aAf (bEF N 1)),trivial⟩))
def bIp:LpS R:=aCc (bAf N) 62 (aAx P214_j0 (aXd N 1))
def aFB (k0:Bool->Option R):Option R:=(aIy N 2 (fun y1 y2 y3 y4 y5 y6 y7=>(bif decide (y7≠0)then (k0 false)else (bif decide (((y5.length:Nat):Int)≠2)then (k0 false)else (aA6 N y1 y2 y3 y4 y5 y6 [] (fun y8 y9 y10 y11 y12 y13 y14=>(aDm N y8 y9 y10 y11 y12 y13 y14 (fun y15 y16=>(aGl N k0 y15 y16 y1 y2 y3 y4 y5 y6)))))))))
def bTi:CfS R:=u1 (bQt N) 12 ⟨[],[]⟩ ⟨[pB],[]⟩ (aFB N)
theorem aND:FOK (bTi N:CfS R) (aAo T):=uCk (aJD N) c12 (H:=bGt) (Lp:=(bIp N)) (hl:=(aAi (l:=[(62,[1,3,4],aZ9)]) (by kernel_rfl) ⟨(aAf (bGj N 1)),trivial⟩))
def aAz (N:Nat)(a0 a1 a2:Int)(k0:Bool->Option R):Option R:=(bif decide (a1<=a0)then (k0 (decide (a0<=a2)))else (k0 false))
def bQ7:CfS R:=u1 (bTi N) 14 ⟨[pI,pI,pI],[]⟩ ⟨[pB],[]⟩ (aAz N)
theorem bBH:FOK (bQ7 N:CfS R) (aAo T):=uCk (aND N) c14
def bXy (N:Nat)(k0:Bool->Option R)(k1:Option R):Nat->zt7->zt7->Int->Option R
 | 0,_,_,_=>none
 | n+1,b0,b1,b2=>(bif decide (b2<((b0.length:Nat):Int))then ((at? b0 b2).bind fun x1=>((at? b1 b2).bind fun x2=>(bif (true != (decide (x1.1=x2.1)&&(decide (x1.2=x2.2)&&true)))then (k0 false)else (bXy N k0 k1 n b0 b1 (w64 (b2+1))))))else k1)
def P216_l0:SP:=⟨[(0,pL [.s,hI]),(1,pL [.s,hI]),(5,pI)],[]⟩
def bYM:Nat->P216_l0.den->KS R->Option R:=eS P216_l0 fun k=>bXy N (qS k .ret ⟨[(4,pB)],[]⟩) (qS k (.ex 0) ⟨[],[]⟩)
theorem cBb:LpG T P216_l0 (bYM N (R:=R)) [0,1,5] cAJ:=lpk (bBH N) 58
def cCb:LpS R:=aCc noL 58 (aAx P216_l0 (bYM N N))
def bXI (a0 a1:zt7)(k0:Bool->Option R):Option R:=(bif decide (((a0.length:Nat):Int)≠((a1.length:Nat):Int))then (k0 false)else (bXy N k0 (k0 true) N a0 a1 0))
def bSm:CfS R:=u1 (bQ7 N) 80 ⟨[pL [.s,hI],pL [.s,hI]],[]⟩ ⟨[pB],[]⟩ (bXI N)
theorem aUS:FOK (bSm N:CfS R) (aAo T):=uCk (bBH N) c80 (Lp:=(cCb N)) (hl:=(aAi (l:=[(58,[0,1,5],cAJ)]) (by kernel_rfl) ⟨(aAf (cBb N N)),trivial⟩))
def bXx (k0:Bool->Option R)(k1:Option R):Nat->zt2->zt2->Int->Option R
 | 0,_,_,_=>none
 | n+1,b0,b1,b2=>(bif decide (b2<((b0.length:Nat):Int))then ((at? b0 b2).bind fun x1=>((at? b1 b2).bind fun x2=>(bif decide (x1.1≠x2.1)then (k0 false)else ((at? b0 b2).bind fun x3=>((at? b1 b2).bind fun x4=>(bif decide (x3.2.1≠x4.2.1)then (k0 false)else ((at? b0 b2).bind fun x5=>((at? b1 b2).bind fun x6=>(bif decide (x5.2.2.2≠x6.2.2.2)then (k0 false)else ((at? b0 b2).bind fun x7=>((at? b1 b2).bind fun x8=>(aCr N x7.2.2.1 x8.2.2.1 (fun y9=>(bif (!y9)then (k0 false)else (bXx k0 k1 n b0 b1 (w64 (b2+1)))))))))))))))))else k1)
def P217_l0:SP:=⟨[(0,pL zs1),(1,pL zs1),(5,pI)],[]⟩
def aXm:Nat->P217_l0.den->KS R->Option R:=eS P217_l0 fun k=>bXx N (qS k .ret ⟨[(4,pB)],[]⟩) (qS k (.ex 0) ⟨[],[]⟩)
theorem bCY:LpG T P217_l0 (aXm N (R:=R)) [0,1,5] cAK:=lpk (aUS N) 58
def bJO:LpS R:=aCc noL 58 (aAx P217_l0 (aXm N N))
def bXV (a0 a1:zt2)(k0:Bool->Option R):Option R:=(bif decide (((a0.length:Nat):Int)≠((a1.length:Nat):Int))then (k0 false)else (bXx N k0 (k0 true) N a0 a1 0))
def bTn:CfS R:=u1 (bSm N) 81 ⟨[pL zs1,pL zs1],[]⟩ ⟨[pB],[]⟩ (bXV N)
theorem aPJ:FOK (bTn N:CfS R) (aAo T):=uCk (aUS N) c81 (Lp:=(bJO N)) (hl:=(aAi (l:=[(58,[0,1,5],cAK)]) (by kernel_rfl) ⟨(aAf (bCY N N)),trivial⟩))
def bXm (N:Nat)(k0:Bool->Option R)(k1:Option R):Nat->zt7->zt7->Int->Option R
 | 0,_,_,_=>none
 | n+1,b0,b1,b2=>(bif decide (b2<((b0.length:Nat):Int))then ((at? b0 b2).bind fun x1=>((at? b1 b2).bind fun x2=>(bif (true != (decide (x1.1=x2.1)&&(decide (x1.2=x2.2)&&true)))then (k0 false)else (bXm N k0 k1 n b0 b1 (w64 (b2+1))))))else k1)
def P218_l0:SP:=⟨[(0,pL [.s,hI]),(1,pL [.s,hI]),(5,pI)],[]⟩
def aW3:Nat->P218_l0.den->KS R->Option R:=eS P218_l0 fun k=>bXm N (qS k .ret ⟨[(4,pB)],[]⟩) (qS k (.ex 0) ⟨[],[]⟩)
theorem bCW:LpG T P218_l0 (aW3 N (R:=R)) [0,1,5] cAL:=lpk (aPJ N) 58
def bA4:LpS R:=aCc noL 58 (aAx P218_l0 (aW3 N N))
def bXR (a0 a1:zt7)(k0:Bool->Option R):Option R:=(bif decide (((a0.length:Nat):Int)≠((a1.length:Nat):Int))then (k0 false)else (bXm N k0 (k0 true) N a0 a1 0))
def bTt:CfS R:=u1 (bTn N) 82 ⟨[pL [.s,hI],pL [.s,hI]],[]⟩ ⟨[pB],[]⟩ (bXR N)
theorem bBV:FOK (bTt N:CfS R) (aAo T):=uCk (aPJ N) c82 (Lp:=(bA4 N)) (hl:=(aAi (l:=[(58,[0,1,5],cAL)]) (by kernel_rfl) ⟨(aAf (bCW N N)),trivial⟩))
def bXs (N:Nat)(k0:Bool->Option R)(k1:Option R):Nat->zt8->zt8->Int->Option R
 | 0,_,_,_=>none
 | n+1,b0,b1,b2=>(bif decide (b2<((b0.length:Nat):Int))then ((at? b0 b2).bind fun x1=>((at? b1 b2).bind fun x2=>(bif (true != (decide (x1.1=x2.1)&&(decide (x1.2.1=x2.2.1)&&(decide (x1.2.2=x2.2.2)&&true))))then (k0 false)else (bXs N k0 k1 n b0 b1 (w64 (b2+1))))))else k1)
def P219_l0:SP:=⟨[(0,pL zs5),(1,pL zs5),(5,pI)],[]⟩
def bYN:Nat->P219_l0.den->KS R->Option R:=eS P219_l0 fun k=>bXs N (qS k .ret ⟨[(4,pB)],[]⟩) (qS k (.ex 0) ⟨[],[]⟩)
theorem cBc:LpG T P219_l0 (bYN N (R:=R)) [0,1,5] cAM:=lpk (bBV N) 58
def cCc:LpS R:=aCc noL 58 (aAx P219_l0 (bYN N N))
def bXU (a0 a1:zt8)(k0:Bool->Option R):Option R:=(bif decide (((a0.length:Nat):Int)≠((a1.length:Nat):Int))then (k0 false)else (bXs N k0 (k0 true) N a0 a1 0))
def bQJ:CfS R:=u1 (bTt N) 83 ⟨[pL zs5,pL zs5],[]⟩ ⟨[pB],[]⟩ (bXU N)
theorem aP9:FOK (bQJ N:CfS R) (aAo T):=uCk (bBV N) c83 (Lp:=(cCc N)) (hl:=(aAi (l:=[(58,[0,1,5],cAM)]) (by kernel_rfl) ⟨(aAf (cBc N N)),trivial⟩))
def bXp (N:Nat)(k0:Bool->Option R)(k1:zk0 (zk0 (Option R))):Nat->Int->zk0 (zk0 (Option R))
 | 0,_,_,_,_,_,_,_,_,_,_,_,_,_,_,_=>none
 | n+1,b0,b1,b2,b3,b4,b5,b6,b7,b8,b9,b10,b11,b12,b13,b14=>(bif decide (b0<((b3.length:Nat):Int))then ((at? b3 b0).bind fun x1=>((at? b10 b0).bind fun x2=>(bif (true != (decide (x1.1=x2.1)&&(decide (x1.2.1=x2.2.1)&&(decide (x1.2.2.1=x2.2.2.1)&&(decide (x1.2.2.2.1=x2.2.2.2.1)&&(decide (x1.2.2.2.2=x2.2.2.2.2)&&true))))))then (k0 false)else (bXp N k0 k1 n (w64 (b0+1)) b1 b2 b3 b4 b5 b6 b7 b8 b9 b10 b11 b12 b13 b14))))else (k1 b1 b2 b3 b4 b5 b6 b7 b8 b9 b10 b11 b12 b13 b14))
def P220_l0:SP:=⟨[(2,.ptr 0 0),(3,.ptr 1 0),(5,pI)],[(0,.box zb2),(1,.box zb2)]⟩
def aSQ:Nat->P220_l0.den->KS R->Option R:=eS P220_l0 fun k=>bXp N (qS k .ret ⟨[(4,pB)],[]⟩) (qS k (.ex 0) ⟨[(2,.ptr 0 0),(3,.ptr 1 0)],[(0,.box zb2),(1,.box zb2)]⟩)
theorem bCr:LpG T P220_l0 (aSQ N (R:=R)) [2,3,5] cAu:=lpk (aP9 N) 58
def aZK:LpS R:=aCc noL 58 (aAx P220_l0 (aSQ N N))
def bXq (k0:Bool->Option R)(k1:zk0 (zk0 (Option R))):Nat->Int->zk0 (zk0 (Option R))
 | 0,_,_,_,_,_,_,_,_,_,_,_,_,_,_,_=>none
 | n+1,b0,b1,b2,b3,b4,b5,b6,b7,b8,b9,b10,b11,b12,b13,b14=>(bif decide (b0<((b5.length:Nat):Int))then ((at? b5 b0).bind fun x1=>((at? b12 b0).bind fun x2=>(bif decide (x1.1≠x2.1)then (k0 false)else ((at? b5 b0).bind fun x3=>((at? b12 b0).bind fun x4=>(bif decide (x3.2.1≠x4.2.1)then (k0 false)else ((at? b5 b0).bind fun x5=>((at? b12 b0).bind fun x6=>(bXU N x5.2.2 x6.2.2 (fun y7=>(bif (!y7)then (k0 false)else (bXq k0 k1 n (w64 (b0+1)) b1 b2 b3 b4 b5 b6 b7 b8 b9 b10 b11 b12 b13 b14))))))))))))else (k1 b1 b2 b3 b4 b5 b6 b7 b8 b9 b10 b11 b12 b13 b14))
def P220_l1:SP:=⟨[(2,.ptr 0 0),(3,.ptr 1 0),(6,pI)],[(0,.box zb2),(1,.box zb2)]⟩
def bYO:Nat->P220_l1.den->KS R->Option R:=eS P220_l1 fun k=>bXq N (qS k .ret ⟨[(4,pB)],[]⟩) (qS k (.ex 2) ⟨[(2,.ptr 0 0),(3,.ptr 1 0)],[(0,.box zb2),(1,.box zb2)]⟩)
theorem cBd:LpG T P220_l1 (bYO N (R:=R)) [2,3,6] cAv:=lpk (aP9 N) 122 (Lp:=(aZK N))
def bIY:LpS R:=aCc (aZK N) 122 (aAx P220_l1 (bYO N N))
def bXr (k0:Bool->Option R)(k1:Option R):Nat->Int->zk0 (zk0 (Option R))
 | 0,_,_,_,_,_,_,_,_,_,_,_,_,_,_,_=>none
 | n+1,b0,b1,b2,b3,b4,b5,b6,b7,b8,b9,b10,b11,b12,b13,b14=>(bif decide (b0<((b7.length:Nat):Int))then ((at? b7 b0).bind fun x1=>((at? b14 b0).bind fun x2=>(bif decide (x1.1≠x2.1)then (k0 false)else ((at? b7 b0).bind fun x3=>((at? b14 b0).bind fun x4=>(aCr N x3.2 x4.2 (fun y5=>(bif (!y5)then (k0 false)else (bXr k0 k1 n (w64 (b0+1)) b1 b2 b3 b4 b5 b6 b7 b8 b9 b10 b11 b12 b13 b14)))))))))else k1)
def P220_l2:SP:=⟨[(2,.ptr 0 0),(3,.ptr 1 0),(7,pI)],[(0,.box zb2),(1,.box zb2)]⟩
def bYP:Nat->P220_l2.den->KS R->Option R:=eS P220_l2 fun k=>bXr N (qS k .ret ⟨[(4,pB)],[]⟩) (qS k (.ex 4) ⟨[],[]⟩)
theorem cBe:LpG T P220_l2 (bYP N (R:=R)) [2,3,7] cAw:=lpk (aP9 N) 250 (Lp:=(bIY N))
def cCd:LpS R:=aCc (bIY N) 250 (aAx P220_l2 (bYP N N))
def bXC (a0:ByteArray)(a1:zt7)(a2:zt1)(a3:zt2)(a4:zt0)(a5:zt7)(a6:zt6)(a7:ByteArray)(a8:zt7)(a9:zt1)(a10:zt2)(a11:zt0)(a12:zt7)(a13:zt6)(k0:Bool->Option R):Option R:=(bif decide (a0≠a7)then (k0 false)else (bXI N a1 a8 (fun y1=>(bif (!y1)then (k0 false)else (bif decide (((a2.length:Nat):Int)≠((a9.length:Nat):Int))then (k0 false)else (bXV N a3 a10 (fun y2=>(bif (!y2)then (k0 false)else (bif decide (((a4.length:Nat):Int)≠((a11.length:Nat):Int))then (k0 false)else (bXR N a5 a12 (fun y3=>(bif (!y3)then (k0 false)else (bif decide (((a6.length:Nat):Int)≠((a13.length:Nat):Int))then (k0 false)else (bXp N k0 (fun z5 z6 z7 z8 z9 z10 z11 z12 z13 z14 z15 z16 z17 z18=>(bXq N k0 (fun z20 z21 z22 z23 z24 z25 z26 z27 z28 z29 z30 z31 z32 z33=>(bXr N k0 (k0 true) N 0 z20 z21 z22 z23 z24 z25 z26 z27 z28 z29 z30 z31 z32 z33)) N 0 z5 z6 z7 z8 z9 z10 z11 z12 z13 z14 z15 z16 z17 z18)) N 0 a0 a1 a2 a3 a4 a5 a6 a7 a8 a9 a10 a11 a12 a13))))))))))))))
def bQS:CfS R:=u1 (bQJ N) 15 ⟨[.agg zb2,.agg zb2],[]⟩ ⟨[pB],[]⟩ (bXC N)
theorem bDy:FOK (bQS N:CfS R) (aAo T):=uCk (aP9 N) c15 (Lp:=(cCd N)) (hl:=(aAi (l:=[(58,[2,3,5],cAu),(122,[2,3,6],cAv),(250,[2,3,7],cAw)]) (by kernel_rfl) ⟨(aDL (by decide) (aDL (by decide) (aAf (bCr N N)))),(aDL (by decide) (aAf (cBd N N))),(aAf (cBe N N)),trivial⟩))
def bXM (N:Nat)(a0:ByteArray)(a1 a2:Int)(k0:ByteArray->zk1 (zk1 (Option R))):Option R:=(k0 a0 0 a1 0 a2)
def bS2:CfS R:=u1 (bQS N) 85 ⟨[pS,pI,pI],[]⟩ ⟨[.agg [pS,pI,pI,pI,pI]],[]⟩ (bXM N)
theorem bFX:FOK (bS2 N:CfS R) (aAo T):=uCk (bDy N) c85
def bX3 (N:Nat)(a0:Int)(k0:Int->Option R):Option R:=(k0 (max a0 (w64 (0-a0))))
def bTk:CfS R:=u1 (bS2 N) 154 ⟨[pI],[]⟩ ⟨[pI],[]⟩ (bX3 N)
theorem aPQ:FOK (bTk N:CfS R) (aAo T):=uCk (bFX N) cC9
def cCY:Nat->Option (List Sh):=fun n=>if n=19000 then some [.i .u8]else none
def bXB (k0:ByteArray->ByteArray->Option R):Nat->Int->ByteArray->ByteArray->Option R
 | 0,_,_,_=>none
 | n+1,b0,b1,b2=>(bif decide (b0≠0)then (bX3 N (Int.tmod b0 10) (fun y1=>(bif aP7 [(IntKind.wrap .u8 (w64 (48+y1)))]then (bif decide (((((bLc [(IntKind.wrap .u8 (w64 (48+y1)))]).size+b1.size:Nat)):Int)>9223372036854775807)then none else (bXB k0 n (w64 (Int.tdiv b0 10)) ((bLc [(IntKind.wrap .u8 (w64 (48+y1)))])++b1) b2))else none)))else (k0 b1 b2))
def P223_l0:SP:=⟨[(0,pI),(3,pS),(4,pS)],[]⟩
def aUR:Nat->P223_l0.den->KS R->Option R:=eS P223_l0 fun k=>bXB N (qS k (.ex 0) ⟨[(3,pS),(4,pS)],[]⟩)
theorem bDi:LpG T P223_l0 (aUR N (R:=R)) [0,3,4] cAO:=lpk (aPQ N) 992 (H:=cCY)
def bAb:LpS R:=aCc noL 992 (aAx P223_l0 (aUR N N))
def bXA (k0:ByteArray->Option R)(b0:Int)(b1 b2:ByteArray):Option R:=(bXB N (fun z2 z3=>(bif decide ((((z3.size+z2.size:Nat)):Int)>9223372036854775807)then none else (k0 (z3++z2)))) N b0 b1 b2)
def P223_j0:SP:=⟨[(0,pI),(3,pS),(4,pS)],[]⟩
def bYQ:Nat->P223_j0.den->KS R->Option R:=jS P223_j0 fun k=>bXA N (qS k .ret ⟨[(2,pS)],[]⟩)
theorem cBf:LpG T P223_j0 (bYQ N (R:=R)) [0,3,4] cAN:=lpk (aPQ N) 62 (H:=cCY) (Lp:=(bAb N)) (hl:=(aAi (l:=[(992,[0,3,4],cAO)]) (by kernel_rfl) ⟨(aAf (bDi N N)),trivial⟩))
def bJX:LpS R:=aCc (bAb N) 62 (aAx P223_j0 (bYQ N 1))
def bXY (a0:Int)(k0:ByteArray->Option R):Option R:=(bif decide (a0=0)then (k0 (ByteArray.mk #[48]))else (bif decide (a0<0)then (bXA N k0 a0 (ByteArray.mk #[]) (ByteArray.mk #[45]))else (bXA N k0 a0 (ByteArray.mk #[]) (ByteArray.mk #[]))))
def bR7:CfS R:=u1 (bTk N) 86 ⟨[pI],[]⟩ ⟨[pS],[]⟩ (bXY N)
theorem bEz:FOK (bR7 N:CfS R) (aAo T):=uCk (aPQ N) c86 (H:=cCY) (Lp:=(bJX N)) (hl:=(aAi (l:=[(62,[0,3,4],cAN)]) (by kernel_rfl) ⟨(aAf (cBf N 1)),trivial⟩))
def cDI:Nat->Option (List Sh):=fun n=>if n=3000 then some [.s,hI,hI,hI,hI]else if n=14000 then some [.s,hI,hI,hI,hI]else none
def bXf (k0:zt1->Option R):Nat->zk1 (zt1->Option R)
 | 0,_,_,_=>none
 | n+1,b0,b1,b2=>(bif decide (b1<=b0)then (bXY N b1 (fun y1=>(bif decide (((((ByteArray.mk #[115]).size+y1.size:Nat)):Int)>9223372036854775807)then none else (bXM N ((ByteArray.mk #[115])++y1) 1 1 (fun y2 y3 y4 y5 y6=>(bif aBU (b2.length+1) 48 then (bXf k0 n b0 (w64 (b1+1)) (b2++[(y2,y3,y4,y5,y6)]))else none))))))else (k0 b2))
def P224_l0:SP:=⟨[(0,pI),(3,.own 0),(4,pI)],[(0,.arr zs2)]⟩
def bYR:Nat->P224_l0.den->KS R->Option R:=eS P224_l0 fun k=>bXf N (qS k (.ex 0) ⟨[(3,.own 0)],[(0,.arr zs2)]⟩)
theorem cBg:LpG T P224_l0 (bYR N (R:=R)) [0,3,4] cAA:=lpk (bEz N) 58 (H:=cDI)
def cCe:LpS R:=aCc noL 58 (aAx P224_l0 (bYR N N))
def bXt (a0:Int)(k0:zt1->Option R):Option R:=(bXM N (ByteArray.mk #[115,114,99]) 1 0 (fun y1 y2 y3 y4 y5=>(bXf N k0 N a0 1 [(y1,y2,y3,y4,y5)])))
def bSU:CfS R:=u1 (bR7 N) 17 ⟨[pI],[]⟩ ⟨[pL zs2],[]⟩ (bXt N)
theorem bCz:FOK (bSU N:CfS R) (aAo T):=uCk (bEz N) c17 (H:=cDI) (Lp:=(cCe N)) (hl:=(aAi (l:=[(58,[0,3,4],cAA)]) (by kernel_rfl) ⟨(aAf (cBg N N)),trivial⟩))
def aA3 (N:Nat)(k0:Bool->Option R)(k1:ByteArray->Int->Option R)(b0:ByteArray)(b1 b2:Int)(b3:Bool):Option R:=(bif (!b3)then (bif decide (b1=0)then (k0 false)else (bif decide (b2≠95)then (bif decide (b2<48)then (k0 false)else (bif decide (57<b2)then (k0 false)else (k1 b0 b1)))else (k1 b0 b1)))else (k1 b0 b1))
def P225_j0:SP:=⟨[(0,pS),(3,pI),(4,.p (.s (.i .u8))),(5,pB)],[]⟩
def bYS:Nat->P225_j0.den->KS R->Option R:=jS P225_j0 fun k=>aA3 N (qS k .ret ⟨[(2,pB)],[]⟩) (qS k (.ex 1001865) ⟨[(0,pS),(3,pI)],[]⟩)
theorem cBh:LpG T P225_j0 (bYS N (R:=R)) [0,3,4,5] aTx:=lpk (bCz N) 7462
def bZ8:LpS R:=aCc noL 7462 (aAx P225_j0 (bYS N 1))
def aAC (k0:Bool->Option R)(k1:Option R):Nat->ByteArray->Int->Option R
 | 0,_,_=>none
 | n+1,b0,b1=>(bif decide (b1<((b0.size:Nat):Int))then ((aJd b0 b1).bind fun x1=>(bif decide (97<=x1)then (bif decide (x1<=122)then (aA3 N k0 (fun z3 z4=>(aAC k0 k1 n z3 (w64 (z4+1)))) b0 b1 x1 true)else (bif decide (65<=x1)then (aA3 N k0 (fun z6 z7=>(aAC k0 k1 n z6 (w64 (z7+1)))) b0 b1 x1 (decide (x1<=90)))else (aA3 N k0 (fun z9 z10=>(aAC k0 k1 n z9 (w64 (z10+1)))) b0 b1 x1 false)))else (bif decide (65<=x1)then (aA3 N k0 (fun z12 z13=>(aAC k0 k1 n z12 (w64 (z13+1)))) b0 b1 x1 (decide (x1<=90)))else (aA3 N k0 (fun z15 z16=>(aAC k0 k1 n z15 (w64 (z16+1)))) b0 b1 x1 false))))else k1)
def P225_l0:SP:=⟨[(0,pS),(3,pI)],[]⟩
def bYT:Nat->P225_l0.den->KS R->Option R:=eS P225_l0 fun k=>aAC N (qS k .ret ⟨[(2,pB)],[]⟩) (qS k (.ex 0) ⟨[],[]⟩)
theorem cBi:LpG T P225_l0 (bYT N (R:=R)) [0,3] aSc:=lpk (bCz N) 58 (Lp:=(bZ8 N)) (hl:=(aAi (l:=[(7462,[0,3,4,5],aTx)]) (by kernel_rfl) ⟨(aAf (cBh N 1)),trivial⟩))
def cCf:LpS R:=aCc (bZ8 N) 58 (aAx P225_l0 (bYT N N))
def aBW (a0:ByteArray)(k0:Bool->Option R):Option R:=(bif decide (((a0.size:Nat):Int)<1)then (k0 false)else (bif decide (16<((a0.size:Nat):Int))then (k0 false)else (aAC N k0 (k0 true) N a0 0)))
def bQZ:CfS R:=u1 (bSU N) 169 ⟨[pS],[]⟩ ⟨[pB],[]⟩ (aBW N)
theorem aNk:FOK (bQZ N:CfS R) (aAo T):=uCk (bCz N) bH7 (Lp:=(cCf N)) (hl:=(aAi (l:=[(58,[0,3],aSc)]) (by kernel_rfl) ⟨(aAf (cBi N N)),trivial⟩))
def aCz (a0:Int)(k0:Bool->Option R):Option R:=(aAz N a0 1 16 k0)
def bSc:CfS R:=u1 (bQZ N) 246 ⟨[pI],[]⟩ ⟨[pB],[]⟩ (aCz N)
theorem aPw:FOK (bSc N:CfS R) (aAo T):=uCk (aNk N) bNF
def aBJ (N:Nat)(k0:zk1 (Option R))(k1:zt7->Int->Option R):Nat->zt7->zk1 (Option R)
 | 0,_,_,_=>none
 | n+1,b0,b1,b2=>(bif decide (b2<b1)then ((at? b0 b2).bind fun x1=>((at? b0 b1).bind fun x2=>(bif decide (x1.1=x2.1)then (k0 b1 5)else (aBJ N k0 k1 n b0 b1 (w64 (b2+1))))))else (k1 b0 b1))
def P227_l1:SP:=⟨[(0,pL [.s,hI]),(4,pI),(5,pI)],[]⟩
def aWE:Nat->P227_l1.den->KS R->Option R:=eS P227_l1 fun k=>aBJ N (qS k .ret ⟨[(2,pI),(3,pI)],[]⟩) (qS k (.ex 2) ⟨[(0,pL [.s,hI]),(4,pI)],[]⟩)
theorem bFx:LpG T P227_l1 (aWE N (R:=R)) [0,4,5] aWZ:=lpk (aPw N) 14922
def bBq:LpS R:=aCc noL 14922 (aAx P227_l1 (aWE N N))
def aBM (k0:zk1 (Option R))(k1:Option R):Nat->zt7->Int->Option R
 | 0,_,_=>none
 | n+1,b0,b1=>(bif decide (b1<((b0.length:Nat):Int))then ((at? b0 b1).bind fun x1=>(aBW N x1.1 (fun y2=>(bif (!y2)then (k0 b1 4)else (aBJ N k0 (fun z5 z6=>((at? z5 z6).bind fun x7=>(aCz N x7.2 (fun y8=>(bif (!y8)then (k0 z6 2)else (aBM k0 k1 n z5 (w64 (z6+1)))))))) N b0 b1 0)))))else k1)
def P227_l0:SP:=⟨[(0,pL [.s,hI]),(4,pI)],[]⟩
def aVG:Nat->P227_l0.den->KS R->Option R:=eS P227_l0 fun k=>aBM N (qS k .ret ⟨[(2,pI),(3,pI)],[]⟩) (qS k (.ex 0) ⟨[],[]⟩)
theorem bFL:LpG T P227_l0 (aVG N (R:=R)) [0,4] aW5:=lpk (aPw N) 58 (Lp:=(bBq N)) (hl:=(aAi (l:=[(14922,[0,4,5],aWZ)]) (by kernel_rfl) ⟨(aAf (bFx N N)),trivial⟩))
def bHk:LpS R:=aCc (bBq N) 58 (aAx P227_l0 (aVG N N))
def aDD (a0:zt7)(k0:zk1 (Option R)):Option R:=(bif decide (12<((a0.length:Nat):Int))then (k0 0 8)else (aBM N k0 (k0 0 0) N a0 0))
def bRa:CfS R:=u1 (bSc N) 170 ⟨[pL [.s,hI]],[]⟩ ⟨[pI,pI],[]⟩ (aDD N)
theorem bD9:FOK (bRa N:CfS R) (aAo T):=uCk (aPw N) bHG (Lp:=(bHk N)) (hl:=(aAi (l:=[(58,[0,4],aW5)]) (by kernel_rfl) ⟨(aAf (bFL N N)),trivial⟩))
def aEO (N:Nat)(a0:Int)(k0:Int->Option R):Option R:=(bif decide (a0<0)then none else (k0 (aPi .i64 1 a0)))
def bQF:CfS R:=u1 (bRa N) 33 ⟨[pI],[]⟩ ⟨[pI],[]⟩ (aEO N)
theorem aUn:FOK (bQF N:CfS R) (aAo T):=uCk (bD9 N) c33
def aEg (a0 a1:Int)(k0:Bool->Option R):Option R:=(aEO N a1 (fun y1=>(aAz N a0 0 (w64 (y1-1)) k0)))
def bSV:CfS R:=u1 (bQF N) 109 ⟨[pI,pI],[]⟩ ⟨[pB],[]⟩ (aEg N)
theorem aVd:FOK (bSV N:CfS R) (aAo T):=uCk (aUn N) bNz
def aBc (N:Nat)(k0:zk1 (Option R))(k1:zt7->zt1->Int->Option R):Nat->zt7->zt1->zk1 (Option R)
 | 0,_,_,_,_=>none
 | n+1,b0,b1,b2,b3=>(bif decide (b3<b2)then ((at? b1 b3).bind fun x1=>((at? b1 b2).bind fun x2=>(bif decide (x1.1=x2.1)then (k0 b2 5)else (aBc N k0 k1 n b0 b1 b2 (w64 (b3+1))))))else (k1 b0 b1 b2))
def P230_l1:SP:=⟨[(0,pL [.s,hI]),(1,pL zs2),(6,pI),(7,pI)],[]⟩
def bYU:Nat->P230_l1.den->KS R->Option R:=eS P230_l1 fun k=>aBc N (qS k .ret ⟨[(4,pI),(5,pI)],[]⟩) (qS k (.ex 2) ⟨[(0,pL [.s,hI]),(1,pL zs2),(6,pI)],[]⟩)
theorem cBj:LpG T P230_l1 (bYU N (R:=R)) [0,1,6,7] aTW:=lpk (aVd N) 14922
def bJc:LpS R:=aCc noL 14922 (aAx P230_l1 (bYU N N))
def aBd (N:Nat)(k0:zk1 (Option R))(k1:zt7->zt1->Int->Option R):Nat->zt7->zt1->zk1 (Option R)
 | 0,_,_,_,_=>none
 | n+1,b0,b1,b2,b3=>(bif decide (b3<((b0.length:Nat):Int))then ((at? b0 b3).bind fun x1=>((at? b1 b2).bind fun x2=>(bif decide (x1.1=x2.1)then (k0 b2 5)else (aBd N k0 k1 n b0 b1 b2 (w64 (b3+1))))))else (k1 b0 b1 b2))
def P230_l2:SP:=⟨[(0,pL [.s,hI]),(1,pL zs2),(6,pI),(8,pI)],[]⟩
def bYV:Nat->P230_l2.den->KS R->Option R:=eS P230_l2 fun k=>aBd N (qS k .ret ⟨[(4,pI),(5,pI)],[]⟩) (qS k (.ex 4) ⟨[(0,pL [.s,hI]),(1,pL zs2),(6,pI)],[]⟩)
theorem cBk:LpG T P230_l2 (bYV N (R:=R)) [0,1,6,8] aVz:=lpk (aVd N) 29850 (Lp:=(bJc N))
def bZ9:LpS R:=aCc (bJc N) 29850 (aAx P230_l2 (bYV N N))
def aBb (k0:zk1 (Option R))(k1:Option R):Nat->zt7->zt1->Int->Option R
 | 0,_,_,_=>none
 | n+1,b0,b1,b2=>(bif decide (b2<((b1.length:Nat):Int))then ((at? b1 b2).bind fun x1=>(aBW N x1.1 (fun y2=>(bif (!y2)then (k0 b2 4)else (aBc N k0 (fun z5 z6 z7=>(aBd N k0 (fun z10 z11 z12=>((at? z11 z12).bind fun x13=>(aAz N x13.2.1 0 1 (fun y14=>(bif (!y14)then (k0 z12 15)else ((at? z11 z12).bind fun x15=>(aCz N x15.2.2.1 (fun y16=>(bif (!y16)then (k0 z12 2)else ((at? z11 z12).bind fun x17=>((at? z11 z12).bind fun x18=>(aEg N x17.2.2.2.1 x18.2.2.1 (fun y19=>(bif (!y19)then (k0 z12 2)else ((at? z11 z12).bind fun x20=>(aAz N x20.2.2.2.2 0 3 (fun y21=>(bif (!y21)then (k0 z12 2)else (aBb k0 k1 n z10 z11 (w64 (z12+1))))))))))))))))))))) N z5 z6 z7 0)) N b0 b1 b2 0)))))else k1)
def P230_l0:SP:=⟨[(0,pL [.s,hI]),(1,pL zs2),(6,pI)],[]⟩
def aU7:Nat->P230_l0.den->KS R->Option R:=eS P230_l0 fun k=>aBb N (qS k .ret ⟨[(4,pI),(5,pI)],[]⟩) (qS k (.ex 0) ⟨[],[]⟩)
theorem bB9:LpG T P230_l0 (aU7 N (R:=R)) [0,1,6] aTC:=lpk (aVd N) 58 (Lp:=(bZ9 N)) (hl:=(aAi (l:=[(14922,[0,1,6,7],aTW),(29850,[0,1,6,8],aVz)]) (by kernel_rfl) ⟨(aDL (by decide) (aAf (cBj N N))),(aAf (cBk N N)),trivial⟩))
def cCg:LpS R:=aCc (bZ9 N) 58 (aAx P230_l0 (aU7 N N))
def aC0 (a0:zt7)(a1:zt1)(k0:zk1 (Option R)):Option R:=(bif decide (40<(w64 (((a0.length:Nat):Int)+((a1.length:Nat):Int))))then (k0 0 8)else (aBb N k0 (k0 0 0) N a0 a1 0))
def bQn:CfS R:=u1 (bSV N) 171 ⟨[pL [.s,hI],pL zs2],[]⟩ ⟨[pI,pI],[]⟩ (aC0 N)
theorem aUY:FOK (bQn N:CfS R) (aAo T):=uCk (aVd N) bGu (Lp:=(cCg N)) (hl:=(aAi (l:=[(58,[0,1,6],aTC)]) (by kernel_rfl) ⟨(aAf (bB9 N N)),trivial⟩))
def cCZ:Nat->Option (List Sh):=fun n=>if n=17000 then some [hI]else if n=36000 then some [hI]else none
def aB5 (N:Nat)(k0:zk0 (List Int->Option R)):Nat->Int->zk0 (List Int->Option R)
 | 0,_,_,_,_,_,_,_,_,_=>none
 | n+1,b0,b1,b2,b3,b4,b5,b6,b7,b8=>(bif decide (b0<((b2.length:Nat):Int))then ((at? b2 b0).bind fun x1=>(bif aBU (b8.length+1) 8 then (aB5 N k0 n (w64 (b0+1)) b1 b2 b3 b4 b5 b6 b7 (b8++[x1.2]))else none))else (k0 b1 b2 b3 b4 b5 b6 b7 b8))
def P231_l0:SP:=⟨[(1,.ptr 0 0),(3,.own 1),(4,pI)],[(0,.box zb2),(1,.arr [hI])]⟩
def aS6:Nat->P231_l0.den->KS R->Option R:=eS P231_l0 fun k=>aB5 N (qS k (.ex 0) ⟨[(1,.ptr 0 0),(3,.own 1)],[(0,.box zb2),(1,.arr [hI])]⟩)
theorem bDB:LpG T P231_l0 (aS6 N (R:=R)) [1,3,4] aTS:=lpk (aUY N) 58 (H:=cCZ)
def bKY:LpS R:=aCc noL 58 (aAx P231_l0 (aS6 N N))
def aCa (N:Nat)(k0:List Int->Option R):Nat->Int->zk0 (List Int->Option R)
 | 0,_,_,_,_,_,_,_,_,_=>none
 | n+1,b0,b1,b2,b3,b4,b5,b6,b7,b8=>(bif decide (b0<((b3.length:Nat):Int))then ((at? b3 b0).bind fun x1=>(bif aBU (b8.length+1) 8 then (aCa N k0 n (w64 (b0+1)) b1 b2 b3 b4 b5 b6 b7 (b8++[x1.2.2.1]))else none))else (k0 b8))
def P231_l1:SP:=⟨[(1,.ptr 0 0),(3,.own 1),(5,pI)],[(0,.box zb2),(1,.arr [hI])]⟩
def bYW:Nat->P231_l1.den->KS R->Option R:=eS P231_l1 fun k=>aCa N (qS k (.ex 2) ⟨[(3,.own 0)],[(0,.arr [hI])]⟩)
theorem cBl:LpG T P231_l1 (bYW N (R:=R)) [1,3,5] aSD:=lpk (aUY N) 122 (H:=cCZ) (Lp:=(bKY N))
def cCh:LpS R:=aCc (bKY N) 122 (aAx P231_l1 (bYW N N))
def aEo (a0:ByteArray)(a1:zt7)(a2:zt1)(a3:zt2)(a4:zt0)(a5:zt7)(a6:zt6)(k0:List Int->Option R):Option R:=(aB5 N (fun z2 z3 z4 z5 z6 z7 z8 z9=>(aCa N k0 N 0 z2 z3 z4 z5 z6 z7 z8 z9)) N 0 a0 a1 a2 a3 a4 a5 a6 [])
def bSX:CfS R:=u1 (bQn N) 173 ⟨[.agg zb2],[]⟩ ⟨[pL [hI]],[]⟩ (aEo N)
theorem bDZ:FOK (bSX N:CfS R) (aAo T):=uCk (aUY N) bGR (H:=cCZ) (Lp:=(cCh N)) (hl:=(aAi (l:=[(58,[1,3,4],aTS),(122,[1,3,5],aSD)]) (by kernel_rfl) ⟨(aDL (by decide) (aAf (bDB N N))),(aAf (cBl N N)),trivial⟩))
def aDJ (N:Nat)(a0:Int)(k0:Int->Option R):Option R:=(bif decide (a0=0)then (k0 0)else (bif decide (a0=1)then (k0 0)else (bif decide (a0=2)then (k0 1)else (bif decide (a0=14)then (k0 1)else (bif decide (a0=15)then (k0 1)else (bif decide (a0=16)then (k0 1)else (bif decide (a0=12)then (k0 3)else (k0 2))))))))
def bSb:CfS R:=u1 (bSX N) 278 ⟨[pI],[]⟩ ⟨[pI],[]⟩ (aDJ N)
theorem bC7:FOK (bSb N:CfS R) (aAo T):=uCk (bDZ N) bNW
def cDJ:Nat->Option (List Sh):=fun n=>if n=20000 then some [hI]else none
def aBA (N:Nat)(k0:zk1 (List Int->zk5 (Option R))):Nat->zt2->zk1 (zk5 (zk5 (Option R)))
 | 0,_,_,_,_,_,_,_=>none
 | n+1,b0,b1,b2,b3,b4,b5,b6=>(bif decide (b1<((b4.length:Nat):Int))then ((at? b4 b1).bind fun x1=>((at? b0 x1).bind fun x2=>(bif aBU (b6.length+1) 8 then (aBA N k0 n b0 (w64 (b1+1)) b2 b3 b4 b5 (b6++[x2.2.1]))else none)))else (k0 b2 b3 b4 b5 b6))
def P233_l0:SP:=⟨[(0,pL zs1),(3,.ptr 0 0),(5,.own 1),(6,pI)],[(0,.box zb7),(1,.arr [hI])]⟩
def bYX:Nat->P233_l0.den->KS R->Option R:=eS P233_l0 fun k=>aBA N (qS k (.ex 0) ⟨[(3,.ptr 0 0),(5,.own 1)],[(0,.box zb7),(1,.arr [hI])]⟩)
theorem cBm:LpG T P233_l0 (bYX N (R:=R)) [0,3,5,6] aW1:=lpk (bC7 N) 58 (H:=cDJ)
def cCi:LpS R:=aCc noL 58 (aAx P233_l0 (bYX N N))
def aCJ (a0:zt2)(a1 a2:Int)(a3:List Int)(a4:Int)(k0:Bool->Option R):Option R:=(aBA N (fun z3 z4 z5 z6 z7=>(bif decide (z3=2)then (bif inR 0 z7.length then ((z7[0]?).bind fun x8=>(k0 (decide (x8=z4))))else none)else (bif decide (z3=3)then (bif inR 0 z7.length then ((z7[0]?).bind fun x9=>(bif decide (x9=z4)then (bif inR 1 z7.length then ((z7[1]?).bind fun x10=>(k0 (decide (x10=z4))))else none)else (k0 false)))else none)else (bif decide (z3=4)then (bif inR 0 z7.length then ((z7[0]?).bind fun x11=>(bif decide (x11=z4)then (bif inR 1 z7.length then ((z7[1]?).bind fun x12=>(k0 (decide (x12=z4))))else none)else (k0 false)))else none)else (bif decide (z3=5)then (bif inR 0 z7.length then ((z7[0]?).bind fun x13=>(bif decide (x13=z4)then (bif inR 1 z7.length then ((z7[1]?).bind fun x14=>(k0 (decide (x14=z4))))else none)else (k0 false)))else none)else (bif decide (z3=6)then (bif inR 0 z7.length then ((z7[0]?).bind fun x15=>(bif decide (x15=z4)then (bif inR 1 z7.length then ((z7[1]?).bind fun x16=>(k0 (decide (x16=z4))))else none)else (k0 false)))else none)else (bif decide (z3=7)then (bif inR 0 z7.length then ((z7[0]?).bind fun x17=>(bif decide (x17=z4)then (bif inR 1 z7.length then ((z7[1]?).bind fun x18=>(k0 (decide (x18=z4))))else none)else (k0 false)))else none)else (bif decide (z3=8)then (bif inR 0 z7.length then ((z7[0]?).bind fun x19=>(bif decide (x19=z4)then (bif inR 1 z7.length then ((z7[1]?).bind fun x20=>(k0 (decide (x20=z4))))else none)else (k0 false)))else none)else (bif decide (z3=9)then (bif inR 0 z7.length then ((z7[0]?).bind fun x21=>(bif inR 1 z7.length then ((z7[1]?).bind fun x22=>(bif decide (x21=x22)then (k0 (decide (z4=1)))else (k0 false)))else none))else none)else (bif decide (z3=10)then (bif inR 0 z7.length then ((z7[0]?).bind fun x23=>(bif inR 1 z7.length then ((z7[1]?).bind fun x24=>(bif decide (x23=x24)then (k0 (decide (z4=1)))else (k0 false)))else none))else none)else (bif decide (z3=11)then (bif inR 0 z7.length then ((z7[0]?).bind fun x25=>(bif inR 1 z7.length then ((z7[1]?).bind fun x26=>(bif decide (x25=x26)then (k0 (decide (z4=1)))else (k0 false)))else none))else none)else (bif decide (z3=12)then (bif inR 0 z7.length then ((z7[0]?).bind fun x27=>(bif decide (x27=1)then (bif inR 1 z7.length then ((z7[1]?).bind fun x28=>(bif decide (x28=z4)then (bif inR 2 z7.length then ((z7[2]?).bind fun x29=>(k0 (decide (x29=z4))))else none)else (k0 false)))else none)else (k0 false)))else none)else (bif decide (z3=13)then (bif inR 0 z7.length then ((z7[0]?).bind fun x30=>(bif inR 1 z7.length then ((z7[1]?).bind fun x31=>(k0 (decide ((w64 (x30+x31))=z4))))else none))else none)else (bif decide (z3=14)then (bif inR 0 z7.length then ((z7[0]?).bind fun x32=>(k0 (decide ((w64 (z6+z4))<=x32))))else none)else (bif decide (z3=15)then (bif inR 0 z7.length then ((z7[0]?).bind fun x33=>(k0 (decide (x33<=z4))))else none)else (bif decide (z3=16)then (bif inR 0 z7.length then ((z7[0]?).bind fun x34=>(k0 (decide (x34<=z4))))else none)else (bif inR 0 z7.length then ((z7[0]?).bind fun x35=>(k0 (decide (x35=z4))))else none))))))))))))))))) N a0 0 a1 a2 a3 a4 [])
def bRk:CfS R:=u1 (bSb N) 279 ⟨[pL zs1,.agg zb7],[]⟩ ⟨[pB],[]⟩ (aCJ N)
theorem aUM:FOK (bRk N:CfS R) (aAo T):=uCk (bC7 N) bL1 (H:=cDJ) (Lp:=(cCi N)) (hl:=(aAi (l:=[(58,[0,3,5,6],aW1)]) (by kernel_rfl) ⟨(aAf (cBm N N)),trivial⟩))
def aBY (k0:Int->Option R)(k1:List Int->zt2->zk1 (zk9 (Option R))):zk4 (zt2->zk1 (zk1 (zk9 (Option R))))
 | 0,_,_,_,_,_,_,_,_=>none
 | n+1,b0,b1,b2,b3,b4,b5,b6,b7=>(bif decide (b3<((b6.length:Nat):Int))then ((at? b6 b3).bind fun x1=>(aAz N x1 0 (w64 (b2-1)) (fun y2=>(bif (!y2)then (k0 9)else (aBY k0 k1 n b0 b1 b2 (w64 (b3+1)) b4 b5 b6 b7)))))else (k1 b0 b1 b4 b5 b6 b7))
def P234_l0:SP:=⟨[(0,pL [hI]),(1,pL zs1),(2,pI),(7,.ptr 0 0),(8,pI)],[(0,.box zb7)]⟩
def aUi:Nat->P234_l0.den->KS R->Option R:=eS P234_l0 fun k=>aBY N (qS k .ret ⟨[(6,pI)],[]⟩) (qS k (.ex 0) ⟨[(0,pL [hI]),(1,pL zs1),(7,.ptr 0 0)],[(0,.box zb7)]⟩)
theorem bF8:LpG T P234_l0 (aUi N (R:=R)) [0,1,2,7,8] aW0:=lpk (aUM N) 506
def bKV:LpS R:=aCc noL 506 (aAx P234_l0 (aUi N N))
def aDV (a0:List Int)(a1:zt2)(a2:Int)(k0:Int->Option R):Option R:=((at? a1 a2).bind fun x1=>(aAz N x1.1 0 18 (fun y2=>(bif (!y2)then (k0 15)else (aCz N x1.2.1 (fun y3=>(bif (!y3)then (k0 2)else (aDJ N x1.1 (fun y4=>(bif decide (((x1.2.2.1.length:Nat):Int)≠y4)then (k0 10)else (aBY N k0 (fun z6 z7 z8 z9 z10 z11=>(bif decide (z8=0)then (aEg N z11 z9 (fun y12=>(bif (!y12)then (k0 2)else (k0 0))))else (bif decide (z8=1)then (aAz N z11 0 (w64 (((z6.length:Nat):Int)-1)) (fun y13=>(bif (!y13)then (k0 6)else ((at? z6 z11).bind fun x14=>(bif decide (x14≠z9)then (k0 25)else (k0 0))))))else (bif decide (z8=14)then (aAz N z11 0 15 (fun y15=>(bif (!y15)then (k0 2)else (aCJ N z7 z8 z9 z10 z11 (fun y16=>(bif (!y16)then (k0 25)else (k0 0)))))))else (bif decide (z11≠0)then (k0 3)else (aCJ N z7 z8 z9 z10 z11 (fun y17=>(bif (!y17)then (k0 25)else (k0 0))))))))) N a0 a1 a2 0 x1.1 x1.2.1 x1.2.2.1 x1.2.2.2)))))))))))
def bRO:CfS R:=u1 (bRk N) 247 ⟨[pL [hI],pL zs1,pI],[]⟩ ⟨[pI],[]⟩ (aDV N)
theorem aPz:FOK (bRO N:CfS R) (aAo T):=uCk (aUM N) bLS (Lp:=(bKV N)) (hl:=(aAi (l:=[(506,[0,1,2,7,8],aW0)]) (by kernel_rfl) ⟨(aAf (bF8 N N)),trivial⟩))
def aBG (k0:zk1 (Option R))(k1:Option R):zk4 (zt2->Int->Option R)
 | 0,_,_,_=>none
 | n+1,b0,b1,b2=>(bif decide (b2<((b1.length:Nat):Int))then (aDV N b0 b1 b2 (fun y1=>(bif decide (y1≠0)then (k0 b2 y1)else (aBG k0 k1 n b0 b1 (w64 (b2+1))))))else k1)
def P235_l0:SP:=⟨[(0,pL [hI]),(1,pL zs1),(6,pI)],[]⟩
def aUt:Nat->P235_l0.den->KS R->Option R:=eS P235_l0 fun k=>aBG N (qS k .ret ⟨[(4,pI),(5,pI)],[]⟩) (qS k (.ex 0) ⟨[],[]⟩)
theorem bDf:LpG T P235_l0 (aUt N (R:=R)) [0,1,6] aTo:=lpk (aPz N) 58
def bAS:LpS R:=aCc noL 58 (aAx P235_l0 (aUt N N))
def aDG (a0:List Int)(a1:zt2)(k0:zk1 (Option R)):Option R:=(bif decide (400<((a1.length:Nat):Int))then (k0 0 8)else (aBG N k0 (k0 0 0) N a0 a1 0))
def bTe:CfS R:=u1 (bRO N) 172 ⟨[pL [hI],pL zs1],[]⟩ ⟨[pI,pI],[]⟩ (aDG N)
theorem aSX:FOK (bTe N:CfS R) (aAo T):=uCk (aPz N) bLa (Lp:=(bAS N)) (hl:=(aAi (l:=[(58,[0,1,6],aTo)]) (by kernel_rfl) ⟨(aAf (bDf N N)),trivial⟩))
def aCQ (a0:zt2)(a1:Int)(k0:Bool->Option R):Option R:=(aAz N a1 0 (w64 (((a0.length:Nat):Int)-1)) k0)
def bQK:CfS R:=u1 (bTe N) 248 ⟨[pL zs1,pI],[]⟩ ⟨[pB],[]⟩ (aCQ N)
theorem aLj:FOK (bQK N:CfS R) (aAo T):=uCk (aSX N) bQh
def aCl (a0:zt2)(a1:Int)(k0:Bool->Option R):Option R:=(aCQ N a0 a1 (fun y1=>(bif y1 then ((at? a0 a1).bind fun x2=>(k0 (decide (x2.2.1=1))))else (k0 false))))
def bTy:CfS R:=u1 (bQK N) 174 ⟨[pL zs1,pI],[]⟩ ⟨[pB],[]⟩ (aCl N)
theorem aTZ:FOK (bTy N:CfS R) (aAo T):=uCk (aLj N) bP6
def aBx (k0:Int->Option R)(k1:Option R):Nat->zt1->zt2->zt8->Int->Option R
 | 0,_,_,_,_=>none
 | n+1,b0,b1,b2,b3=>(bif decide (b3<((b2.length:Nat):Int))then ((at? b2 b3).bind fun x1=>(aAz N x1.1 0 (w64 (((b0.length:Nat):Int)-1)) (fun y2=>(bif (!y2)then (k0 6)else ((at? b2 b3).bind fun x3=>(aCl N b1 x3.2.1 (fun y4=>(bif (!y4)then (k0 9)else ((at? b2 b3).bind fun x5=>(aCQ N b1 x5.2.2 (fun y6=>(bif (!y6)then (k0 9)else ((at? b2 b3).bind fun x7=>((at? b1 x7.2.2).bind fun x8=>((at? b2 b3).bind fun x9=>((at? b0 x9.1).bind fun x10=>(bif decide (x8.2.1≠x10.2.2.1)then (k0 25)else (aBx k0 k1 n b0 b1 b2 (w64 (b3+1))))))))))))))))))))else k1)
def P238_l0:SP:=⟨[(0,pL zs2),(1,pL zs1),(2,pL zs5),(7,pI)],[]⟩
def aWJ:Nat->P238_l0.den->KS R->Option R:=eS P238_l0 fun k=>aBx N (qS k .ret ⟨[(6,pI)],[]⟩) (qS k (.ex 0) ⟨[],[]⟩)
theorem bBI:LpG T P238_l0 (aWJ N (R:=R)) [0,1,2,7] aSs:=lpk (aTZ N) 58
def bIn:LpS R:=aCc noL 58 (aAx P238_l0 (aWJ N N))
def aDp (a0:zt1)(a1:zt2)(a2:zt8)(k0:Int->Option R):Option R:=(bif decide (16<((a2.length:Nat):Int))then (k0 8)else (aBx N k0 (k0 0) N a0 a1 a2 0))
def bRK:CfS R:=u1 (bTy N) 175 ⟨[pL zs2,pL zs1,pL zs5],[]⟩ ⟨[pI],[]⟩ (aDp N)
theorem aU1:FOK (bRK N:CfS R) (aAo T):=uCk (aTZ N) bK9 (Lp:=(bIn N)) (hl:=(aAi (l:=[(58,[0,1,2,7],aSs)]) (by kernel_rfl) ⟨(aAf (bBI N N)),trivial⟩))
def aBg (N:Nat)(k0:zk1 (Option R))(k1:zt2->zt7->Int->Option R):Nat->zt2->zt7->zk1 (Option R)
 | 0,_,_,_,_=>none
 | n+1,b0,b1,b2,b3=>(bif decide (b3<b2)then ((at? b1 b3).bind fun x1=>((at? b1 b2).bind fun x2=>(bif decide (x1.1=x2.1)then (k0 b2 5)else (aBg N k0 k1 n b0 b1 b2 (w64 (b3+1))))))else (k1 b0 b1 b2))
def P239_l1:SP:=⟨[(0,pL zs1),(1,pL [.s,hI]),(6,pI),(7,pI)],[]⟩
def bYY:Nat->P239_l1.den->KS R->Option R:=eS P239_l1 fun k=>aBg N (qS k .ret ⟨[(4,pI),(5,pI)],[]⟩) (qS k (.ex 2) ⟨[(0,pL zs1),(1,pL [.s,hI]),(6,pI)],[]⟩)
theorem cBn:LpG T P239_l1 (bYY N (R:=R)) [0,1,6,7] aUh:=lpk (aU1 N) 14922
def bHy:LpS R:=aCc noL 14922 (aAx P239_l1 (bYY N N))
def aBi (k0:zk1 (Option R))(k1:Option R):Nat->zt2->zt7->Int->Option R
 | 0,_,_,_=>none
 | n+1,b0,b1,b2=>(bif decide (b2<((b1.length:Nat):Int))then ((at? b1 b2).bind fun x1=>(aBW N x1.1 (fun y2=>(bif (!y2)then (k0 b2 4)else (aBg N k0 (fun z5 z6 z7=>((at? z6 z7).bind fun x8=>(aCQ N z5 x8.2 (fun y9=>(bif (!y9)then (k0 z7 9)else (aBi k0 k1 n z5 z6 (w64 (z7+1)))))))) N b0 b1 b2 0)))))else k1)
def P239_l0:SP:=⟨[(0,pL zs1),(1,pL [.s,hI]),(6,pI)],[]⟩
def aVg:Nat->P239_l0.den->KS R->Option R:=eS P239_l0 fun k=>aBi N (qS k .ret ⟨[(4,pI),(5,pI)],[]⟩) (qS k (.ex 0) ⟨[],[]⟩)
theorem bCp:LpG T P239_l0 (aVg N (R:=R)) [0,1,6] aVl:=lpk (aU1 N) 58 (Lp:=(bHy N)) (hl:=(aAi (l:=[(14922,[0,1,6,7],aUh)]) (by kernel_rfl) ⟨(aAf (cBn N N)),trivial⟩))
def cCj:LpS R:=aCc (bHy N) 58 (aAx P239_l0 (aVg N N))
def aCx (a0:zt2)(a1:zt7)(k0:zk1 (Option R)):Option R:=(bif decide (12<((a1.length:Nat):Int))then (k0 0 8)else (aBi N k0 (k0 0 0) N a0 a1 0))
def bSw:CfS R:=u1 (bRK N) 176 ⟨[pL zs1,pL [.s,hI]],[]⟩ ⟨[pI,pI],[]⟩ (aCx N)
theorem aTK:FOK (bSw N:CfS R) (aAo T):=uCk (aU1 N) bJU (Lp:=(cCj N)) (hl:=(aAi (l:=[(58,[0,1,6],aVl)]) (by kernel_rfl) ⟨(aAf (bCp N N)),trivial⟩))
def aCP (N:Nat)(k0:Bool->Option R)(k1:Option R):zk4 (zk1 (Option R))
 | 0,_,_,_=>none
 | n+1,b0,b1,b2=>(bif decide (b2<((b0.length:Nat):Int))then ((at? b0 b2).bind fun x1=>(bif decide (x1=b1)then (k0 true)else (aCP N k0 k1 n b0 b1 (w64 (b2+1)))))else k1)
def P240_l0:SP:=⟨[(0,pL [hI]),(1,pI),(5,pI)],[]⟩
def aWW:Nat->P240_l0.den->KS R->Option R:=eS P240_l0 fun k=>aCP N (qS k .ret ⟨[(4,pB)],[]⟩) (qS k (.ex 0) ⟨[],[]⟩)
theorem bE5:LpG T P240_l0 (aWW N (R:=R)) [0,1,5] aZu:=lpk (aTK N) 26
def bKq:LpS R:=aCc noL 26 (aAx P240_l0 (aWW N N))
def aEJ (a0:List Int)(a1:Int)(k0:Bool->Option R):Option R:=(aCP N k0 (k0 false) N a0 a1 0)
def bRy:CfS R:=u1 (bSw N) 88 ⟨[pL [hI],pI],[]⟩ ⟨[pB],[]⟩ (aEJ N)
theorem aMX:FOK (bRy N:CfS R) (aAo T):=uCk (aTK N) c88 (Lp:=(bKq N)) (hl:=(aAi (l:=[(26,[0,1,5],aZu)]) (by kernel_rfl) ⟨(aAf (bE5 N N)),trivial⟩))
def aBw (N:Nat)(k0:zk1 (Option R))(k1:Int->zk0 (zk6 (Option R))):Nat->zk1 (zk0 (zk6 (Option R)))
 | 0,_,_,_,_,_,_,_,_,_,_,_,_=>none
 | n+1,b0,b1,b2,b3,b4,b5,b6,b7,b8,b9,b10,b11=>(bif decide (b1<b0)then ((at? b6 b1).bind fun x1=>(bif decide (x1.1=b9)then (k0 b0 5)else (aBw N k0 k1 n b0 (w64 (b1+1)) b2 b3 b4 b5 b6 b7 b8 b9 b10 b11)))else (k1 b0 b2 b3 b4 b5 b6 b7 b8 b9 b10 b11))
def P241_l1:SP:=⟨[(1,.ptr 0 0),(10,pI),(11,.ptr 1 0),(12,pI)],[(0,.box zb2),(1,.box [pS,pI,pL zs5])]⟩
def aTY:Nat->P241_l1.den->KS R->Option R:=eS P241_l1 fun k=>aBw N (qS k .ret ⟨[(2,pI),(3,pI)],[]⟩) (qS k (.ex 2) ⟨[(1,.ptr 0 0),(10,pI),(11,.ptr 1 0)],[(0,.box zb2),(1,.box [pS,pI,pL zs5])]⟩)
theorem bCh:LpG T P241_l1 (aTY N (R:=R)) [1,10,11,12] aUC:=lpk (aMX N) 521370
def aZU:LpS R:=aCc noL 521370 (aAx P241_l1 (aTY N N))
def aBz (k0:zk1 (Option R))(k1:zk0 (Option R)):Nat->Int->zk0 (Option R)
 | 0,_,_,_,_,_,_,_,_=>none
 | n+1,b0,b1,b2,b3,b4,b5,b6,b7=>(bif decide (b0<((b5.length:Nat):Int))then ((at? b5 b0).bind fun x1=>(aBW N x1.1 (fun y2=>(bif (!y2)then (k0 b0 4)else (aBw N k0 (fun z5 z6 z7 z8 z9 z10 z11 z12 z13 z14 z15=>(aCl N z9 z14 (fun y16=>(bif (!y16)then (k0 z5 9)else (aDp N z8 z9 z15 (fun y17=>(bif decide (y17≠0)then (k0 z5 y17)else (aBz k0 k1 n (w64 (z5+1)) z6 z7 z8 z9 z10 z11 z12)))))))) N b0 0 b1 b2 b3 b4 b5 b6 b7 x1.1 x1.2.1 x1.2.2)))))else (k1 b1 b2 b3 b4 b5 b6 b7))
def P241_l0:SP:=⟨[(1,.ptr 0 0),(10,pI)],[(0,.box zb2)]⟩
def aSY:Nat->P241_l0.den->KS R->Option R:=eS P241_l0 fun k=>aBz N (qS k .ret ⟨[(2,pI),(3,pI)],[]⟩) (qS k (.ex 0) ⟨[(1,.ptr 0 0)],[(0,.box zb2)]⟩)
theorem bBy:LpG T P241_l0 (aSY N (R:=R)) [1,10] aR2:=lpk (aMX N) 1018 (Lp:=(aZU N)) (hl:=(aAi (l:=[(521370,[1,10,11,12],aUC)]) (by kernel_rfl) ⟨(aAf (bCh N N)),trivial⟩))
def aZl:LpS R:=aCc (aZU N) 1018 (aAx P241_l0 (aSY N N))
def aBB (k0:zk1 (Option R))(k1:Int->zk0 (Option R)):Nat->zk1 (zk0 (zk5 (Option R)))
 | 0,_,_,_,_,_,_,_,_,_,_,_=>none
 | n+1,b0,b1,b2,b3,b4,b5,b6,b7,b8,b9,b10=>(bif decide (b1<((b10.length:Nat):Int))then ((at? b10 b1).bind fun x1=>(aAz N x1 0 (w64 (((b6.length:Nat):Int)-1)) (fun y2=>(bif (!y2)then (k0 b0 6)else (bif slP 0 b1 b10.length then ((at? b10 b1).bind fun x3=>(aEJ N (List.take b1.toNat (List.drop 0 b10)) x3 (fun y4=>(bif y4 then (k0 b0 23)else (aBB k0 k1 n b0 (w64 (b1+1)) b2 b3 b4 b5 b6 b7 b8 b9 b10)))))else none)))))else (k1 b0 b2 b3 b4 b5 b6 b7 b8))
def P241_l3:SP:=⟨[(1,.ptr 0 0),(16,pI),(17,.ptr 1 0),(18,pI)],[(0,.box zb2),(1,.box [pI,pL [hI]])]⟩
def bYZ:Nat->P241_l3.den->KS R->Option R:=eS P241_l3 fun k=>aBB N (qS k .ret ⟨[(2,pI),(3,pI)],[]⟩) (qS k (.ex 6) ⟨[(1,.ptr 0 0),(16,pI)],[(0,.box zb2)]⟩)
theorem cBo:LpG T P241_l3 (bYZ N (R:=R)) [1,16,17,18] aWy:=lpk (aMX N) 4191390 (Lp:=(aZl N))
def bHB:LpS R:=aCc (aZl N) 4191390 (aAx P241_l3 (bYZ N N))
def aAW (k0:zk1 (Option R))(k1:Option R):Nat->Int->zk0 (Option R)
 | 0,_,_,_,_,_,_,_,_=>none
 | n+1,b0,b1,b2,b3,b4,b5,b6,b7=>(bif decide (b0<((b7.length:Nat):Int))then ((at? b7 b0).bind fun x1=>(aAz N x1.1 0 3 (fun y2=>(bif (!y2)then (k0 b0 15)else (bif decide (((x1.2.length:Nat):Int)=0)then (k0 b0 10)else (bif decide (16<((x1.2.length:Nat):Int))then (k0 b0 10)else (aBB N k0 (fun z7 z8 z9 z10 z11 z12 z13 z14=>(aAW k0 k1 n (w64 (z7+1)) z8 z9 z10 z11 z12 z13 z14)) N b0 0 b1 b2 b3 b4 b5 b6 b7 x1.1 x1.2)))))))else k1)
def P241_l2:SP:=⟨[(1,.ptr 0 0),(16,pI)],[(0,.box zb2)]⟩
def aVY:Nat->P241_l2.den->KS R->Option R:=eS P241_l2 fun k=>aAW N (qS k .ret ⟨[(2,pI),(3,pI)],[]⟩) (qS k (.ex 4) ⟨[],[]⟩)
theorem bE1:LpG T P241_l2 (aVY N (R:=R)) [1,16] aUc:=lpk (aMX N) 8186 (Lp:=(bHB N)) (hl:=(aAi (l:=[(4191390,[1,16,17,18],aWy)]) (by kernel_rfl) ⟨(aAf (cBo N N)),trivial⟩))
def cCk:LpS R:=aCc (bHB N) 8186 (aAx P241_l2 (aVY N N))
def aDx (a0:ByteArray)(a1:zt7)(a2:zt1)(a3:zt2)(a4:zt0)(a5:zt7)(a6:zt6)(k0:zk1 (Option R)):Option R:=(aBW N a0 (fun y1=>(bif (!y1)then (k0 0 4)else (aDD N a1 (fun y2 y3=>(bif decide (y3≠0)then (k0 y2 y3)else (aC0 N a1 a2 (fun y4 y5=>(bif decide (y5≠0)then (k0 y4 y5)else (aEo N a0 a1 a2 a3 a4 a5 a6 (fun y6=>(aDG N y6 a3 (fun y7 y8=>(bif decide (y8≠0)then (k0 y7 y8)else (bif decide (16<((a4.length:Nat):Int))then (k0 0 8)else (aBz N k0 (fun z20 z21 z22 z23 z24 z25 z26=>(aCx N z23 z25 (fun y27 y28=>(bif decide (y28≠0)then (k0 y27 y28)else (bif decide (16<((z26.length:Nat):Int))then (k0 0 8)else (aAW N k0 (k0 0 0) N 0 z20 z21 z22 z23 z24 z25 z26)))))) N 0 a0 a1 a2 a3 a4 a5 a6))))))))))))))))
def bSu:CfS R:=u1 (bRy N) 120 ⟨[.agg zb2],[]⟩ ⟨[pI,pI],[]⟩ (aDx N)
theorem aPp:FOK (bSu N:CfS R) (aAo T):=uCk (aMX N) bDo (Lp:=(cCk N)) (hl:=(aAi (l:=[(1018,[1,10],aR2),(8186,[1,16],aUc)]) (by kernel_rfl) ⟨(aDL (by decide) (aDL (by decide) (aAf (bBy N N)))),(aAf (bE1 N N)),trivial⟩))
def bXW (a0:ByteArray)(a1:zt7)(a2:zt1)(a3:zt2)(a4:zt0)(a5:zt7)(a6:zt6)(k0:Bool->Option R):Option R:=(aDx N a0 a1 a2 a3 a4 a5 a6 (fun y1 y2=>(k0 (decide (y2=0)))))
def bRz:CfS R:=u1 (bSu N) 84 ⟨[.agg zb2],[]⟩ ⟨[pB],[]⟩ (bXW N)
theorem aPC:FOK (bRz N:CfS R) (aAo T):=uCk (aPp N) c84
def aBm (N:Nat)(k0:Int->Bool->Option R)(k1:Int->Option R):Nat->zk1 (Int->zk0 (Option R))
 | 0,_,_,_,_,_,_,_,_,_,_=>none
 | n+1,b0,b1,b2,b3,b4,b5,b6,b7,b8,b9=>((at? b7 b0).bind fun x1=>(bif decide (b2<((x1.2.2.length:Nat):Int))then ((at? b7 b0).bind fun x2=>((at? x2.2.2 b2).bind fun x3=>((at? b5 x3.1).bind fun x4=>(bif decide (b1≠(-1))then (bif decide (x4.2.2.2.2≠b1)then (k0 0 false)else (aBm N k0 k1 n b0 x4.2.2.2.2 (w64 (b2+1)) b3 b4 b5 b6 b7 b8 b9))else (aBm N k0 k1 n b0 x4.2.2.2.2 (w64 (b2+1)) b3 b4 b5 b6 b7 b8 b9)))))else (k1 b1)))
def P243_l0:SP:=⟨[(1,pI),(2,.ptr 0 0),(6,pI),(7,pI)],[(0,.box zb2)]⟩
def aT2:Nat->P243_l0.den->KS R->Option R:=eS P243_l0 fun k=>aBm N (qS k .ret ⟨[(4,pI),(5,pB)],[]⟩) (qS k (.ex 0) ⟨[(6,pI)],[]⟩)
theorem bFz:LpG T P243_l0 (aT2 N (R:=R)) [1,2,6,7] aZo:=lpk (aPC N) 58
def aZD:LpS R:=aCc noL 58 (aAx P243_l0 (aT2 N N))
def aDb (a0:ByteArray)(a1:zt7)(a2:zt1)(a3:zt2)(a4:zt0)(a5:zt7)(a6:zt6)(a7:Int)(k0:Int->Bool->Option R):Option R:=(aBm N k0 (fun z7=>(k0 z7 true)) N a7 (-1) 0 a0 a1 a2 a3 a4 a5 a6)
def bQl:CfS R:=u1 (bRz N) 91 ⟨[.agg zb2,pI],[]⟩ ⟨[pI,pB],[]⟩ (aDb N)
theorem aPo:FOK (bQl N:CfS R) (aAo T):=uCk (aPC N) c91 (Lp:=(aZD N)) (hl:=(aAi (l:=[(58,[1,2,6,7],aZo)]) (by kernel_rfl) ⟨(aAf (bFz N N)),trivial⟩))
def aA4 (k0:Int->Option R)(k1:Option R):Nat->Int->zk0 (Option R)
 | 0,_,_,_,_,_,_,_,_=>none
 | n+1,b0,b1,b2,b3,b4,b5,b6,b7=>(bif decide (b0<((b5.length:Nat):Int))then (aDb N b1 b2 b3 b4 b5 b6 b7 b0 (fun y1 y2=>(bif (!y2)then (k0 30)else (aA4 k0 k1 n (w64 (b0+1)) b1 b2 b3 b4 b5 b6 b7))))else k1)
def P244_l0:SP:=⟨[(1,.ptr 0 0),(5,pI)],[(0,.box zb2)]⟩
def aVC:Nat->P244_l0.den->KS R->Option R:=eS P244_l0 fun k=>aA4 N (qS k .ret ⟨[(2,pI)],[]⟩) (qS k (.ex 0) ⟨[],[]⟩)
theorem bEC:LpG T P244_l0 (aVC N (R:=R)) [1,5] bAd:=lpk (aPo N) 58
def aYY:LpS R:=aCc noL 58 (aAx P244_l0 (aVC N N))
def aDd (a0:ByteArray)(a1:zt7)(a2:zt1)(a3:zt2)(a4:zt0)(a5:zt7)(a6:zt6)(k0:Int->Option R):Option R:=(aDx N a0 a1 a2 a3 a4 a5 a6 (fun y1 y2=>(bif decide (y2≠0)then (k0 y2)else (aA4 N k0 (k0 0) N 0 a0 a1 a2 a3 a4 a5 a6))))
def bRZ:CfS R:=u1 (bQl N) 41 ⟨[.agg zb2],[]⟩ ⟨[pI],[]⟩ (aDd N)
theorem aJR:FOK (bRZ N:CfS R) (aAo T):=uCk (aPo N) c41 (Lp:=(aYY N)) (hl:=(aAi (l:=[(58,[1,5],bAd)]) (by kernel_rfl) ⟨(aAf (bEC N N)),trivial⟩))
def bXJ (N:Nat)(k0:Bool->Option R)(k1:List ByteArray->List ByteArray->zk0 (Option R)):Nat->zt1->List ByteArray->List ByteArray->Int->zk0 (Option R)
 | 0,_,_,_,_,_,_,_,_,_,_,_=>none
 | n+1,b0,b1,b2,b3,b4,b5,b6,b7,b8,b9,b10=>(bif decide (b3<((b0.length:Nat):Int))then ((at? b6 b3).bind fun x1=>((at? b0 b3).bind fun x2=>(bif (true != (decide (x1.1=x2.1)&&(decide (x1.2.1=x2.2.1)&&(decide (x1.2.2.1=x2.2.2.1)&&(decide (x1.2.2.2.1=x2.2.2.2.1)&&(decide (x1.2.2.2.2=x2.2.2.2.2)&&true))))))then (k0 false)else (bXJ N k0 k1 n b0 b1 b2 (w64 (b3+1)) b4 b5 b6 b7 b8 b9 b10))))else (k1 b1 b2 b4 b5 b6 b7 b8 b9 b10))
def P245_l0:SP:=⟨[(3,pL zs2),(4,pL [.s]),(5,pL [.s]),(6,.ptr 0 0),(13,pI)],[(0,.box zb2)]⟩
def aVf:Nat->P245_l0.den->KS R->Option R:=eS P245_l0 fun k=>bXJ N (qS k .ret ⟨[(12,pB)],[]⟩) (qS k (.ex 0) ⟨[(4,pL [.s]),(5,pL [.s]),(6,.ptr 0 0)],[(0,.box zb2)]⟩)
theorem bDQ:LpG T P245_l0 (aVf N (R:=R)) [3,4,5,6,13] cAx:=lpk (aJR N) 58
def aZP:LpS R:=aCc noL 58 (aAx P245_l0 (aVf N N))
def bXK (N:Nat)(k0:Bool->Option R)(k1:List ByteArray->zk0 (Option R)):Nat->List ByteArray->List ByteArray->Int->zk0 (Option R)
 | 0,_,_,_,_,_,_,_,_,_,_=>none
 | n+1,b0,b1,b2,b3,b4,b5,b6,b7,b8,b9=>(bif decide (b2<((b0.length:Nat):Int))then ((at? b7 b2).bind fun x1=>((at? b0 b2).bind fun x2=>(bif decide (x1.1≠x2)then (k0 false)else (bXK N k0 k1 n b0 b1 (w64 (b2+1)) b3 b4 b5 b6 b7 b8 b9))))else (k1 b1 b3 b4 b5 b6 b7 b8 b9))
def P245_l1:SP:=⟨[(4,pL [.s]),(5,pL [.s]),(6,.ptr 0 0),(14,pI)],[(0,.box zb2)]⟩
def bY0:Nat->P245_l1.den->KS R->Option R:=eS P245_l1 fun k=>bXK N (qS k .ret ⟨[(12,pB)],[]⟩) (qS k (.ex 2) ⟨[(5,pL [.s]),(6,.ptr 0 0)],[(0,.box zb2)]⟩)
theorem cBp:LpG T P245_l1 (bY0 N (R:=R)) [4,5,6,14] cAy:=lpk (aJR N) 122 (Lp:=(aZP N))
def aZH:LpS R:=aCc (aZP N) 122 (aAx P245_l1 (bY0 N N))
def bXL (N:Nat)(k0:Bool->Option R)(k1:Option R):Nat->List ByteArray->Int->zk0 (Option R)
 | 0,_,_,_,_,_,_,_,_,_=>none
 | n+1,b0,b1,b2,b3,b4,b5,b6,b7,b8=>(bif decide (b1<((b0.length:Nat):Int))then ((at? b7 b1).bind fun x1=>((at? b0 b1).bind fun x2=>(bif decide (x1.1≠x2)then (k0 false)else (bXL N k0 k1 n b0 (w64 (b1+1)) b2 b3 b4 b5 b6 b7 b8))))else k1)
def P245_l2:SP:=⟨[(5,pL [.s]),(6,.ptr 0 0),(15,pI)],[(0,.box zb2)]⟩
def bY1:Nat->P245_l2.den->KS R->Option R:=eS P245_l2 fun k=>bXL N (qS k .ret ⟨[(12,pB)],[]⟩) (qS k (.ex 4) ⟨[],[]⟩)
theorem cBq:LpG T P245_l2 (bY1 N (R:=R)) [5,6,15] cAz:=lpk (aJR N) 250 (Lp:=(aZH N))
def aZr:LpS R:=aCc (aZH N) 250 (aAx P245_l2 (bY1 N N))
def bXS (a0:ByteArray)(a1:zt7)(a2:zt1)(a3:zt2)(a4:zt0)(a5:zt7)(a6:zt6)(a7:ByteArray)(a8:zt7)(a9:zt1)(a10 a11:List ByteArray)(k0:Bool->Option R):Option R:=(bXW N a0 a1 a2 a3 a4 a5 a6 (fun y1=>(bif (!y1)then (k0 false)else (bif decide (a0≠a7)then (k0 false)else (bXI N a1 a8 (fun y2=>(bif (!y2)then (k0 false)else (bif decide (((a2.length:Nat):Int)≠((a9.length:Nat):Int))then (k0 false)else (bif decide (((a4.length:Nat):Int)≠((a10.length:Nat):Int))then (k0 false)else (bif decide (((a5.length:Nat):Int)≠((a11.length:Nat):Int))then (k0 false)else (bif decide (((a6.length:Nat):Int)≠0)then (k0 false)else (aDd N a0 a1 a2 a3 a4 a5 a6 (fun y3=>(bif decide (y3≠0)then (k0 false)else (bXJ N k0 (fun z5 z6 z7 z8 z9 z10 z11 z12 z13=>(bXK N k0 (fun z15 z16 z17 z18 z19 z20 z21 z22=>(bXL N k0 (k0 true) N z15 0 z16 z17 z18 z19 z20 z21 z22)) N z5 z6 0 z7 z8 z9 z10 z11 z12 z13)) N a9 a10 a11 0 a0 a1 a2 a3 a4 a5 a6)))))))))))))))
def bR4:CfS R:=u1 (bRZ N) 16 ⟨[.agg zb2,pS,pL [.s,hI],pL zs2,pL [.s],pL [.s]],[]⟩ ⟨[pB],[]⟩ (bXS N)
theorem bCo:FOK (bR4 N:CfS R) (aAo T):=uCk (aJR N) c16 (Lp:=(aZr N)) (hl:=(aAi (l:=[(58,[3,4,5,6,13],cAx),(122,[4,5,6,14],cAy),(250,[5,6,15],cAz)]) (by kernel_rfl) ⟨(aDL (by decide) (aDL (by decide) (aAf (bDQ N N)))),(aDL (by decide) (aAf (cBp N N))),(aAf (cBq N N)),trivial⟩))
def cDK:Nat->Option (List Sh):=fun n=>if n=20000 then some [hI]else none
def aBK (k0:List Int->Option R):Nat->Int->zk0 (List Int->Option R)
 | 0,_,_,_,_,_,_,_,_,_=>none
 | n+1,b0,b1,b2,b3,b4,b5,b6,b7,b8=>(bif decide (b0<((b5.length:Nat):Int))then (aDb N b1 b2 b3 b4 b5 b6 b7 b0 (fun y1 y2=>(bif aBU (b8.length+1) 8 then (aBK k0 n (w64 (b0+1)) b1 b2 b3 b4 b5 b6 b7 (b8++[y1]))else none)))else (k0 b8))
def P246_l0:SP:=⟨[(1,.ptr 0 0),(3,.own 1),(4,pI)],[(0,.box zb2),(1,.arr [hI])]⟩
def bY2:Nat->P246_l0.den->KS R->Option R:=eS P246_l0 fun k=>aBK N (qS k (.ex 0) ⟨[(3,.own 0)],[(0,.arr [hI])]⟩)
theorem cBr:LpG T P246_l0 (bY2 N (R:=R)) [1,3,4] bAg:=lpk (bCo N) 58 (H:=cDK)
def cCl:LpS R:=aCc noL 58 (aAx P246_l0 (bY2 N N))
def aCZ (a0:ByteArray)(a1:zt7)(a2:zt1)(a3:zt2)(a4:zt0)(a5:zt7)(a6:zt6)(k0:List Int->Option R):Option R:=(aBK N k0 N 0 a0 a1 a2 a3 a4 a5 a6 [])
def cDj:CfS R:=u1 (bR4 N) 43 ⟨[.agg zb2],[]⟩ ⟨[pL [hI]],[]⟩ (aCZ N)
theorem bYl:FOK (cDj N:CfS R) (aAo T):=uCk (bCo N) c43 (H:=cDK) (Lp:=(cCl N)) (hl:=(aAi (l:=[(58,[1,3,4],bAg)]) (by kernel_rfl) ⟨(aAf (cBr N N)),trivial⟩))
def cCV:Nat->Option (List Sh):=fun n=>if n=4000 then some [.b]else none
def aCn (N:Nat)(k0:zt2->List Bool->Option R):Nat->zt2->zk9 (List Bool->Option R)
 | 0,_,_,_,_=>none
 | n+1,b0,b1,b2,b3=>(bif decide (b2<((b1.length:Nat):Int))then ((at? b1 b2).bind fun x1=>(bif inR x1 b3.length then ((b3[x1.toNat]?).bind fun x2=>(aCn N k0 n b0 b1 (w64 (b2+1)) (List.set b3 x1.toNat true)))else none))else (k0 b0 b3))
def P247_l0:SP:=⟨[(0,pL zs1),(1,pL [hI]),(5,.own 0),(6,pI)],[(0,.arr [.b])]⟩
def bY3:Nat->P247_l0.den->KS R->Option R:=eS P247_l0 fun k=>aCn N (qS k (.ex 0) ⟨[(0,pL zs1),(5,.own 0)],[(0,.arr [.b])]⟩)
theorem cBs:LpG T P247_l0 (bY3 N (R:=R)) [0,1,5,6] aU5:=lpk (bYl N) 58 (H:=cCV)
def cAa:LpS R:=aCc noL 58 (aAx P247_l0 (bY3 N N))
def aCo (N:Nat)(k0:zt2->Int->List Bool->Option R):Nat->zt2->zk1 (List Bool->Option R)
 | 0,_,_,_,_=>none
 | n+1,b0,b1,b2,b3=>(bif inR b1 b3.length then ((b3[b1.toNat]?).bind fun x1=>(bif x1 then ((at? b0 b1).bind fun x2=>(bif decide (b2<((x2.2.2.1.length:Nat):Int))then ((at? b0 b1).bind fun x3=>((at? x3.2.2.1 b2).bind fun x4=>(bif inR x4 b3.length then ((b3[x4.toNat]?).bind fun x5=>(aCo N k0 n b0 b1 (w64 (b2+1)) (List.set b3 x4.toNat true)))else none)))else (k0 b0 b1 b3)))else (k0 b0 b1 b3)))else none)
def P247_l2:SP:=⟨[(0,pL zs1),(5,.own 0),(7,pI),(8,pI)],[(0,.arr [.b])]⟩
def bY5:Nat->P247_l2.den->KS R->Option R:=eS P247_l2 fun k=>aCo N (qS k (.ex 4) ⟨[(0,pL zs1),(5,.own 0),(7,pI)],[(0,.arr [.b])]⟩)
theorem cBu:LpG T P247_l2 (bY5 N (R:=R)) [0,5,7,8] aWV:=lpk (bYl N) 7826 (H:=cCV) (Lp:=(cAa N))
def cAb:LpS R:=aCc (cAa N) 7826 (aAx P247_l2 (bY5 N N))
def aCq (k0:List Bool->Option R):Nat->zt2->Int->List Bool->Option R
 | 0,_,_,_=>none
 | n+1,b0,b1,b2=>(bif decide (0<=b1)then (aCo N (fun z6 z7 z8=>(aCq k0 n z6 (w64 (z7-1)) z8)) N b0 b1 0 b2)else (k0 b2))
def P247_l1:SP:=⟨[(0,pL zs1),(5,.own 0),(7,pI)],[(0,.arr [.b])]⟩
def bY4:Nat->P247_l1.den->KS R->Option R:=eS P247_l1 fun k=>aCq N (qS k (.ex 2) ⟨[(5,.own 0)],[(0,.arr [.b])]⟩)
theorem cBt:LpG T P247_l1 (bY4 N (R:=R)) [0,5,7] aUA:=lpk (bYl N) 122 (H:=cCV) (Lp:=(cAb N)) (hl:=(aAi (l:=[(7826,[0,5,7,8],aWV)]) (by kernel_rfl) ⟨(aAf (cBu N N)),trivial⟩))
def cCm:LpS R:=aCc (cAb N) 122 (aAx P247_l1 (bY4 N N))
def aEM (a0:zt2)(a1:List Int)(k0:List Bool->Option R):Option R:=(bif decide (0<=((a0.length:Nat):Int)∧((a0.length:Nat):Int)<=((a0.length:Nat):Int))then (bif aBU a0.length 1 then (aCn N (fun z3 z4=>(aCq N k0 N z3 (w64 (((z3.length:Nat):Int)-1)) z4)) N a0 a1 0 (List.replicate a0.length false))else none)else none)
def cDk:CfS R:=u1 (cDj N) 210 ⟨[pL zs1,pL [hI]],[]⟩ ⟨[pL [.b]],[]⟩ (aEM N)
theorem bYr:FOK (cDk N:CfS R) (aAo T):=uCk (bYl N) bGE (H:=cCV) (Lp:=(cCm N)) (hl:=(aAi (l:=[(58,[0,1,5,6],aU5),(122,[0,5,7],aUA)]) (by kernel_rfl) ⟨(aDL (by decide) (aDL (by decide) (aAf (cBs N N)))),(aAf (cBt N N)),trivial⟩))
def cC0:Nat->Option (List Sh):=fun n=>if n=7000 then some [.b]else if n=48000 then some [hI]else none
def aAN (N:Nat)(k0:Int->List Bool->Option R):Nat->zt2->Int->List Bool->Int->List Bool->Option R
 | 0,_,_,_,_,_=>none
 | n+1,b0,b1,b2,b3,b4=>(bif decide (b3<((b0.length:Nat):Int))then ((at? b2 b3).bind fun x1=>(bif x1 then ((at? b0 b3).bind fun x2=>(bif decide (x2.1=1)then ((at? b0 b3).bind fun x3=>(bif inR x3.2.2.2 b4.length then ((b4[x3.2.2.2.toNat]?).bind fun x4=>(aAN N k0 n b0 b1 b2 (w64 (b3+1)) (List.set b4 x3.2.2.2.toNat true)))else none))else (aAN N k0 n b0 b1 b2 (w64 (b3+1)) b4)))else (aAN N k0 n b0 b1 b2 (w64 (b3+1)) b4)))else (k0 b1 b4))
def P248_l0:SP:=⟨[(0,pL zs1),(2,pI),(7,pL [.b]),(8,.own 0),(9,pI)],[(0,.arr [.b])]⟩
def bY6:Nat->P248_l0.den->KS R->Option R:=eS P248_l0 fun k=>aAN N (qS k (.ex 0) ⟨[(2,pI),(8,.own 0)],[(0,.arr [.b])]⟩)
theorem cBv:LpG T P248_l0 (bY6 N (R:=R)) [0,2,7,8,9] aT9:=lpk (bYr N) 122 (H:=cC0)
def cAc:LpS R:=aCc noL 122 (aAx P248_l0 (bY6 N N))
def aAZ (N:Nat)(k0:List Int->Option R):Nat->zk1 (List Bool->List Int->Option R)
 | 0,_,_,_,_=>none
 | n+1,b0,b1,b2,b3=>(bif decide (b1<b0)then (bif inR b1 b2.length then ((b2[b1.toNat]?).bind fun x1=>(bif x1 then (bif aBU (b3.length+1) 8 then (aAZ N k0 n b0 (w64 (b1+1)) b2 (b3++[b1]))else none)else (aAZ N k0 n b0 (w64 (b1+1)) b2 b3)))else none)else (k0 b3))
def P248_l1:SP:=⟨[(2,pI),(8,.own 0),(10,.own 1),(11,pI)],[(0,.arr [.b]),(1,.arr [hI])]⟩
def bY7:Nat->P248_l1.den->KS R->Option R:=eS P248_l1 fun k=>aAZ N (qS k (.ex 2) ⟨[(10,.own 0)],[(0,.arr [hI])]⟩)
theorem cBw:LpG T P248_l1 (bY7 N (R:=R)) [2,8,10,11] aVn:=lpk (bYr N) 506 (H:=cC0) (Lp:=(cAc N))
def cCn:LpS R:=aCc (cAc N) 506 (aAx P248_l1 (bY7 N N))
def aC1 (a0:zt2)(a1:List Int)(a2:Int)(k0:List Int->Option R):Option R:=(aEM N a0 a1 (fun y1=>(bif decide (0<=a2∧a2<=a2)then (bif aBU a2.toNat 1 then (aAN N (fun z5 z6=>(aAZ N k0 N z5 0 z6 [])) N a0 a2 y1 0 (List.replicate a2.toNat false))else none)else none)))
def cDl:CfS R:=u1 (cDk N) 155 ⟨[pL zs1,pL [hI],pI],[]⟩ ⟨[pL [hI]],[]⟩ (aC1 N)
theorem bYs:FOK (cDl N:CfS R) (aAo T):=uCk (bYr N) bG0 (H:=cC0) (Lp:=(cCn N)) (hl:=(aAi (l:=[(122,[0,2,7,8,9],aT9),(506,[2,8,10,11],aVn)]) (by kernel_rfl) ⟨(aDL (by decide) (aAf (cBv N N))),(aAf (cBw N N)),trivial⟩))
def cC1:Nat->Option (List Sh):=fun n=>if n=12000 then some [hI]else if n=33000 then some [hI]else if n=74000 then some [hI]else none
def aCp (N:Nat)(k0:zk0 (List Int->Option R)):Nat->Int->zk0 (zk6 (List Int->Option R))
 | 0,_,_,_,_,_,_,_,_,_,_,_,_=>none
 | n+1,b0,b1,b2,b3,b4,b5,b6,b7,b8,b9,b10,b11=>(bif decide (b0<((b10.length:Nat):Int))then ((at? b10 b0).bind fun x1=>((at? b10 b0).bind fun x2=>(bif aBU (b11.length+2) 8 then (aCp N k0 n (w64 (b0+1)) b1 b2 b3 b4 b5 b6 b7 b8 b9 b10 (b11++[x1.2.1,x2.2.2]))else none)))else (k0 b1 b2 b3 b4 b5 b6 b7 b11))
def P249_l0:SP:=⟨[(2,.ptr 0 0),(5,.ptr 1 0),(6,.own 2),(7,pI)],[(0,.box zb2),(1,.box [pS,pI,pL zs5]),(2,.arr [hI])]⟩
def bY8:Nat->P249_l0.den->KS R->Option R:=eS P249_l0 fun k=>aCp N (qS k (.ex 0) ⟨[(2,.ptr 0 0),(6,.own 1)],[(0,.box zb2),(1,.arr [hI])]⟩)
theorem cBx:LpG T P249_l0 (bY8 N (R:=R)) [2,5,6,7] aS3:=lpk (bYs N) 122 (H:=cC1)
def cAd:LpS R:=aCc noL 122 (aAx P249_l0 (bY8 N N))
def aBR (N:Nat)(k0:List Int->Option R):zk4 (Int->zk0 (List Int->Option R))
 | 0,_,_,_,_,_,_,_,_,_,_=>none
 | n+1,b0,b1,b2,b3,b4,b5,b6,b7,b8,b9=>(bif decide (b1<((b0.length:Nat):Int))then ((at? b0 b1).bind fun x1=>(bif decide (((b3.length:Nat):Int)<=x1)then ((at? b0 b1).bind fun x2=>(bif aBU (b9.length+1) 8 then (aBR N k0 n b0 (w64 (b1+1)) b2 b3 b4 b5 b6 b7 b8 (b9++[(w64 (x2-((b3.length:Nat):Int)))]))else none))else (aBR N k0 n b0 (w64 (b1+1)) b2 b3 b4 b5 b6 b7 b8 b9)))else (k0 b9))
def P249_l1:SP:=⟨[(2,.ptr 0 0),(8,pL [hI]),(9,.own 1),(10,pI)],[(0,.box zb2),(1,.arr [hI])]⟩
def bY9:Nat->P249_l1.den->KS R->Option R:=eS P249_l1 fun k=>aBR N (qS k (.ex 2) ⟨[(9,.own 0)],[(0,.arr [hI])]⟩)
theorem cBy:LpG T P249_l1 (bY9 N (R:=R)) [2,8,9,10] aTd:=lpk (bYs N) 1018 (H:=cC1) (Lp:=(cAd N))
def cCo:LpS R:=aCc (cAd N) 1018 (aAx P249_l1 (bY9 N N))
def aEN (a0:ByteArray)(a1:zt7)(a2:zt1)(a3:zt2)(a4:zt0)(a5:zt7)(a6:zt6)(a7:Int)(k0:List Int->Option R):Option R:=((at? a4 a7).bind fun x1=>(aCp N (fun z3 z4 z5 z6 z7 z8 z9 z10=>(aC1 N z6 z10 (w64 (((z4.length:Nat):Int)+((z5.length:Nat):Int))) (fun y11=>(aBR N k0 N y11 0 z3 z4 z5 z6 z7 z8 z9 [])))) N 0 a0 a1 a2 a3 a4 a5 a6 x1.1 x1.2.1 x1.2.2 [x1.2.1]))
def cDm:CfS R:=u1 (cDl N) 121 ⟨[.agg zb2,pI],[]⟩ ⟨[pL [hI]],[]⟩ (aEN N)
theorem bYt:FOK (cDm N:CfS R) (aAo T):=uCk (bYs N) bKx (H:=cC1) (Lp:=(cCo N)) (hl:=(aAi (l:=[(122,[2,5,6,7],aS3),(1018,[2,8,9,10],aTd)]) (by kernel_rfl) ⟨(aDL (by decide) (aAf (cBx N N))),(aAf (cBy N N)),trivial⟩))
def cC2:Nat->Option (List Sh):=fun n=>if n=47000 then some [hI,hI]else none
def aAG (k0:zk9 (zk0 ((List (Int×Int))->Option R))):zk4 (zk1 (zk0 ((List (Int×Int))->Option R)))
 | 0,_,_,_,_,_,_,_,_,_,_,_=>none
 | n+1,b0,b1,b2,b3,b4,b5,b6,b7,b8,b9,b10=>(bif decide (b2<((b5.length:Nat):Int))then ((at? b0 b1).bind fun x1=>(bif decide (x1≠(-1))then ((at? b5 b2).bind fun x2=>((at? b0 b1).bind fun x3=>(bif decide (x2.2.2.2.2≠x3)then (aEN N b3 b4 b5 b6 b7 b8 b9 b1 (fun y4=>(aEJ N y4 b2 (fun y5=>(bif y5 then (bif aBU (b10.length+1) 16 then (aAG k0 n b0 b1 (w64 (b2+1)) b3 b4 b5 b6 b7 b8 b9 (b10++[(b1,b2)]))else none)else (aAG k0 n b0 b1 (w64 (b2+1)) b3 b4 b5 b6 b7 b8 b9 b10))))))else (aAG k0 n b0 b1 (w64 (b2+1)) b3 b4 b5 b6 b7 b8 b9 b10))))else (aAG k0 n b0 b1 (w64 (b2+1)) b3 b4 b5 b6 b7 b8 b9 b10)))else (k0 b0 b1 b3 b4 b5 b6 b7 b8 b9 b10))
def P250_l1:SP:=⟨[(1,.ptr 0 0),(3,pL [hI]),(4,.own 1),(5,pI),(6,pI)],[(0,.box zb2),(1,.arr [hI,hI])]⟩
def bZb:Nat->P250_l1.den->KS R->Option R:=eS P250_l1 fun k=>aAG N (qS k (.ex 2) ⟨[(1,.ptr 0 0),(3,pL [hI]),(4,.own 1),(5,pI)],[(0,.box zb2),(1,.arr [hI,hI])]⟩)
theorem cBA:LpG T P250_l1 (bZb N (R:=R)) [1,3,4,5,6] bAp:=lpk (bYt N) 7826 (H:=cC2)
def cAe:LpS R:=aCc noL 7826 (aAx P250_l1 (bZb N N))
def aBh (k0:(List (Int×Int))->Option R):zk4 (Int->zk0 ((List (Int×Int))->Option R))
 | 0,_,_,_,_,_,_,_,_,_,_=>none
 | n+1,b0,b1,b2,b3,b4,b5,b6,b7,b8,b9=>(bif decide (b1<((b0.length:Nat):Int))then (aAG N (fun z6 z7 z8 z9 z10 z11 z12 z13 z14 z15=>(aBh k0 n z6 (w64 (z7+1)) z8 z9 z10 z11 z12 z13 z14 z15)) N b0 b1 0 b2 b3 b4 b5 b6 b7 b8 b9)else (k0 b9))
def P250_l0:SP:=⟨[(1,.ptr 0 0),(3,pL [hI]),(4,.own 1),(5,pI)],[(0,.box zb2),(1,.arr [hI,hI])]⟩
def bZa:Nat->P250_l0.den->KS R->Option R:=eS P250_l0 fun k=>aBh N (qS k (.ex 0) ⟨[(4,.own 0)],[(0,.arr [hI,hI])]⟩)
theorem cBz:LpG T P250_l0 (bZa N (R:=R)) [1,3,4,5] aZ7:=lpk (bYt N) 122 (H:=cC2) (Lp:=(cAe N)) (hl:=(aAi (l:=[(7826,[1,3,4,5,6],bAp)]) (by kernel_rfl) ⟨(aAf (cBA N N)),trivial⟩))
def cCp:LpS R:=aCc (cAe N) 122 (aAx P250_l0 (bZa N N))
def aDe (a0:ByteArray)(a1:zt7)(a2:zt1)(a3:zt2)(a4:zt0)(a5:zt7)(a6:zt6)(k0:(List (Int×Int))->Option R):Option R:=(aCZ N a0 a1 a2 a3 a4 a5 a6 (fun y1=>(aBh N k0 N y1 0 a0 a1 a2 a3 a4 a5 a6 [])))
def cDn:CfS R:=u1 (cDm N) 42 ⟨[.agg zb2],[]⟩ ⟨[pL [hI,hI]],[]⟩ (aDe N)
theorem bYu:FOK (cDn N:CfS R) (aAo T):=uCk (bYt N) c42 (H:=cC2) (Lp:=(cCp N)) (hl:=(aAi (l:=[(122,[1,3,4,5],aZ7)]) (by kernel_rfl) ⟨(aAf (cBz N N)),trivial⟩))
def bXv (N:Nat)(k0:zk1 (zk1 (Int->zk0 (Option R)))):Nat->zk1 (zk1 (zk1 (zk0 (Option R))))
 | 0,_,_,_,_,_,_,_,_,_,_,_,_,_=>none
 | n+1,b0,b1,b2,b3,b4,b5,b6,b7,b8,b9,b10,b11,b12=>((at? b10 b4).bind fun x1=>(bif decide (b5<((x1.2.2.length:Nat):Int))then ((at? b10 b4).bind fun x2=>((at? x2.2.2 b5).bind fun x3=>(bif decide (x3.1=b0)then (bXv N k0 n b0 b4 b5 (w64 (b3+1)) b4 (w64 (b5+1)) b6 b7 b8 b9 b10 b11 b12)else (bXv N k0 n b0 b1 b2 b3 b4 (w64 (b5+1)) b6 b7 b8 b9 b10 b11 b12))))else (k0 b0 b1 b2 b3 b4 b6 b7 b8 b9 b10 b11 b12)))
def P251_l1:SP:=⟨[(1,pI),(2,.ptr 0 0),(7,pI),(8,pI),(9,pI),(10,pI),(11,pI)],[(0,.box zb2)]⟩
def bZd:Nat->P251_l1.den->KS R->Option R:=eS P251_l1 fun k=>bXv N (qS k (.ex 2) ⟨[(1,pI),(2,.ptr 0 0),(7,pI),(8,pI),(9,pI),(10,pI)],[(0,.box zb2)]⟩)
theorem cBC:LpG T P251_l1 (bZd N (R:=R)) [1,2,7,8,9,10,11] cAQ:=lpk (bYu N) 3730
def cAf:LpS R:=aCc noL 3730 (aAx P251_l1 (bZd N N))
def bXP (k0:zk1 (Int->Option R)):Nat->zk1 (zk1 (Int->zk0 (Option R)))
 | 0,_,_,_,_,_,_,_,_,_,_,_,_=>none
 | n+1,b0,b1,b2,b3,b4,b5,b6,b7,b8,b9,b10,b11=>(bif decide (b4<((b9.length:Nat):Int))then (bXv N (fun z4 z5 z6 z7 z8 z9 z10 z11 z12 z13 z14 z15=>(bXP k0 n z4 z5 z6 z7 (w64 (z8+1)) z9 z10 z11 z12 z13 z14 z15)) N b0 b1 b2 b3 b4 0 b5 b6 b7 b8 b9 b10 b11)else (k0 b1 b2 b3))
def P251_l0:SP:=⟨[(1,pI),(2,.ptr 0 0),(7,pI),(8,pI),(9,pI),(10,pI)],[(0,.box zb2)]⟩
def bZc:Nat->P251_l0.den->KS R->Option R:=eS P251_l0 fun k=>bXP N (qS k (.ex 0) ⟨[(7,pI),(8,pI),(9,pI)],[]⟩)
theorem cBB:LpG T P251_l0 (bZc N (R:=R)) [1,2,7,8,9,10] cAP:=lpk (bYu N) 58 (Lp:=(cAf N)) (hl:=(aAi (l:=[(3730,[1,2,7,8,9,10,11],cAQ)]) (by kernel_rfl) ⟨(aAf (cBC N N)),trivial⟩))
def cCq:LpS R:=aCc (cAf N) 58 (aAx P251_l0 (bZc N N))
def bXO (a0:ByteArray)(a1:zt7)(a2:zt1)(a3:zt2)(a4:zt0)(a5:zt7)(a6:zt6)(a7:Int)(k0:zk1 (Bool->Option R)):Option R:=(bXP N (fun z16 z17 z18=>(k0 z16 z17 (decide (z18=1)))) N a7 0 0 0 0 a0 a1 a2 a3 a4 a5 a6)
def cDo:CfS R:=u1 (cDn N) 87 ⟨[.agg zb2,pI],[]⟩ ⟨[pI,pI,pB],[]⟩ (bXO N)
theorem cA1:FOK (cDo N:CfS R) (aAo T):=uCk (bYu N) c87 (Lp:=(cCq N)) (hl:=(aAi (l:=[(58,[1,2,7,8,9,10],cAP)]) (by kernel_rfl) ⟨(aAf (cBB N N)),trivial⟩))
def bXT (N:Nat)(a0:ByteArray)(a1:zt7)(a2:zt1)(a3:zt2)(a4:zt0)(a5:zt7)(a6:zt6)(a7:Int)(k0:Bool->Option R):Option R:=((at? a3 a7).bind fun x1=>(bif decide (x1.1=0)then ((at? a3 a7).bind fun x2=>(k0 (decide (x2.2.2.2=1))))else (k0 false)))
def cDp:CfS R:=u1 (cDo N) 192 ⟨[.agg zb2,pI],[]⟩ ⟨[pB],[]⟩ (bXT N)
theorem cA2:FOK (cDp N:CfS R) (aAo T):=uCk (cA1 N) cDb
def bXZ (N:Nat)(a0:ByteArray)(a1:zt7)(a2:zt1)(a3:zt2)(a4:zt0)(a5:zt7)(a6:zt6)(a7:Int)(k0:Int->Option R):Option R:=((at? a3 a7).bind fun x1=>(bif decide (x1.1≠1)then (k0 (-1))else ((at? a3 a7).bind fun x2=>(k0 (max (-1) (w64 (x2.2.2.2-((a1.length:Nat):Int))))))))
def cDq:CfS R:=u1 (cDp N) 193 ⟨[.agg zb2,pI],[]⟩ ⟨[pI],[]⟩ (bXZ N)
theorem cA3:FOK (cDq N:CfS R) (aAo T):=uCk (cA2 N) cDc
def bXQ (a0:ByteArray)(a1:zt7)(a2:zt1)(a3:zt2)(a4:zt0)(a5:zt7)(a6:zt6)(a7:Int)(k0:Int->Option R):Option R:=((at? a2 a7).bind fun x1=>(bif decide (x1.2.1≠0)then (k0 (-1))else (bXO N a0 a1 a2 a3 a4 a5 a6 a7 (fun y2 y3 y4=>(bif (!y4)then (k0 (-1))else ((at? a4 y2).bind fun x5=>(bXT N a0 a1 a2 a3 a4 a5 a6 x5.2.1 (fun y6=>(bif (!y6)then (k0 (-1))else ((at? a4 y2).bind fun x7=>((at? x7.2.2 y3).bind fun x8=>(bXT N a0 a1 a2 a3 a4 a5 a6 x8.2.1 (fun y9=>(bif (!y9)then (k0 (-1))else ((at? a4 y2).bind fun x10=>((at? x10.2.2 y3).bind fun x11=>(bXZ N a0 a1 a2 a3 a4 a5 a6 x11.2.2 k0)))))))))))))))))
def cDr:CfS R:=u1 (cDq N) 138 ⟨[.agg zb2,pI],[]⟩ ⟨[pI],[]⟩ (bXQ N)
theorem bZA:FOK (cDr N:CfS R) (aAo T):=uCk (cA3 N) cC8
def cDL:Nat->Option (List Sh):=fun n=>if n=9000 then some [hI]else if n=32000 then some [hI]else if n=50000 then some [hI]else none
def bXe (k0:Int->zk0 (List Int->Option R)):Nat->zk5 (zk1 (zk0 (List Int->Option R)))
 | 0,_,_,_,_,_,_,_,_,_,_,_,_=>none
 | n+1,b0,b1,b2,b3,b4,b5,b6,b7,b8,b9,b10,b11=>((at? b8 b0).bind fun x1=>(bif decide (b3<((x1.2.2.length:Nat):Int))then ((at? b8 b0).bind fun x2=>((at? x2.2.2 b3).bind fun x3=>(bif aBU (b11.length+1) 8 then (aEJ N b1 b3 (fun y4=>(bif (!y4)then ((at? b8 b0).bind fun x5=>((at? x5.2.2 b3).bind fun x6=>(bif aBU ((b11++[x3.2.1]).length+1) 8 then (bXe k0 n b0 b1 b2 (w64 (b3+1)) b4 b5 b6 b7 b8 b9 b10 ((b11++[x3.2.1])++[x6.2.2]))else none)))else (bXe k0 n b0 b1 b2 (w64 (b3+1)) b4 b5 b6 b7 b8 b9 b10 (b11++[x3.2.1])))))else none)))else (k0 b2 b4 b5 b6 b7 b8 b9 b10 b11)))
def P255_l0:SP:=⟨[(1,pI),(2,pL [hI]),(3,pI),(4,.ptr 0 0),(9,.own 1),(10,pI)],[(0,.box zb2),(1,.arr [hI])]⟩
def bZe:Nat->P255_l0.den->KS R->Option R:=eS P255_l0 fun k=>bXe N (qS k (.ex 0) ⟨[(3,pI),(4,.ptr 0 0),(9,.own 1)],[(0,.box zb2),(1,.arr [hI])]⟩)
theorem cBD:LpG T P255_l0 (bZe N (R:=R)) [1,2,3,4,9,10] cAR:=lpk (bZA N) 58 (H:=cDL)
def cCr:LpS R:=aCc noL 58 (aAx P255_l0 (bZe N N))
def bXo (a0:ByteArray)(a1:zt7)(a2:zt1)(a3:zt2)(a4:zt0)(a5:zt7)(a6:zt6)(a7:Int)(a8:List Int)(a9:Int)(k0:Bool->Option R):Option R:=((at? a4 a7).bind fun x1=>(bXe N (fun z7 z8 z9 z10 z11 z12 z13 z14 z15=>(aC1 N z11 z15 (w64 (((z9.length:Nat):Int)+((z10.length:Nat):Int))) (fun y16=>(aEJ N y16 (w64 (((z9.length:Nat):Int)+z7)) k0)))) N a7 a8 a9 0 a0 a1 a2 a3 a4 a5 a6 [x1.2.1]))
def cDs:CfS R:=u1 (cDr N) 89 ⟨[.agg zb2,pI,pL [hI],pI],[]⟩ ⟨[pB],[]⟩ (bXo N)
theorem bYm:FOK (cDs N:CfS R) (aAo T):=uCk (bZA N) c89 (H:=cDL) (Lp:=(cCr N)) (hl:=(aAi (l:=[(58,[1,2,3,4,9,10],cAR)]) (by kernel_rfl) ⟨(aAf (cBD N N)),trivial⟩))
def cCW:Nat->Option (List Sh):=fun n=>if n=79000 then some [hI]else if n=100000 then some [hI,hI,hI]else none
def bW9 (k0:zk1 (Int->Bool->zk0 (zt8->Option R))):Nat->zk1 (zk1 (Int->Bool->Int->zk0 (zt8->Option R)))
 | 0,_,_,_,_,_,_,_,_,_,_,_,_,_,_,_=>none
 | n+1,b0,b1,b2,b3,b4,b5,b6,b7,b8,b9,b10,b11,b12,b13,b14=>(bif decide (b6<((b11.length:Nat):Int))then (bif decide (b6=b3)then (bif b5 then (bXo N b7 b8 b9 b10 b11 b12 b13 b6 [b4] b0 (fun y1=>(bW9 k0 n b0 b1 b2 b3 b4 (!y1) (w64 (b6+1)) b7 b8 b9 b10 b11 b12 b13 b14)))else (bW9 k0 n b0 b1 b2 b3 b4 false (w64 (b6+1)) b7 b8 b9 b10 b11 b12 b13 b14))else (bif b5 then (bXo N b7 b8 b9 b10 b11 b12 b13 b6 [] b0 (fun y2=>(bW9 k0 n b0 b1 b2 b3 b4 (!y2) (w64 (b6+1)) b7 b8 b9 b10 b11 b12 b13 b14)))else (bW9 k0 n b0 b1 b2 b3 b4 false (w64 (b6+1)) b7 b8 b9 b10 b11 b12 b13 b14)))else (k0 b0 b1 b2 b5 b7 b8 b9 b10 b11 b12 b13 b14))
def P256_l2:SP:=⟨[(1,.ptr 0 0),(3,.own 1),(4,pI),(5,pI),(6,pI),(7,pI),(8,pI),(10,pB),(11,pI)],[(0,.box zb2),(1,.arr zs5)]⟩
def bZh:Nat->P256_l2.den->KS R->Option R:=eS P256_l2 fun k=>bW9 N (qS k (.ex 4) ⟨[(1,.ptr 0 0),(3,.own 1),(4,pI),(5,pI),(6,pI),(10,pB)],[(0,.box zb2),(1,.arr zs5)]⟩)
theorem cBG:LpG T P256_l2 (bZh N (R:=R)) [1,3,4,5,6,7,8,10,11] cAI:=lpk (bYm N) 15284538 (H:=cCW)
def cAg:LpS R:=aCc noL 15284538 (aAx P256_l2 (bZh N N))
def bW8 (k0:Int->zk0 (zt8->Option R)):Nat->zk1 (Int->zk0 (zt8->Option R))
 | 0,_,_,_,_,_,_,_,_,_,_,_=>none
 | n+1,b0,b1,b2,b3,b4,b5,b6,b7,b8,b9,b10=>(bif decide (b2<((b5.length:Nat):Int))then (bXQ N b3 b4 b5 b6 b7 b8 b9 b2 (fun y1=>(bif decide (y1≠b0)then (bW8 k0 n b0 b1 (w64 (b2+1)) b3 b4 b5 b6 b7 b8 b9 b10)else ((at? b5 b2).bind fun x2=>((at? b5 b0).bind fun x3=>(bif decide (x2.2.2.2.2≠x3.2.2.2.2)then (bW8 k0 n b0 b1 (w64 (b2+1)) b3 b4 b5 b6 b7 b8 b9 b10)else (bXO N b3 b4 b5 b6 b7 b8 b9 b2 (fun y4 y5 y6=>(bW9 N (fun z7 z8 z9 z10 z11 z12 z13 z14 z15 z16 z17 z18=>(bif z10 then (bif aBU (z18.length+1) 24 then (bW8 k0 n z7 z8 (w64 (z9+1)) z11 z12 z13 z14 z15 z16 z17 (z18++[(z8,z7,z9)]))else none)else (bW8 k0 n z7 z8 (w64 (z9+1)) z11 z12 z13 z14 z15 z16 z17 z18))) N b0 b1 b2 y4 y5 true 0 b3 b4 b5 b6 b7 b8 b9 b10)))))))))else (k0 b0 b3 b4 b5 b6 b7 b8 b9 b10))
def P256_l1:SP:=⟨[(1,.ptr 0 0),(3,.own 1),(4,pI),(5,pI),(6,pI)],[(0,.box zb2),(1,.arr zs5)]⟩
def bZg:Nat->P256_l1.den->KS R->Option R:=eS P256_l1 fun k=>bW8 N (qS k (.ex 2) ⟨[(1,.ptr 0 0),(3,.own 1),(4,pI)],[(0,.box zb2),(1,.arr zs5)]⟩)
theorem cBF:LpG T P256_l1 (bZg N (R:=R)) [1,3,4,5,6] cAH:=lpk (bYm N) 14926 (H:=cCW) (Lp:=(cAg N)) (hl:=(aAi (l:=[(15284538,[1,3,4,5,6,7,8,10,11],cAI)]) (by kernel_rfl) ⟨(aAf (cBG N N)),trivial⟩))
def cAh:LpS R:=aCc (cAg N) 14926 (aAx P256_l1 (bZg N N))
def bXc (k0:zt8->Option R):Nat->Int->zk0 (zt8->Option R)
 | 0,_,_,_,_,_,_,_,_,_=>none
 | n+1,b0,b1,b2,b3,b4,b5,b6,b7,b8=>(bif decide (b0<((b3.length:Nat):Int))then (bXQ N b1 b2 b3 b4 b5 b6 b7 b0 (fun y1=>(bif decide (y1<0)then (bXc k0 n (w64 (b0+1)) b1 b2 b3 b4 b5 b6 b7 b8)else ((at? b3 y1).bind fun x2=>((at? b3 b0).bind fun x3=>(bif decide (x2.2.2.2.2=x3.2.2.2.2)then (bXc k0 n (w64 (b0+1)) b1 b2 b3 b4 b5 b6 b7 b8)else (bW8 N (fun z19 z20 z21 z22 z23 z24 z25 z26 z27=>(bXc k0 n (w64 (z19+1)) z20 z21 z22 z23 z24 z25 z26 z27)) N b0 y1 0 b1 b2 b3 b4 b5 b6 b7 b8)))))))else (k0 b8))
def P256_l0:SP:=⟨[(1,.ptr 0 0),(3,.own 1),(4,pI)],[(0,.box zb2),(1,.arr zs5)]⟩
def bZf:Nat->P256_l0.den->KS R->Option R:=eS P256_l0 fun k=>bXc N (qS k (.ex 0) ⟨[(3,.own 0)],[(0,.arr zs5)]⟩)
theorem cBE:LpG T P256_l0 (bZf N (R:=R)) [1,3,4] cAG:=lpk (bYm N) 58 (H:=cCW) (Lp:=(cAh N)) (hl:=(aAi (l:=[(14926,[1,3,4,5,6],cAH)]) (by kernel_rfl) ⟨(aAf (cBF N N)),trivial⟩))
def cCs:LpS R:=aCc (cAh N) 58 (aAx P256_l0 (bZf N N))
def bX0 (a0:ByteArray)(a1:zt7)(a2:zt1)(a3:zt2)(a4:zt0)(a5:zt7)(a6:zt6)(k0:zt8->Option R):Option R:=(bXc N k0 N 0 a0 a1 a2 a3 a4 a5 a6 [])
def cDt:CfS R:=u1 (cDs N) 61 ⟨[.agg zb2],[]⟩ ⟨[pL zs5],[]⟩ (bX0 N)
theorem bYv:FOK (cDt N:CfS R) (aAo T):=uCk (bYm N) c61 (H:=cCW) (Lp:=(cCs N)) (hl:=(aAi (l:=[(58,[1,3,4],cAG)]) (by kernel_rfl) ⟨(aAf (cBE N N)),trivial⟩))
def cC3:Nat->Option (List Sh):=fun n=>if n=57000 then some [hI]else none
def bW4 (k0:List Int->(List (Int×Int))->zt8->Int->zk0 (List Int->Option R)):zk4 ((List (Int×Int))->zt8->zk1 (zk0 (List Int->Option R)))
 | 0,_,_,_,_,_,_,_,_,_,_,_,_,_=>none
 | n+1,b0,b1,b2,b3,b4,b5,b6,b7,b8,b9,b10,b11,b12=>(bif decide (b4<((b2.length:Nat):Int))then ((at? b2 b4).bind fun x1=>(bXO N b5 b6 b7 b8 b9 b10 b11 x1.2.1 (fun y2 y3 y4=>((at? b2 b4).bind fun x5=>((at? b1 b3).bind fun x6=>(bif decide (x5.1=x6.2)then ((at? b1 b3).bind fun x7=>(bif decide (y2=x7.1)then (bif aBU (b12.length+1) 8 then (bW4 k0 n b0 b1 b2 b3 (w64 (b4+1)) b5 b6 b7 b8 b9 b10 b11 (b12++[y3]))else none)else (bW4 k0 n b0 b1 b2 b3 (w64 (b4+1)) b5 b6 b7 b8 b9 b10 b11 b12)))else (bW4 k0 n b0 b1 b2 b3 (w64 (b4+1)) b5 b6 b7 b8 b9 b10 b11 b12)))))))else (k0 b0 b1 b2 b3 b5 b6 b7 b8 b9 b10 b11 b12))
def P257_l1:SP:=⟨[(1,pL [hI]),(2,.ptr 0 0),(6,pL [hI,hI]),(7,pL zs5),(8,pI),(9,.own 1),(10,pI)],[(0,.box zb2),(1,.arr [hI])]⟩
def bZj:Nat->P257_l1.den->KS R->Option R:=eS P257_l1 fun k=>bW4 N (qS k (.ex 2) ⟨[(1,pL [hI]),(2,.ptr 0 0),(6,pL [hI,hI]),(7,pL zs5),(8,pI),(9,.own 1)],[(0,.box zb2),(1,.arr [hI])]⟩)
theorem cBI:LpG T P257_l1 (bZj N (R:=R)) [1,2,6,7,8,9,10] cAC:=lpk (bYv N) 14922 (H:=cC3)
def cAi:LpS R:=aCc noL 14922 (aAx P257_l1 (bZj N N))
def bXb (k0:Int->Bool->Option R)(k1:Option R):zk4 ((List (Int×Int))->zt8->Int->zk0 (Option R))
 | 0,_,_,_,_,_,_,_,_,_,_,_=>none
 | n+1,b0,b1,b2,b3,b4,b5,b6,b7,b8,b9,b10=>(bif decide (b3<((b1.length:Nat):Int))then (bW4 N (fun z8 z9 z10 z11 z12 z13 z14 z15 z16 z17 z18 z19=>((at? z9 z11).bind fun x20=>(aEJ N z8 x20.2 (fun y21=>(bif (!y21)then ((at? z9 z11).bind fun x22=>((at? z9 z11).bind fun x23=>(bXo N z12 z13 z14 z15 z16 z17 z18 x22.1 z19 x23.2 (fun y24=>(bif y24 then ((at? z9 z11).bind fun x25=>(k0 x25.1 true))else (bXb k0 k1 n z8 z9 z10 (w64 (z11+1)) z12 z13 z14 z15 z16 z17 z18))))))else (bXb k0 k1 n z8 z9 z10 (w64 (z11+1)) z12 z13 z14 z15 z16 z17 z18)))))) N b0 b1 b2 b3 0 b4 b5 b6 b7 b8 b9 b10 [])else k1)
def P257_l0:SP:=⟨[(1,pL [hI]),(2,.ptr 0 0),(6,pL [hI,hI]),(7,pL zs5),(8,pI)],[(0,.box zb2)]⟩
def bZi:Nat->P257_l0.den->KS R->Option R:=eS P257_l0 fun k=>bXb N (qS k .ret ⟨[(4,pI),(5,pB)],[]⟩) (qS k (.ex 0) ⟨[],[]⟩)
theorem cBH:LpG T P257_l0 (bZi N (R:=R)) [1,2,6,7,8] cAB:=lpk (bYv N) 58 (H:=cC3) (Lp:=(cAi N)) (hl:=(aAi (l:=[(14922,[1,2,6,7,8,9,10],cAC)]) (by kernel_rfl) ⟨(aAf (cBI N N)),trivial⟩))
def cCt:LpS R:=aCc (cAi N) 58 (aAx P257_l0 (bZi N N))
def bXD (a0:ByteArray)(a1:zt7)(a2:zt1)(a3:zt2)(a4:zt0)(a5:zt7)(a6:zt6)(a7:List Int)(k0:Int->Bool->Option R):Option R:=(aDe N a0 a1 a2 a3 a4 a5 a6 (fun y1=>(bX0 N a0 a1 a2 a3 a4 a5 a6 (fun y2=>(bXb N k0 (k0 0 false) N a7 y1 y2 0 a0 a1 a2 a3 a4 a5 a6)))))
def cDu:CfS R:=u1 (cDt N) 18 ⟨[.agg zb2,pL [hI]],[]⟩ ⟨[pI,pB],[]⟩ (bXD N)
theorem bZB:FOK (cDu N:CfS R) (aAo T):=uCk (bYv N) c18 (H:=cC3) (Lp:=(cCt N)) (hl:=(aAi (l:=[(58,[1,2,6,7,8],cAB)]) (by kernel_rfl) ⟨(aAf (cBH N N)),trivial⟩))
def cDM:Nat->Option (List Sh):=fun n=>if n=6000 then some [hI]else none
def bW5 (N:Nat)(k0:List Int->Option R):Nat->Int->zk0 (List Int->Option R)
 | 0,_,_,_,_,_,_,_,_,_=>none
 | n+1,b0,b1,b2,b3,b4,b5,b6,b7,b8=>(bif decide (b0<((b3.length:Nat):Int))then ((at? b3 b0).bind fun x1=>(bif inR b0 b8.length then ((b8[b0.toNat]?).bind fun x2=>(bW5 N k0 n (w64 (b0+1)) b1 b2 b3 b4 b5 b6 b7 (List.set b8 b0.toNat x1.2.2.2.1)))else none))else (k0 b8))
def P258_l0:SP:=⟨[(1,.ptr 0 0),(3,.own 1),(4,pI)],[(0,.box zb2),(1,.arr [hI])]⟩
def bZk:Nat->P258_l0.den->KS R->Option R:=eS P258_l0 fun k=>bW5 N (qS k (.ex 0) ⟨[(3,.own 0)],[(0,.arr [hI])]⟩)
theorem cBJ:LpG T P258_l0 (bZk N (R:=R)) [1,3,4] cAD:=lpk (bZB N) 58 (H:=cDM)
def cCu:LpS R:=aCc noL 58 (aAx P258_l0 (bZk N N))
def bXE (a0:ByteArray)(a1:zt7)(a2:zt1)(a3:zt2)(a4:zt0)(a5:zt7)(a6:zt6)(k0:List Int->Option R):Option R:=(bif decide (0<=((a2.length:Nat):Int)∧((a2.length:Nat):Int)<=((a2.length:Nat):Int))then (bif aBU a2.length 8 then (bW5 N k0 N 0 a0 a1 a2 a3 a4 a5 a6 (List.replicate a2.length 0))else none)else none)
def cDv:CfS R:=u1 (cDu N) 19 ⟨[.agg zb2],[]⟩ ⟨[pL [hI]],[]⟩ (bXE N)
theorem cA4:FOK (cDv N:CfS R) (aAo T):=uCk (bZB N) c19 (H:=cDM) (Lp:=(cCu N)) (hl:=(aAi (l:=[(58,[1,3,4],cAD)]) (by kernel_rfl) ⟨(aAf (cBJ N N)),trivial⟩))
def bXH (N:Nat)(a0 a1:Int)(k0:Int->Option R):Option R:=(bif decide (a1=0)then none else (bif decide ((Int.tmod a0 a1)<0)then (k0 (w64 ((Int.tmod a0 a1)+a1)))else (k0 (Int.tmod a0 a1))))
def cDw:CfS R:=u1 (cDv N) 21 ⟨[pI,pI],[]⟩ ⟨[pI],[]⟩ (bXH N)
theorem bZC:FOK (cDw N:CfS R) (aAo T):=uCk (cA4 N) c21
def bWX (N:Nat)(k0:List Int->Option R):Nat->zk1 (zk0 (List Int->Option R))
 | 0,_,_,_,_,_,_,_,_,_,_=>none
 | n+1,b0,b1,b2,b3,b4,b5,b6,b7,b8,b9=>(bif decide (b1<((b4.length:Nat):Int))then ((at? b4 b1).bind fun x1=>(bif decide (x1.2.1=1)then ((at? b4 b1).bind fun x2=>(bif decide (x2.2.2.2.2=b0)then ((at? b4 b1).bind fun x3=>(bif inR b1 b9.length then ((b9[b1.toNat]?).bind fun x4=>(bWX N k0 n b0 (w64 (b1+1)) b2 b3 b4 b5 b6 b7 b8 (List.set b9 b1.toNat x3.2.2.2.1)))else none))else (bWX N k0 n b0 (w64 (b1+1)) b2 b3 b4 b5 b6 b7 b8 b9)))else (bWX N k0 n b0 (w64 (b1+1)) b2 b3 b4 b5 b6 b7 b8 b9)))else (k0 b9))
def P260_l0:SP:=⟨[(1,pI),(3,.ptr 0 0),(7,.own 1),(8,pI)],[(0,.box zb2),(1,.arr [hI])]⟩
def bZl:Nat->P260_l0.den->KS R->Option R:=eS P260_l0 fun k=>bWX N (qS k (.ex 0) ⟨[(7,.own 0)],[(0,.arr [hI])]⟩)
theorem cBK:LpG T P260_l0 (bZl N (R:=R)) [1,3,7,8] cAS:=lpk (bZC N) 58
def cCv:LpS R:=aCc noL 58 (aAx P260_l0 (bZl N N))
def bXn (a0:ByteArray)(a1:zt7)(a2:zt1)(a3:zt2)(a4:zt0)(a5:zt7)(a6:zt6)(a7:Int)(a8:List Int)(k0:List Int->Option R):Option R:=(aCX N a8 (fun y1=>(bWX N k0 N a7 0 a0 a1 a2 a3 a4 a5 a6 y1)))
def cDx:CfS R:=u1 (cDw N) 90 ⟨[.agg zb2,pI,pL [hI]],[]⟩ ⟨[pL [hI]],[]⟩ (bXn N)
theorem cA5:FOK (cDx N:CfS R) (aAo T):=uCk (bZC N) c90 (Lp:=(cCv N)) (hl:=(aAi (l:=[(58,[1,3,7,8],cAS)]) (by kernel_rfl) ⟨(aAf (cBK N N)),trivial⟩))
def bW2 (a0 a1:List Int)(k0:List Int->Option R):Option R:=(aCX N a0 (fun y1=>(bif aBU (y1.length+a1.length) 8 then (k0 (y1++a1))else none)))
def cDy:CfS R:=u1 (cDx N) 95 ⟨[pL [hI],pL [hI]],[]⟩ ⟨[pL [hI]],[]⟩ (bW2 N)
theorem cA6:FOK (cDy N:CfS R) (aAo T):=uCk (cA5 N) c95
def bXG (N:Nat)(a0:Bool)(k0:Int->Option R):Option R:=(bif a0 then (k0 1)else (k0 0))
def cDz:CfS R:=u1 (cDy N) 32 ⟨[pB],[]⟩ ⟨[pI],[]⟩ (bXG N)
theorem cA7:FOK (cDz N:CfS R) (aAo T):=uCk (cA6 N) c32
def bXd (a0 a1:Int)(k0:Int->Option R):Option R:=(aEO N (w64 (a1-1)) (fun y1=>(bif decide (y1<=a0)then (aEO N a1 (fun y2=>(k0 (w64 (a0-y2)))))else (k0 a0))))
def cDA:CfS R:=u1 (cDz N) 211 ⟨[pI,pI],[]⟩ ⟨[pI],[]⟩ (bXd N)
theorem cA8:FOK (cDA N:CfS R) (aAo T):=uCk (cA7 N) cDd
def bXw (a0 a1:Int)(a2:List Int)(a3:Int)(a4 a5 a6:List Int)(k0:Int->Option R):Option R:=(aEO N a1 (fun y1=>(bif decide (a0=0)then (k0 a3)else (bif decide (a0=1)then ((at? a6 a3).bind fun x2=>(k0 x2))else (bif decide (a0=2)then ((at? a4 0).bind fun x3=>(k0 (w64 ((w64 (y1-1))-x3))))else (bif decide (a0=3)then ((at? a4 0).bind fun x4=>((at? a4 1).bind fun x5=>(k0 (bLe .i64 x4 x5))))else (bif decide (a0=4)then ((at? a4 0).bind fun x6=>((at? a4 1).bind fun x7=>(k0 (orI .i64 x6 x7))))else (bif decide (a0=5)then ((at? a4 0).bind fun x8=>((at? a4 1).bind fun x9=>(k0 (bQA .i64 x8 x9))))else (bif decide (a0=6)then ((at? a4 0).bind fun x10=>((at? a4 1).bind fun x11=>(bif decide (y1=0)then none else (k0 (Int.tmod (w64 (x10+x11)) y1)))))else (bif decide (a0=7)then ((at? a4 0).bind fun x12=>((at? a4 1).bind fun x13=>(bif decide (y1=0)then none else (k0 (Int.tmod (w64 ((w64 (x12-x13))+y1)) y1)))))else (bif decide (a0=8)then ((at? a4 0).bind fun x14=>((at? a4 1).bind fun x15=>(bif decide (y1=0)then none else (k0 (Int.tmod (w64 (x14*x15)) y1)))))else (bif decide (a0=9)then ((at? a4 0).bind fun x16=>((at? a4 1).bind fun x17=>(bXG N (decide (x16=x17)) k0)))else (bif decide (a0=10)then ((at? a4 0).bind fun x19=>((at? a4 1).bind fun x20=>(bXG N (decide (x19<x20)) k0)))else (bif decide (a0=11)then ((at? a4 0).bind fun x22=>((at? a5 0).bind fun x23=>(bXd N x22 x23 (fun y24=>((at? a4 1).bind fun x25=>((at? a5 1).bind fun x26=>(bXd N x25 x26 (fun y27=>(bXG N (decide (y24<y27)) k0)))))))))else (bif decide (a0=12)then ((at? a4 0).bind fun x29=>(bif decide (x29=1)then ((at? a4 1).bind fun x30=>(k0 x30))else ((at? a4 2).bind fun x31=>(k0 x31))))else (bif decide (a0=13)then ((at? a4 0).bind fun x32=>((at? a5 1).bind fun x33=>(aEO N x33 (fun y34=>((at? a4 1).bind fun x35=>(k0 (w64 ((w64 (x32*y34))+x35))))))))else (bif decide (a0=14)then ((at? a4 0).bind fun x36=>(aEO N a3 (fun y37=>(bif decide (y37=0)then none else (bif decide (y1=0)then none else (k0 (Int.tmod (w64 (Int.tdiv x36 y37)) y1)))))))else (bif decide (a0=15)then ((at? a4 0).bind fun x38=>(k0 x38))else (bif decide (a0=16)then ((at? a4 0).bind fun x39=>((at? a5 0).bind fun x40=>(bXd N x39 x40 (fun y41=>(bif decide (y1=0)then none else (k0 (Int.tmod (w64 (y41+y1)) y1)))))))else (bif decide (a0=17)then ((at? a4 1).bind fun x42=>(bif decide (a1<=x42)then (k0 0)else ((at? a4 0).bind fun x43=>((at? a4 1).bind fun x44=>(aEO N x44 (fun y45=>(bif decide (y1=0)then none else (k0 (Int.tmod (w64 (x43*y45)) y1)))))))))else ((at? a4 1).bind fun x46=>(bif decide (a1<=x46)then (k0 0)else ((at? a4 0).bind fun x47=>((at? a4 1).bind fun x48=>(aEO N x48 (fun y49=>(bif decide (y49=0)then none else (k0 (w64 (Int.tdiv x47 y49))))))))))))))))))))))))))))))
def cDB:CfS R:=u1 (cDA N) 156 ⟨[.agg zb7,pL [hI],pL [hI],pL [hI]],[]⟩ ⟨[pI],[]⟩ (bXw N)
theorem bYw:FOK (cDB N:CfS R) (aAo T):=uCk (cA8 N) cDa
def cC4:Nat->Option (List Sh):=fun n=>if n=4000 then some [hI]else if n=34000 then some [hI]else if n=49000 then some [hI]else none
def bWZ (N:Nat)(k0:zt2->zk9 (zk3 (List Int->Option R))):Nat->zt2->List Int->zk1 (zk3 (List Int->Option R))
 | 0,_,_,_,_,_,_,_=>none
 | n+1,b0,b1,b2,b3,b4,b5,b6=>((at? b0 b2).bind fun x1=>(bif decide (b3<((x1.2.2.1.length:Nat):Int))then ((at? b0 b2).bind fun x2=>((at? x2.2.2.1 b3).bind fun x3=>(bif inR x3 b4.length then ((b4[x3.toNat]?).bind fun x4=>(bif aBU (b5.length+1) 8 then ((at? b0 b2).bind fun x5=>((at? x5.2.2.1 b3).bind fun x6=>((at? b0 x6).bind fun x7=>(bif aBU (b6.length+1) 8 then (bWZ N k0 n b0 b1 b2 (w64 (b3+1)) b4 (b5++[x4]) (b6++[x7.2.1]))else none))))else none))else none)))else (k0 b0 b1 b2 b4 b5 b6)))
def P265_l1:SP:=⟨[(0,pL zs1),(1,pL [hI]),(5,.own 0),(6,pI),(7,.own 1),(8,.own 2),(9,pI)],[(0,.arr [hI]),(1,.arr [hI]),(2,.arr [hI])]⟩
def bZn:Nat->P265_l1.den->KS R->Option R:=eS P265_l1 fun k=>bWZ N (qS k (.ex 2) ⟨[(0,pL zs1),(1,pL [hI]),(5,.own 0),(6,pI),(7,.own 1),(8,.own 2)],[(0,.arr [hI]),(1,.arr [hI]),(2,.arr [hI])]⟩)
theorem cBM:LpG T P265_l1 (bZn N (R:=R)) [0,1,5,6,7,8,9] cAV:=lpk (bYw N) 14922 (H:=cC4)
def cAj:LpS R:=aCc noL 14922 (aAx P265_l1 (bZn N N))
def bWW (k0:List Int->Option R):Nat->zt2->List Int->zk5 (Option R)
 | 0,_,_,_,_=>none
 | n+1,b0,b1,b2,b3=>(bif decide (b2<((b0.length:Nat):Int))then (bWZ N (fun z8 z9 z10 z11 z12 z13=>((at? z8 z10).bind fun x14=>(bXw N x14.1 x14.2.1 x14.2.2.1 x14.2.2.2 z12 z13 z9 (fun y15=>(bif inR z10 z11.length then ((z11[z10.toNat]?).bind fun x16=>(bWW k0 n z8 z9 (w64 (z10+1)) (List.set z11 z10.toNat y15)))else none))))) N b0 b1 b2 0 b3 [] [])else (k0 b3))
def P265_l0:SP:=⟨[(0,pL zs1),(1,pL [hI]),(5,.own 0),(6,pI)],[(0,.arr [hI])]⟩
def bZm:Nat->P265_l0.den->KS R->Option R:=eS P265_l0 fun k=>bWW N (qS k (.ex 0) ⟨[(5,.own 0)],[(0,.arr [hI])]⟩)
theorem cBL:LpG T P265_l0 (bZm N (R:=R)) [0,1,5,6] cAU:=lpk (bYw N) 58 (H:=cC4) (Lp:=(cAj N)) (hl:=(aAi (l:=[(14922,[0,1,5,6,7,8,9],cAV)]) (by kernel_rfl) ⟨(aAf (cBM N N)),trivial⟩))
def cCw:LpS R:=aCc (cAj N) 58 (aAx P265_l0 (bZm N N))
def bW3 (a0:zt2)(a1:List Int)(k0:List Int->Option R):Option R:=(bif decide (0<=((a0.length:Nat):Int)∧((a0.length:Nat):Int)<=((a0.length:Nat):Int))then (bif aBU a0.length 8 then (bWW N k0 N a0 a1 0 (List.replicate a0.length 0))else none)else none)
def cDC:CfS R:=u1 (cDB N) 94 ⟨[pL zs1,pL [hI]],[]⟩ ⟨[pL [hI]],[]⟩ (bW3 N)
theorem cA9:FOK (cDC N:CfS R) (aAo T):=uCk (bYw N) c94 (H:=cC4) (Lp:=(cCw N)) (hl:=(aAi (l:=[(58,[0,1,5,6],cAU)]) (by kernel_rfl) ⟨(aAf (cBL N N)),trivial⟩))
def bXz (a0:ByteArray)(a1:zt7)(a2:zt1)(a3:zt2)(a4:zt0)(a5:zt7)(a6:zt6)(a7:Int)(a8 a9:List Int)(k0:Bool->Option R):Option R:=(bW2 N a8 a9 (fun y1=>(bW3 N a3 y1 (fun y2=>((at? a4 a7).bind fun x3=>((at? y2 x3.2.1).bind fun x4=>(k0 (decide (x4=1)))))))))
def cDD:CfS R:=u1 (cDC N) 92 ⟨[.agg zb2,pI,pL [hI],pL [hI]],[]⟩ ⟨[pB],[]⟩ (bXz N)
theorem bZD:FOK (cDD N:CfS R) (aAo T):=uCk (cA9 N) c92
def bWY (N:Nat)(k0:List Int->Option R):zk4 (zt8->zk5 (Option R))
 | 0,_,_,_,_=>none
 | n+1,b0,b1,b2,b3=>(bif decide (b2<((b1.length:Nat):Int))then ((at? b1 b2).bind fun x1=>((at? b0 x1.2.1).bind fun x2=>(bif decide (x2=1)then ((at? b1 b2).bind fun x3=>((at? b1 b2).bind fun x4=>((at? b0 x4.2.2).bind fun x5=>(bif inR x3.1 b3.length then ((b3[x3.1.toNat]?).bind fun x6=>(bWY N k0 n b0 b1 (w64 (b2+1)) (List.set b3 x3.1.toNat x5)))else none))))else (bWY N k0 n b0 b1 (w64 (b2+1)) b3))))else (k0 b3))
def P267_l0:SP:=⟨[(9,pL [hI]),(10,.own 0),(11,pL zs5),(12,pI)],[(0,.arr [hI])]⟩
def bZo:Nat->P267_l0.den->KS R->Option R:=eS P267_l0 fun k=>bWY N (qS k (.ex 0) ⟨[(10,.own 0)],[(0,.arr [hI])]⟩)
theorem cBN:LpG T P267_l0 (bZo N (R:=R)) [9,10,11,12] cAT:=lpk (bZD N) 250
def cCx:LpS R:=aCc noL 250 (aAx P267_l0 (bZo N N))
def bXu (a0:ByteArray)(a1:zt7)(a2:zt1)(a3:zt2)(a4:zt0)(a5:zt7)(a6:zt6)(a7:Int)(a8 a9:List Int)(k0:List Int->Option R):Option R:=(bW2 N a8 a9 (fun y1=>(bW3 N a3 y1 (fun y2=>(aCX N a9 (fun y3=>((at? a4 a7).bind fun x4=>(bWY N k0 N y2 x4.2.2 0 y3))))))))
def cDE:CfS R:=u1 (cDD N) 93 ⟨[.agg zb2,pI,pL [hI],pL [hI]],[]⟩ ⟨[pL [hI]],[]⟩ (bXu N)
theorem bZE:FOK (cDE N:CfS R) (aAo T):=uCk (bZD N) c93 (Lp:=(cCx N)) (hl:=(aAi (l:=[(250,[9,10,11,12],cAT)]) (by kernel_rfl) ⟨(aAf (cBN N N)),trivial⟩))
def cDN:Nat->Option (List Sh):=fun n=>if n=46000 then some [hI]else none
def bW0 (k0:List Int->zk0 (Int->zk3 (Option R))):zk4 (Int->zk0 (Int->zk3 (Option R)))
 | 0,_,_,_,_,_,_,_,_,_,_,_,_=>none
 | n+1,b0,b1,b2,b3,b4,b5,b6,b7,b8,b9,b10,b11=>(bif decide (b1<((b6.length:Nat):Int))then (aDb N b2 b3 b4 b5 b6 b7 b8 b1 (fun y1 y2=>(bif decide (y1=b9)then (bXz N b2 b3 b4 b5 b6 b7 b8 b1 b10 b0 (fun y3=>(bif y3 then (bXu N b2 b3 b4 b5 b6 b7 b8 b1 b10 b0 (fun y4=>(bif aBU (b11.length+1) 8 then (bW0 k0 n y4 (w64 (b1+1)) b2 b3 b4 b5 b6 b7 b8 b9 b10 (b11++[b1]))else none)))else (bW0 k0 n b0 (w64 (b1+1)) b2 b3 b4 b5 b6 b7 b8 b9 b10 b11))))else (bW0 k0 n b0 (w64 (b1+1)) b2 b3 b4 b5 b6 b7 b8 b9 b10 b11))))else (k0 b0 b2 b3 b4 b5 b6 b7 b8 b9 b10 b11))
def P268_l0:SP:=⟨[(3,.ptr 0 0),(4,.ptr 1 0),(8,pL [hI]),(9,.own 2),(10,pI)],[(0,.box zb2),(1,.box [pI,pL [hI]]),(2,.arr [hI])]⟩
def bZp:Nat->P268_l0.den->KS R->Option R:=eS P268_l0 fun k=>bW0 N (qS k (.ex 0) ⟨[(3,.ptr 0 0),(4,.ptr 1 0),(8,pL [hI]),(9,.own 2)],[(0,.box zb2),(1,.box [pI,pL [hI]]),(2,.arr [hI])]⟩)
theorem cBO:LpG T P268_l0 (bZp N (R:=R)) [3,4,8,9,10] cAE:=lpk (bZE N) 122 (H:=cDN)
def cCy:LpS R:=aCc noL 122 (aAx P268_l0 (bZp N N))
def bXN (a0:ByteArray)(a1:zt7)(a2:zt1)(a3:zt2)(a4:zt0)(a5:zt7)(a6:zt6)(a7:Int)(a8 a9:List Int)(k0:zk3 (Option R)):Option R:=(bXn N a0 a1 a2 a3 a4 a5 a6 a7 a9 (fun y1=>(bW0 N (fun z5 z6 z7 z8 z9 z10 z11 z12 z13 z14 z15=>(bXn N z6 z7 z8 z9 z10 z11 z12 z13 z5 (fun y16=>(k0 y16 z15)))) N y1 0 a0 a1 a2 a3 a4 a5 a6 a7 a8 [])))
def cDF:CfS R:=u1 (cDE N) 22 ⟨[.agg zb2,.agg [pI,pL [hI]],pL [hI]],[]⟩ ⟨[pL [hI],pL [hI]],[]⟩ (bXN N)
theorem bZF:FOK (cDF N:CfS R) (aAo T):=uCk (bZE N) c22 (H:=cDN) (Lp:=(cCy N)) (hl:=(aAi (l:=[(122,[3,4,8,9,10],cAE)]) (by kernel_rfl) ⟨(aAf (cBO N N)),trivial⟩))
def cDO:Nat->Option (List Sh):=fun n=>if n=27000 then some [hI]else none
def bW7 (N:Nat)(k0:List Int->Option R):zk4 (Int->zk0 (List Int->Option R))
 | 0,_,_,_,_,_,_,_,_,_,_=>none
 | n+1,b0,b1,b2,b3,b4,b5,b6,b7,b8,b9=>(bif decide (b1<((b7.length:Nat):Int))then ((at? b7 b1).bind fun x1=>((at? b0 x1.2).bind fun x2=>(bif aBU (b9.length+1) 8 then (bW7 N k0 n b0 (w64 (b1+1)) b2 b3 b4 b5 b6 b7 b8 (b9++[x2]))else none)))else (k0 b9))
def P269_l0:SP:=⟨[(3,.ptr 0 0),(7,pL [hI]),(8,.own 1),(9,pI)],[(0,.box zb2),(1,.arr [hI])]⟩
def bZq:Nat->P269_l0.den->KS R->Option R:=eS P269_l0 fun k=>bW7 N (qS k (.ex 0) ⟨[(8,.own 0)],[(0,.arr [hI])]⟩)
theorem cBP:LpG T P269_l0 (bZq N (R:=R)) [3,7,8,9] cAF:=lpk (bZF N) 122 (H:=cDO)
def cCz:LpS R:=aCc noL 122 (aAx P269_l0 (bZq N N))
def bXF (a0:ByteArray)(a1:zt7)(a2:zt1)(a3:zt2)(a4:zt0)(a5:zt7)(a6:zt6)(a7 a8:List Int)(k0:List Int->Option R):Option R:=(bW2 N a7 a8 (fun y1=>(bW3 N a3 y1 (fun y2=>(bW7 N k0 N y2 0 a0 a1 a2 a3 a4 a5 a6 [])))))
def cDG:CfS R:=u1 (cDF N) 24 ⟨[.agg zb2,pL [hI],pL [hI]],[]⟩ ⟨[pL [hI]],[]⟩ (bXF N)
theorem bX1:FOK (cDG N:CfS R) (aAo T):=uCk (bZF N) c24 (H:=cDO) (Lp:=(cCz N)) (hl:=(aAi (l:=[(122,[3,7,8,9],cAF)]) (by kernel_rfl) ⟨(aAf (cBP N N)),trivial⟩))
def bZU:Nat->Option (List Sh):=fun n=>if n=29000 then some [.s,hI]else if n=32000 then some [.s]else if n=33000 then some [.s]else if n=81000 then some [hI]else if n=98000 then some [hI]else if n=111000 then some [hI]else if n=118000 then some [hI]else none
def bW1 (k0:Bool->Option R)(k1:Int->zk3 (Int->zk2 (zt7->List Int->Option R)))(b0:Int)(b1 b2:List Int)(b3 b4:Int)(b5:ByteArray)(b6:zt7)(b7:zt1)(b8:zt2)(b9:zt0)(b10:zt7)(b11:List Int):Option R:=(aCr N b2 b11 (fun y1=>(bif (!y1)then (k0 false)else (bXF N b5 b6 b7 b8 b9 b10 [] [b4] b2 (fun y2=>(bif inR b0 b11.length then ((b11[b0.toNat]?).bind fun x3=>(aCr N y2 [x3] (fun y4=>(bif (!y4)then (k0 false)else (k1 b0 b1 b2 b3 b5 b6 b7 b8 b9 b10 b11)))))else none))))))
def P270_j7:SP:=⟨[(0,pI),(1,pL [hI]),(5,.ptr 0 0),(9,pL [hI]),(10,.own 1),(11,pI),(13,pI)],[(0,.box zb6),(1,.arr [hI])]⟩
def bZy:Nat->P270_j7.den->KS R->Option R:=jS P270_j7 fun k=>bW1 N (qS k .ret ⟨[(4,pB)],[]⟩) (qS k (.ex 1261779) ⟨[(0,pI),(1,pL [hI]),(5,.ptr 0 0),(9,pL [hI]),(10,.own 1),(11,pI)],[(0,.box zb6),(1,.arr [hI])]⟩)
theorem cBX:LpG T P270_j7 (bZy N (R:=R)) [0,1,5,9,10,11,13] cCJ:=lpk (bX1 N) 2134885044770 (H:=bZU)
def cAk:LpS R:=aCc noL 2134885044770 (aAx P270_j7 (bZy N 1))
def bXl (k0:Bool->Option R)(k1:Int->zk3 (Int->zk2 (zt7->List Int->Option R)))(b0:Int)(b1 b2:List Int)(b3 b4 b5:Int)(b6:ByteArray)(b7:zt7)(b8:zt1)(b9:zt2)(b10:zt0)(b11:zt7)(b12:List Int):Option R:=(bif decide (b4=0)then (bif inR 0 b12.length then ((b12[0]?).bind fun x1=>(bW1 N k0 k1 b0 b1 b2 b3 b5 b6 b7 b8 b9 b10 b11 (List.set b12 0 b5)))else none)else (bif inR 0 b12.length then ((b12[0]?).bind fun x17=>(bif slB 0 b0 b0 b12.length 0 b12.length then (bif decide ((0+b0.toNat)<=b12.length)then (bif aBU (1+(List.take b0.toNat (List.drop 0 b12)).length) 8 then (bW1 N k0 k1 b0 b1 b2 b3 b5 b6 b7 b8 b9 b10 b11 ([x17]++(List.take b0.toNat (List.drop 0 b12))))else none)else none)else none))else none))
def P270_j6:SP:=⟨[(0,pI),(1,pL [hI]),(5,.ptr 0 0),(9,pL [hI]),(10,.own 1),(11,pI),(12,pI),(13,pI)],[(0,.box zb6),(1,.arr [hI])]⟩
def bZx:Nat->P270_j6.den->KS R->Option R:=jS P270_j6 fun k=>bXl N (qS k .ret ⟨[(4,pB)],[]⟩) (qS k (.ex 1130889) ⟨[(0,pI),(1,pL [hI]),(5,.ptr 0 0),(9,pL [hI]),(10,.own 1),(11,pI)],[(0,.box zb6),(1,.arr [hI])]⟩)
theorem cBW:LpG T P270_j6 (bZx N (R:=R)) [0,1,5,9,10,11,12,13] cCI:=lpk (bX1 N) 133430315298 (H:=bZU) (Lp:=(cAk N)) (hl:=(aAi (l:=[(2134885044770,[0,1,5,9,10,11,13],cCJ)]) (by kernel_rfl) ⟨(aAf (cBX N 1)),trivial⟩))
def cAl:LpS R:=aCc (cAk N) 133430315298 (aAx P270_j6 (bZx N 1))
def bXk (k0:Bool->Option R)(k1:Int->zk3 (Int->zk2 (zt7->List Int->Option R)))(b0:Int)(b1 b2:List Int)(b3 b4 b5:Int)(b6:ByteArray)(b7:zt7)(b8:zt1)(b9:zt2)(b10:zt0)(b11:zt7)(b12:List Int):Option R:=(bXN N b6 b7 b8 b9 b10 b11 [] b4 [b5] b2 (fun y1 y2=>(bXl N k0 k1 b0 b1 y1 b3 b4 b5 b6 b7 b8 b9 b10 b11 b12)))
def P270_j5:SP:=⟨[(0,pI),(1,pL [hI]),(5,.ptr 0 0),(9,pL [hI]),(10,.own 1),(11,pI),(12,pI),(13,pI)],[(0,.box zb6),(1,.arr [hI])]⟩
def bZw:Nat->P270_j5.den->KS R->Option R:=jS P270_j5 fun k=>bXk N (qS k .ret ⟨[(4,pB)],[]⟩) (qS k (.ex 1065444) ⟨[(0,pI),(1,pL [hI]),(5,.ptr 0 0),(9,pL [hI]),(10,.own 1),(11,pI)],[(0,.box zb6),(1,.arr [hI])]⟩)
theorem cBV:LpG T P270_j5 (bZw N (R:=R)) [0,1,5,9,10,11,12,13] cCH:=lpk (bX1 N) 8339394706 (H:=bZU) (Lp:=(cAl N)) (hl:=(aAi (l:=[(133430315298,[0,1,5,9,10,11,12,13],cCI)]) (by kernel_rfl) ⟨(aAf (cBW N 1)),trivial⟩))
def cAm:LpS R:=aCc (cAl N) 8339394706 (aAx P270_j5 (bZw N 1))
def bWV (k0:Bool->Option R)(k1:Option R):Nat->Int->zk3 (Int->zk2 (zt7->List Int->Option R))
 | 0,_,_,_,_,_,_,_,_,_,_,_=>none
 | n+1,b0,b1,b2,b3,b4,b5,b6,b7,b8,b9,b10=>(bif decide (b3<((b1.length:Nat):Int))then ((at? b1 b3).bind fun x1=>(bXH N x1 2 (fun y2=>((at? b1 b3).bind fun x3=>(bXH N x3 4 (fun y4=>(bXk N k0 (fun z43 z44 z45 z46 z47 z48 z49 z50 z51 z52 z53=>(bWV k0 k1 n z43 z44 z45 (w64 (z46+1)) z47 z48 z49 z50 z51 z52 z53)) b0 b1 b2 b3 y2 (w64 (Int.tdiv y4 2)) b4 b5 b6 b7 b8 b9 b10)))))))else k1)
def P270_l0:SP:=⟨[(0,pI),(1,pL [hI]),(5,.ptr 0 0),(9,pL [hI]),(10,.own 1),(11,pI)],[(0,.box zb6),(1,.arr [hI])]⟩
def bZz:Nat->P270_l0.den->KS R->Option R:=eS P270_l0 fun k=>bWV N (qS k .ret ⟨[(4,pB)],[]⟩) (qS k (.ex 0) ⟨[],[]⟩)
theorem cBY:LpG T P270_l0 (bZz N (R:=R)) [0,1,5,9,10,11] cCK:=lpk (bX1 N) 130303042 (H:=bZU) (Lp:=(cAm N)) (hl:=(aAi (l:=[(8339394706,[0,1,5,9,10,11,12,13],cCH)]) (by kernel_rfl) ⟨(aAf (cBV N 1)),trivial⟩))
def cAn:LpS R:=aCc (cAm N) 130303042 (aAx P270_l0 (bZz N N))
def bXj (k0:Bool->Option R)(b0:Int)(b1 b2:List Int)(b3:ByteArray)(b4:zt7)(b5:zt1)(b6:zt2)(b7:zt0)(b8:zt7)(b9:List Int):Option R:=(bWV N k0 (k0 true) N b0 b1 b2 0 b3 b4 b5 b6 b7 b8 b9)
def P270_j4:SP:=⟨[(0,pI),(1,pL [hI]),(5,.ptr 0 0),(9,pL [hI]),(10,.own 1)],[(0,.box zb6),(1,.arr [hI])]⟩
def bZv:Nat->P270_j4.den->KS R->Option R:=jS P270_j4 fun k=>bXj N (qS k .ret ⟨[(4,pB)],[]⟩)
theorem cBU:LpG T P270_j4 (bZv N (R:=R)) [0,1,5,9,10] cCG:=lpk (bX1 N) 4071970 (H:=bZU) (Lp:=(cAn N)) (hl:=(aAi (l:=[(130303042,[0,1,5,9,10,11],cCK)]) (by kernel_rfl) ⟨(aAf (cBY N N)),trivial⟩))
def cAo:LpS R:=aCc (cAn N) 4071970 (aAx P270_j4 (bZv N 1))
def bXi (k0:Bool->Option R)(b0:Int)(b1 b2:List Int)(b3:ByteArray)(b4:zt7)(b5:zt1)(b6:zt2)(b7:zt0)(b8:zt7):Option R:=(aCX N b2 (fun y1=>(bXj N k0 b0 b1 b2 b3 b4 b5 b6 b7 b8 y1)))
def P270_j3:SP:=⟨[(0,pI),(1,pL [hI]),(5,.ptr 0 0),(9,pL [hI])],[(0,.box zb6)]⟩
def bZu:Nat->P270_j3.den->KS R->Option R:=jS P270_j3 fun k=>bXi N (qS k .ret ⟨[(4,pB)],[]⟩)
theorem cBT:LpG T P270_j3 (bZu N (R:=R)) [0,1,5,9] cCF:=lpk (bX1 N) 254498 (H:=bZU) (Lp:=(cAo N)) (hl:=(aAi (l:=[(4071970,[0,1,5,9,10],cCG)]) (by kernel_rfl) ⟨(aAf (cBU N 1)),trivial⟩))
def cAp:LpS R:=aCc (cAo N) 254498 (aAx P270_j3 (bZu N 1))
def bXh (k0:Bool->Option R)(b0:Int)(b1:List Int)(b2:ByteArray)(b3:zt7)(b4:zt1)(b5:zt2)(b6:zt0)(b7:zt7):Option R:=(bXE N b2 b3 b4 b5 b6 b7 [] (fun y1=>(bXi N k0 b0 b1 y1 b2 b3 b4 b5 b6 b7)))
def P270_j2:SP:=⟨[(0,pI),(1,pL [hI]),(5,.ptr 0 0)],[(0,.box zb6)]⟩
def bZt:Nat->P270_j2.den->KS R->Option R:=jS P270_j2 fun k=>bXh N (qS k .ret ⟨[(4,pB)],[]⟩)
theorem cBS:LpG T P270_j2 (bZt N (R:=R)) [0,1,5] cCE:=lpk (bX1 N) 15906 (H:=bZU) (Lp:=(cAp N)) (hl:=(aAi (l:=[(254498,[0,1,5,9],cCF)]) (by kernel_rfl) ⟨(aAf (cBT N 1)),trivial⟩))
def cAq:LpS R:=aCc (cAp N) 15906 (aAx P270_j2 (bZt N 1))
def bXg (k0:Bool->Option R)(b0:Int)(b1:List Int)(b2:ByteArray)(b3:zt7)(b4:zt1)(b5:zt2)(b6:zt0)(b7:zt7):Option R:=(bXD N b2 b3 b4 b5 b6 b7 [] [] (fun y1 y2=>(bif y2 then (k0 (!y2))else (bif decide (40<((b1.length:Nat):Int))then (k0 (!y2))else (bXh N k0 b0 b1 b2 b3 b4 b5 b6 b7)))))
def P270_j1:SP:=⟨[(0,pI),(1,pL [hI]),(5,.ptr 0 0)],[(0,.box zb6)]⟩
def bZs:Nat->P270_j1.den->KS R->Option R:=jS P270_j1 fun k=>bXg N (qS k .ret ⟨[(4,pB)],[]⟩)
theorem cBR:LpG T P270_j1 (bZs N (R:=R)) [0,1,5] cCD:=lpk (bX1 N) 994 (H:=bZU) (Lp:=(cAq N)) (hl:=(aAi (l:=[(15906,[0,1,5],cCE)]) (by kernel_rfl) ⟨(aAf (cBS N 1)),trivial⟩))
def cAr:LpS R:=aCc (cAq N) 994 (aAx P270_j1 (bZs N 1))
def bXa (k0:Bool->Option R)(b0:Int)(b1:List Int)(b2:Int)(b3:ByteArray)(b4:zt7)(b5:zt1)(b6:zt2)(b7:zt0)(b8:zt7):Option R:=(bif decide (b2≠0)then (k0 false)else (bXt N b0 (fun y1=>(bXS N b3 b4 b5 b6 b7 b8 [] (ByteArray.mk #[102,108,111,112,115]) [((ByteArray.mk #[100]),1)] y1 [(ByteArray.mk #[108,111,97,100]),(ByteArray.mk #[115,104,105,102,116])] [(ByteArray.mk #[113])] (fun y2=>(bif (!y2)then (k0 false)else (bXg N k0 b0 b1 b3 b4 b5 b6 b7 b8)))))))
def P270_j0:SP:=⟨[(0,pI),(1,pL [hI]),(5,.ptr 0 0),(6,pI)],[(0,.box zb6)]⟩
def bZr:Nat->P270_j0.den->KS R->Option R:=jS P270_j0 fun k=>bXa N (qS k .ret ⟨[(4,pB)],[]⟩)
theorem cBQ:LpG T P270_j0 (bZr N (R:=R)) [0,1,5,6] cCC:=lpk (bX1 N) 62 (H:=bZU) (Lp:=(cAr N)) (hl:=(aAi (l:=[(994,[0,1,5],cCD)]) (by kernel_rfl) ⟨(aAf (cBR N 1)),trivial⟩))
def cCA:LpS R:=aCc (cAr N) 62 (aAx P270_j0 (bZr N 1))
def bW6 (a0:Int)(a1:List Int)(k0:Bool->Option R):Option R:=(aFB N (fun y1=>(bif (!y1)then (k0 false)else (aIy N a0 (fun y2 y3 y4 y5 y6 y7 y8=>(aAz N a0 2 4 (fun y9=>(bif (!y9)then (bif decide (y8=2)then (bXC N y2 y3 y4 y5 y6 y7 [] (ByteArray.mk #[]) [] [] [] [] [] [] k0)else (k0 false))else (bXa N k0 a0 a1 y8 y2 y3 y4 y5 y6 y7)))))))))
def cDH:CfS R:=u1 (cDG N) 3 ⟨[pI,pL [hI]],[]⟩ ⟨[pB],[]⟩ (bW6 N)
theorem cBa:FOK (cDH N:CfS R) (aAo T):=uCk (bX1 N) c3 (H:=bZU) (Lp:=(cCA N)) (hl:=(aAi (l:=[(62,[0,1,5,6],cCC)]) (by kernel_rfl) ⟨(aAf (cBQ N 1)),trivial⟩))
end
def bXX:Prop:=∀ (x0:Int) (x1:List Int),okL [hI] x0->okL [.sl [hI]] x1->∃ N,∀ {R:Type} (k:Bool->Option R),bW6 N x0 x1 k=k true
end Am
end Go.Proofs.YtkmbhgggpfbffaaGreatDoor
