/- Each function that is reached as a function on plain data, and that the version comes to it. -/
import Derived.Test.YtkmbhgggpfbffaaGreatDoorCHF0
set_option linter.unusedVariables false
set_option linter.unusedSimpArgs false
set_option linter.constructorNameAsVariable false
set_option maxRecDepth 100000
namespace Go.Proofs.YtkmbhgggpfbffaaGreatDoor
namespace Am
noncomputable section
variable (N:Nat) {R:Type}
def aHe (a0 a1:Int)(a2:List (Int×Int))(k0:zk3 (Int->Option R)):Option R:=(aIt N a0 a1 (fun y1 y2 y3 y4 y5 y6 y7=>(bif decide (y7≠0)then (k0 [] [] y7)else (aHV N a2 a1 (fun y8=>(bif decide (y8≠0)then (k0 [] [] y8)else (bif decide (a0<0)then none else (aEp N y1 y2 y3 y4 y5 y6 [] a2 (aPi .i64 1 a0) (fun y9 y10 y11 y12=>(k0 y9 y10 y11))))))))))
def bSY:CfS R:=u1 (bTx N) 26 ⟨[.agg [pI,pI],pL [hI,hI]],[]⟩ ⟨[pL [hI],pL [hI],pI],[]⟩ (aHe N)
theorem aUy:FOK (bSY N:CfS R) (aAo T):=uCk (bDY N) c26 (rp:=[⟨[pL [hI],pL [hI],pI],[]⟩])
def aCA (N:Nat)(k0:Bool->Option R)(k1:Option R):Nat->zk3 (Int->Option R)
 | 0,_,_,_=>none
 | n+1,b0,b1,b2=>(bif decide (b2<((b0.length:Nat):Int))then ((at? b0 b2).bind fun x1=>((at? b1 b2).bind fun x2=>(bif decide (x1≠x2)then (k0 false)else (aCA N k0 k1 n b0 b1 (w64 (b2+1))))))else k1)
def P212_l0:SP:=⟨[(0,pL [hI]),(1,pL [hI]),(5,pI)],[]⟩
def aVT:Nat->P212_l0.den->KS R->Option R:=eS P212_l0 fun k=>aCA N (qS k .ret ⟨[(4,pB)],[]⟩) (qS k (.ex 0) ⟨[],[]⟩)
theorem bBP:LpG T P212_l0 (aVT N (R:=R)) [0,1,5] aZh:=lpk (aUy N) 58
def bHp:LpS R:=aCc noL 58 (aAx P212_l0 (aVT N N))
def aCr (a0 a1:List Int)(k0:Bool->Option R):Option R:=(bif decide (((a0.length:Nat):Int)≠((a1.length:Nat):Int))then (k0 false)else (aCA N k0 (k0 true) N a0 a1 0))
def bRR:CfS R:=u1 (bSY N) 23 ⟨[pL [hI],pL [hI]],[]⟩ ⟨[pB],[]⟩ (aCr N)
theorem aWv:FOK (bRR N:CfS R) (aAo T):=uCk (aUy N) c23 (Lp:=(bHp N)) (hl:=(aAi (l:=[(58,[0,1,5],aZh)]) (by kernel_rfl) ⟨(aAf (bBP N N)),trivial⟩))
def aE1 (k0:Bool->Option R)(k1:Option R):Nat->List (List Int)->List (List Int)->Int->Option R
 | 0,_,_,_=>none
 | n+1,b0,b1,b2=>(bif decide (b2<((b0.length:Nat):Int))then ((at? b0 b2).bind fun x1=>((at? b1 b2).bind fun x2=>(aCr N x1 x2 (fun y3=>(bif (!y3)then (k0 false)else (aE1 k0 k1 n b0 b1 (w64 (b2+1))))))))else k1)
def P213_l0:SP:=⟨[(0,pL zs6),(1,pL zs6),(5,pI)],[]⟩
def aW4:Nat->P213_l0.den->KS R->Option R:=eS P213_l0 fun k=>aE1 N (qS k .ret ⟨[(4,pB)],[]⟩) (qS k (.ex 0) ⟨[],[]⟩)
theorem bFw:LpG T P213_l0 (aW4 N (R:=R)) [0,1,5] aZn:=lpk (aWv N) 58
def bI6:LpS R:=aCc noL 58 (aAx P213_l0 (aW4 N N))
def aHt (a0 a1:List (List Int))(k0:Bool->Option R):Option R:=(bif decide (((a0.length:Nat):Int)≠((a1.length:Nat):Int))then (k0 false)else (aE1 N k0 (k0 true) N a0 a1 0))
def bQt:CfS R:=u1 (bRR N) 68 ⟨[pL zs6,pL zs6],[]⟩ ⟨[pB],[]⟩ (aHt N)
theorem aJD:FOK (bQt N:CfS R) (aAo T):=uCk (aWv N) c68 (Lp:=(bI6 N)) (hl:=(aAi (l:=[(58,[0,1,5],aZn)]) (by kernel_rfl) ⟨(aAf (bFw N N)),trivial⟩))
def bGt:Nat->Option (List Sh):=fun n=>if n=34000 then some [hI]else if n=43000 then some [hI,.sl [hI]]else if n=57000 then some [hI,hI]else if n=70000 then some [hI]else if n=95000 then some [hI]else if n=96000 then some [hI]else if n=97000 then some [hI]else if n=98000 then some [hI]else if n=99000 then some [.sl [hI]]else if n=108000 then some [hI]else if n=113000 then some [hI]else none
def aGi (k0:Bool->Option R)(b0:List Int)(b1:Int)(b2:zt8)(b3:Int)(b4:List (List Int))(b5:Int)(b6 b7:List Int)(b8:Int):Option R:=(bif decide (b1=0)then (aCr N b0 [0,1] (fun y1=>(bif y1 then (bif decide (b3=0)then (bif decide (((b2.length:Nat):Int)=1)then ((at? b2 0).bind fun x2=>(bif (false != (decide (x2.1=0)&&(decide (x2.2.1=1)&&(decide (x2.2.2=2)&&true))))then (bif decide (b5=0)then (aHt N b4 [[0,0,0],[1,0,0],[1,1,0],[1,1,1]] (fun y3=>(bif y3 then (bif decide (b8=0)then (aCr N b6 [5,6] (fun y4=>(bif y4 then (aCr N b7 [5] k0)else (k0 false))))else (k0 false))else (k0 false))))else (k0 false))else (k0 false)))else (k0 false))else (k0 false))else (k0 false))))else (k0 false))
def P214_j4:SP:=⟨[(3,pL [hI]),(4,pI),(5,pL zs5),(6,pI),(8,pL zs6),(9,pI),(10,pL [hI]),(11,pL [hI]),(12,pI)],[]⟩
def aXk:Nat->P214_j4.den->KS R->Option R:=jS P214_j4 fun k=>aGi N (qS k .ret ⟨[(0,pB)],[]⟩)
theorem bED:LpG T P214_j4 (aXk N (R:=R)) [3,4,5,6,8,9,10,11,12] aZw:=lpk (aJD N) 4071970 (H:=bGt)
def bAY:LpS R:=aCc noL 4071970 (aAx P214_j4 (aXk N 1))
def aGj (k0:Bool->Option R)(b0:List Int)(b1:Int)(b2:zt8)(b3:Int)(b4:List (List Int))(b5:Int):Option R:=(aHe N 1 4 [(0,5),(0,6),(0,7),(1,1),(1,1),(1,1)] (fun y1 y2 y3=>(aGi N k0 b0 b1 b2 b3 b4 b5 y1 y2 y3)))
def P214_j3:SP:=⟨[(3,pL [hI]),(4,pI),(5,pL zs5),(6,pI),(8,pL zs6),(9,pI)],[]⟩
def aXj:Nat->P214_j3.den->KS R->Option R:=jS P214_j3 fun k=>aGj N (qS k .ret ⟨[(0,pB)],[]⟩)
theorem bC1:LpG T P214_j3 (aXj N (R:=R)) [3,4,5,6,8,9] bBs:=lpk (aJD N) 254498 (H:=bGt) (Lp:=(bAY N)) (hl:=(aAi (l:=[(4071970,[3,4,5,6,8,9,10,11,12],aZw)]) (by kernel_rfl) ⟨(aAf (bED N 1)),trivial⟩))
def bAP:LpS R:=aCc (bAY N) 254498 (aAx P214_j3 (aXj N 1))
def aGo (k0:Bool->Option R)(b0:List Int)(b1:Int)(b2:zt8)(b3:Int)(b4:ByteArray)(b5:zt7)(b6:zt1)(b7:zt2)(b8:zt0)(b9:zt7)(b10:List Int):Option R:=(aKg N b4 b5 b6 b7 b8 b9 [] [(0,b10),(1,b10),(1,b10)] (fun y1 y2=>(aGj N k0 b0 b1 b2 b3 y1 y2)))
def P214_j2:SP:=⟨[(1,.ptr 0 0),(3,pL [hI]),(4,pI),(5,pL zs5),(6,pI),(7,.own 1)],[(0,.box zb5),(1,.arr [hI])]⟩
def aTF:Nat->P214_j2.den->KS R->Option R:=jS P214_j2 fun k=>aGo N (qS k .ret ⟨[(0,pB)],[]⟩)
theorem bCO:LpG T P214_j2 (aTF N (R:=R)) [1,3,4,5,6,7] aZW:=lpk (aJD N) 15906 (H:=bGt) (Lp:=(bAP N)) (hl:=(aAi (l:=[(254498,[3,4,5,6,8,9],bBs)]) (by kernel_rfl) ⟨(aAf (bC1 N 1)),trivial⟩))
def bAQ:LpS R:=aCc (bAP N) 15906 (aAx P214_j2 (aTF N 1))
def aGe (k0:Bool->Option R)(b0:List Int)(b1:Int)(b2:zt8)(b3:Int)(b4:ByteArray)(b5:zt7)(b6:zt1)(b7:zt2)(b8:zt0)(b9:zt7):Option R:=(aGo N k0 b0 b1 b2 b3 b4 b5 b6 b7 b8 b9 [1])
def P214_j1:SP:=⟨[(1,.ptr 0 0),(3,pL [hI]),(4,pI),(5,pL zs5),(6,pI)],[(0,.box zb5)]⟩
def aWY:Nat->P214_j1.den->KS R->Option R:=jS P214_j1 fun k=>aGe N (qS k .ret ⟨[(0,pB)],[]⟩)
theorem bEF:LpG T P214_j1 (aWY N (R:=R)) [1,3,4,5,6] aZt:=lpk (aJD N) 994 (H:=bGt) (Lp:=(bAQ N)) (hl:=(aAi (l:=[(15906,[1,3,4,5,6,7],aZW)]) (by kernel_rfl) ⟨(aAf (bCO N 1)),trivial⟩))
def bAf:LpS R:=aCc (bAQ N) 994 (aAx P214_j1 (aWY N 1))
def aGl (k0:Bool->Option R)(b0:List Int)(b1:Int)(b2:ByteArray)(b3:zt7)(b4:zt1)(b5:zt2)(b6:zt0)(b7:zt7):Option R:=(aA6 N b2 b3 b4 b5 b6 b7 [] (fun y1 y2 y3 y4 y5 y6 y7=>(aIB N y1 y2 y3 y4 y5 y6 y7 (fun y8 y9=>(aGe N k0 b0 b1 y8 y9 b2 b3 b4 b5 b6 b7)))))
def P214_j0:SP:=⟨[(1,.ptr 0 0),(3,pL [hI]),(4,pI)],[(0,.box zb5)]⟩
def aXd:Nat->P214_j0.den->KS R->Option R:=jS P214_j0 fun k=>aGl N (qS k .ret ⟨[(0,pB)],[]⟩)
theorem bGj:LpG T P214_j0 (aXd N (R:=R)) [1,3,4] aZ9:=lpk (aJD N) 62 (H:=bGt) (Lp:=(bAf N)) (hl:=(aAi (l:=[(994,[1,3,4,5,6],aZt)]) (by kernel_rfl) ⟨(aAf (bEF N 1)),trivial⟩))
def bIp:LpS R:=aCc (bAf N) 62 (aAx P214_j0 (aXd N 1))
def aFB (k0:Bool->Option R):Option R:=(aIy N 2 (fun y1 y2 y3 y4 y5 y6 y7=>(bif decide (y7≠0)then (k0 false)else (bif decide (((y5.length:Nat):Int)≠2)then (k0 false)else (aA6 N y1 y2 y3 y4 y5 y6 [] (fun y8 y9 y10 y11 y12 y13 y14=>(aDm N y8 y9 y10 y11 y12 y13 y14 (fun y15 y16=>(aGl N k0 y15 y16 y1 y2 y3 y4 y5 y6)))))))))
def bTi:CfS R:=u1 (bQt N) 12 ⟨[],[]⟩ ⟨[pB],[]⟩ (aFB N)
theorem aND:FOK (bTi N:CfS R) (aAo T):=uCk (aJD N) c12 (H:=bGt) (Lp:=(bIp N)) (hl:=(aAi (l:=[(62,[1,3,4],aZ9)]) (by kernel_rfl) ⟨(aAf (bGj N 1)),trivial⟩))
def cGe:Nat->Option (List Sh):=fun n=>if n=19000 then some [.s,hI,hI,hI,hI]else if n=24000 then some [.s,hI]else if n=59000 then some [.s,hI,hI]else if n=63000 then some [.s]else if n=84000 then some [.s,hI,hI]else if n=88000 then some [.s]else none
def bW7 (a0:Int)(k0:zk2 (zt7->Int->Option R)):Option R:=(aCm N a0 1 4 (fun y1=>(bif (!y1)then (k0 (ByteArray.mk #[]) [] [] [] [] [] 2)else (aEI N (ByteArray.mk #[100,97,116,97]) a0 0 (fun y2 y3 y4 y5 y6=>(aEI N (ByteArray.mk #[114,101,113]) 1 0 (fun y7 y8 y9 y10 y11=>(aEI N (ByteArray.mk #[97,97]) 1 0 (fun y12 y13 y14 y15 y16=>(aEI N (ByteArray.mk #[97,98]) 1 0 (fun y17 y18 y19 y20 y21=>(aEI N (ByteArray.mk #[103,111,116]) a0 1 (fun y22 y23 y24 y25 y26=>(aEI N (ByteArray.mk #[97,99,107]) 1 1 (fun y27 y28 y29 y30 y31=>(aEI N (ByteArray.mk #[114,97]) 1 1 (fun y32 y33 y34 y35 y36=>(aEI N (ByteArray.mk #[114,98]) 1 1 (fun y37 y38 y39 y40 y41=>(aH5 N (ByteArray.mk #[104,97,110,100,115,104,97,107,101]) [((ByteArray.mk #[103,111]),1),((ByteArray.mk #[118,97,108,117,101]),a0)] [(y2,y3,y4,y5,y6),(y7,y8,y9,y10,y11),(y12,y13,y14,y15,y16),(y17,y18,y19,y20,y21),(y22,y23,y24,y25,y26),(y27,y28,y29,y30,y31),(y32,y33,y34,y35,y36),(y37,y38,y39,y40,y41)] (fun y42 y43 y44 y45 y46 y47=>(aA9 N 1 1 y42 y43 y44 y45 [] y46 y47 (fun y48 y49 y50 y51 y52 y53 y54 y55=>(bif aGH .s hI y46 y47 .s hI y54 y55 then (aDu N (aFh .s (ByteArray.mk #[114,101,113]) y47 0) (aFh .s (ByteArray.mk #[97,98]) y47 0) y49 y50 y51 y52 y53 y46 y47 (fun y56 y57 y58 y59 y60 y61 y62 y63=>(bif aGH .s hI y46 y47 .s hI y62 y63 then (aCU N 3 (aFh .s (ByteArray.mk #[103,111]) y47 0) y56 y57 y58 y59 y60 y61 y46 y47 (fun y64 y65 y66 y67 y68 y69 y70 y71=>(bif aGH .s hI y46 y47 .s hI y70 y71 then (aGr N (aFh .s (ByteArray.mk #[114,101,113]) y47 0) y65 y66 y67 y68 y69 y46 y47 (fun y72 y73 y74 y75 y76 y77 y78 y79=>(bif aGH .s hI y46 y47 .s hI y78 y79 then (aDO N (ByteArray.mk #[115,101,110,100]) y64 [((ByteArray.mk #[100,97,116,97]),(aFh .s (ByteArray.mk #[118,97,108,117,101]) y47 0),y48),((ByteArray.mk #[114,101,113]),y72,y48)] y73 y74 y75 y76 y77 y46 y47 (fun y80 y81 y82 y83 y84 y85 y86=>(bif aGH .s hI y46 y47 .s hI y85 y86 then (aEn N (ByteArray.mk #[115,121,110,99,48]) y48 [(ByteArray.mk #[97,98]),(ByteArray.mk #[97,97]),(ByteArray.mk #[97,99,107])] y80 y81 y82 y83 y84 y46 y47 (fun y87 y88 y89 y90 y91 y92 y93=>(bif aGH .s hI y46 y47 .s hI y92 y93 then (aDu N (aFh .s (ByteArray.mk #[114,98]) y47 0) (aFh .s (ByteArray.mk #[97,99,107]) y47 0) y87 y88 y89 y90 y91 y46 y47 (fun y94 y95 y96 y97 y98 y99 y100 y101=>(bif aGH .s hI y46 y47 .s hI y100 y101 then (aGr N y94 y95 y96 y97 y98 y99 y46 y47 (fun y102 y103 y104 y105 y106 y107 y108 y109=>(bif aGH .s hI y46 y47 .s hI y108 y109 then (aGr N (aFh .s (ByteArray.mk #[97,99,107]) y47 0) y103 y104 y105 y106 y107 y46 y47 (fun y110 y111 y112 y113 y114 y115 y116 y117=>(bif aGH .s hI y46 y47 .s hI y116 y117 then (aDO N (ByteArray.mk #[116,97,107,101]) y102 [((ByteArray.mk #[103,111,116]),(aFh .s (ByteArray.mk #[100,97,116,97]) y47 0),y48),((ByteArray.mk #[97,99,107]),y110,y48)] y111 y112 y113 y114 y115 y46 y47 (fun y118 y119 y120 y121 y122 y123 y124=>(bif aGH .s hI y46 y47 .s hI y123 y124 then (aEn N (ByteArray.mk #[115,121,110,99,49]) y48 [(ByteArray.mk #[114,98]),(ByteArray.mk #[114,97]),(ByteArray.mk #[114,101,113])] y118 y119 y120 y121 y122 y46 y47 (fun y125 y126 y127 y128 y129 y130 y131=>(bif aGH .s hI y46 y47 .s hI y130 y131 then (aGr N y56 y125 y126 y127 y128 y129 y46 y47 (fun y132 y133 y134 y135 y136 y137 y138 y139=>(bif aGH .s hI y46 y47 .s hI y138 y139 then (aDg N (ByteArray.mk #[98,117,115,121]) y132 y133 y134 y135 y136 y137 [] y46 y47 (fun y140 y141 y142 y143 y144 y145 y146 y147=>(bif aGH .s hI y46 y47 .s hI y146 y147 then (aDg N (ByteArray.mk #[111,117,116]) (aFh .s (ByteArray.mk #[103,111,116]) y47 0) y140 y141 y142 y143 y144 y145 y46 y47 (fun y148 y149 y150 y151 y152 y153 y154 y155=>(bif aGH .s hI y46 y47 .s hI y154 y155 then (k0 y148 y149 y150 y151 y152 y153 0)else none)))else none)))else none)))else none)))else none)))else none)))else none)))else none)))else none)))else none)))else none)))else none)))else none)))else none))))))))))))))))))))))))
def bQ7:CfS R:=u1 (bTi N) 44 ⟨[pI],[]⟩ ⟨[.agg zb5,pI],[]⟩ (bW7 N)
theorem bBH:FOK (bQ7 N:CfS R) (aAo T):=uCk (aND N) c44 (H:=cGe) (rp:=[⟨[.agg [pS,pL [.s,hI],pL zs2,pL zs1,pL zs0,pL [.s,hI],.p (.e 2)],pI],[]⟩])
def bTM:Nat->Option (List Sh):=fun n=>if n=6000 then some [hI]else if n=16000 then some [hI]else none
def bYf (a0 a1:Int)(k0:zk9 (Option R)):Option R:=(bif decide (a0=1)then (k0 1 [0,0])else (aMI N (decide (0<=a1)) (fun y1=>(k0 0 [y1,(max a1 0)]))))
def bSm:CfS R:=u1 (bQ7 N) 122 ⟨[.agg [pI,pI]],[]⟩ ⟨[.agg [pI,pL [hI]]],[]⟩ (bYf N)
theorem aUS:FOK (bSm N:CfS R) (aAo T):=uCk (bBH N) cFd (H:=bTM)
def bYg (N:Nat)(a0 a1:List Int)(k0:Int->Option R):Option R:=((at? a1 4).bind fun x1=>(k0 x1))
def bTn:CfS R:=u1 (bSm N) 123 ⟨[pL [hI],pL [hI]],[]⟩ ⟨[pI],[]⟩ (bYg N)
theorem aPJ:FOK (bTn N:CfS R) (aAo T):=uCk (aUS N) cFe
def cFb:Nat->List SP:=fun p=>if p=117 then [⟨[(8,.own 0),(9,.own 1),(10,pI)],[(0,.arr [hI]),(1,.arr [hI])]⟩]else []
def bMK:Nat->Option (List Sh):=fun n=>if n=55000 then some [hI]else if n=65000 then some [hI]else none
def bWV (k0:zk0 (zk3 ((List (Int×Int))->zk1 (zk3 (Option R))))):Nat->zk0 (zk3 (List Int->(List (Int×Int))->zk1 (List Int->zk1 (zk3 (zk1 (Option R))))))
 | 0,_,_,_,_,_,_,_,_,_,_,_,_,_,_,_,_,_,_,_,_=>none
 | n+1,b0,b1,b2,b3,b4,b5,b6,b7,b8,b9,b10,b11,b12,b13,b14,b15,b16,b17,b18,b19=>(bif decide (b15<b14)then ((at? b13 b15).bind fun x1=>(bif decide (x1=0)then (bif aBU (b16.length+1) 8 then (bWV k0 n b0 b1 b2 b3 b4 b5 b6 b7 b8 b9 b10 b11 b12 b13 b14 (w64 (b15+1)) (b16++[b19]) b17 b18 b19)else none)else (bif decide (x1=2)then (bYg N b8 b9 (fun y2=>(bif aBU (b17.length+1) 8 then (bWV k0 n b0 b1 b2 b3 b4 b5 b6 b7 b8 b9 b10 b11 b12 b13 b14 (w64 (b15+1)) b16 (b17++[y2]) b18 b19)else none)))else (bWV k0 n b0 b1 b2 b3 b4 b5 b6 b7 b8 b9 b10 b11 b12 b13 b14 (w64 (b15+1)) b16 b17 b18 b19))))else (k0 b0 b1 b2 b3 b4 b5 b6 b7 b9 b10 b11 b12 b16 b17))
def P218_l1:SP:=⟨[(2,.p (.fn 122 [])),(3,.p (.fn 123 [])),(8,.own 0),(9,.own 1),(11,.p (.cp [.s .s,.s (.sl [.s,hI]),.s (.sl [.s,hI,hI,hI,hI]),.s (.sl [hI,hI,.sl [hI],hI]),.s (.sl [.s,hI,.sl [hI,hI,hI]]),.s (.sl [.s,hI]),.s (.sl [hI,.sl [hI]]),.s (.sl [hI])])),(12,pL [hI]),(14,.ptr 2 0),(15,pL [hI]),(31,pL [hI,hI]),(32,pI),(33,pI),(46,pL [hI]),(47,pI),(48,pI)],[(0,.arr [hI]),(1,.arr [hI]),(2,.box [pI,pI])]⟩
def aUP:Nat->P218_l1.den->KS R->Option R:=eS P218_l1 fun k=>bWV N (qS k (.ex 2) ⟨[(2,.p (.fn 122 [])),(3,.p (.fn 123 [])),(8,.own 0),(9,.own 1),(11,.p (.cp [.s .s,.s (.sl [.s,hI]),.s (.sl [.s,hI,hI,hI,hI]),.s (.sl [hI,hI,.sl [hI],hI]),.s (.sl [.s,hI,.sl [hI,hI,hI]]),.s (.sl [.s,hI]),.s (.sl [hI,.sl [hI]]),.s (.sl [hI])])),(15,pL [hI]),(31,pL [hI,hI]),(32,pI),(33,pI)],[(0,.arr [hI]),(1,.arr [hI])]⟩)
theorem bEe:LpG T P218_l1 (aUP N (R:=R)) [2,3,8,9,11,12,14,15,31,32,33,46,47,48] aXa:=lpk (aPJ N) 256410 (H:=bMK) (X:=cFb)
def bA4:LpS R:=aCc noL 256410 (aAx P218_l1 (aUP N N))
def bWY (k0:zk3 (Option R)):Nat->zk0 (zk3 ((List (Int×Int))->zk1 (zk3 (Option R))))
 | 0,_,_,_,_,_,_,_,_,_,_,_,_,_,_=>none
 | n+1,b0,b1,b2,b3,b4,b5,b6,b7,b8,b9,b10,b11,b12,b13=>(bif decide (b11<b10)then ((at? b9 b11).bind fun x1=>(bYf N x1.1 x1.2 (fun y2 y3=>(aFF N b0 b1 b2 b3 b4 b5 b6 b7 y2 y3 b8 (fun y4 y5=>(bWV N (fun z6 z7 z8 z9 z10 z11 z12 z13 z14 z15 z16 z17 z18 z19=>(bWY k0 n z6 z7 z8 z9 z10 z11 z12 z13 z14 z15 z16 (w64 (z17+1)) z18 z19)) N b0 b1 b2 b3 b4 b5 b6 b7 b8 y4 b9 b10 b11 y5 ((y5.length:Nat):Int) 0 b12 b13 x1.1 x1.2))))))else (k0 b12 b13))
def P218_l0:SP:=⟨[(2,.p (.fn 122 [])),(3,.p (.fn 123 [])),(8,.own 0),(9,.own 1),(11,.p (.cp [.s .s,.s (.sl [.s,hI]),.s (.sl [.s,hI,hI,hI,hI]),.s (.sl [hI,hI,.sl [hI],hI]),.s (.sl [.s,hI,.sl [hI,hI,hI]]),.s (.sl [.s,hI]),.s (.sl [hI,.sl [hI]]),.s (.sl [hI])])),(12,pL [hI]),(31,pL [hI,hI]),(32,pI),(33,pI)],[(0,.arr [hI]),(1,.arr [hI])]⟩
def aW3:Nat->P218_l0.den->KS R->Option R:=eS P218_l0 fun k=>bWY N (qS k (.ex 0) ⟨[(8,.own 0),(9,.own 1)],[(0,.arr [hI]),(1,.arr [hI])]⟩)
theorem bCW:LpG T P218_l0 (aW3 N (R:=R)) [2,3,8,9,11,12,31,32,33] aTP:=lpk (aPJ N) 250 (H:=bMK) (Lp:=(bA4 N)) (X:=cFb) (hl:=(aAi (l:=[(256410,[2,3,8,9,11,12,14,15,31,32,33,46,47,48],aXa)]) (by kernel_rfl) ⟨(aAf (bEe N N)),trivial⟩))
def bIW:LpS R:=aCc (bA4 N) 250 (aAx P218_l0 (aW3 N N))
def bXO (a0:ByteArray)(a1:zt7)(a2:zt1)(a3:zt2)(a4:zt0)(a5:zt7)(a6:zt6)(a7:List (Int×Int))(k0:zk3 (Int->Option R)):Option R:=(aDo N a0 a1 a2 a3 a4 a5 a6 (fun y1=>(bif decide (y1≠0)then (k0 [] [] y1)else (aFV N []))) (fun y2 y3 y4 y5 y6 y7 y8 y9 y10=>(bif decide (y10≠0)then (k0 [] [] y10)else (aEZ N y2 y3 y4 y5 y6 y7 y8 y9 [] (fun y11=>((at? y11 0).bind fun x12=>(bWY N (fun z20 z21=>(k0 z20 z21 0)) N y2 y3 y4 y5 y6 y7 y8 y9 x12 a7 ((a7.length:Nat):Int) 0 [] [])))))))
def bTt:CfS R:=u1 (bTn N) 107 ⟨[.agg zb2,pL [hI,hI],.p (.fn 122 []),.p (.fn 123 [])],[]⟩ ⟨[pL [hI],pL [hI],pI],[]⟩ (bXO N)
theorem bBV:FOK (bTt N:CfS R) (aAo T):=uCk (aPJ N) bIi (H:=bMK) (Lp:=(bIW N)) (X:=cFb) (hl:=(aAi (l:=[(250,[2,3,8,9,11,12,31,32,33],aTP)]) (by kernel_rfl) ⟨(aAf (bCW N N)),trivial⟩))
def bX5 (a0:Int)(a1:List (Int×Int))(k0:zk3 (Int->Option R)):Option R:=(bW7 N a0 (fun y1 y2 y3 y4 y5 y6 y7=>(bif decide (y7≠0)then (k0 [] [] y7)else (aHV N a1 a0 (fun y8=>(bif decide (y8≠0)then (k0 [] [] y8)else (bXO N y1 y2 y3 y4 y5 y6 [] a1 k0)))))))
def bQJ:CfS R:=u1 (bTt N) 45 ⟨[pI,pL [hI,hI]],[]⟩ ⟨[pL [hI],pL [hI],pI],[]⟩ (bX5 N)
theorem aP9:FOK (bQJ N:CfS R) (aAo T):=uCk (bBV N) c45 (rp:=[⟨[pL [hI],pL [hI],pI],[]⟩])
def aAz (N:Nat)(a0 a1 a2:Int)(k0:Bool->Option R):Option R:=(bif decide (a1<=a0)then (k0 (decide (a0<=a2)))else (k0 false))
def bQS:CfS R:=u1 (bQJ N) 14 ⟨[pI,pI,pI],[]⟩ ⟨[pB],[]⟩ (aAz N)
theorem bDy:FOK (bQS N:CfS R) (aAo T):=uCk (aP9 N) c14
def bXL (a0:Int)(k0:Int->Option R):Option R:=(aAz N a0 1 4 (fun y1=>(bif (!y1)then (k0 2)else (k0 0))))
def bS2:CfS R:=u1 (bQS N) 46 ⟨[pI],[]⟩ ⟨[pI],[]⟩ (bXL N)
theorem bFX:FOK (bS2 N:CfS R) (aAo T):=uCk (bDy N) c46
def bXX (N:Nat)(k0:Bool->Option R)(k1:Option R):Nat->zt7->zt7->Int->Option R
 | 0,_,_,_=>none
 | n+1,b0,b1,b2=>(bif decide (b2<((b0.length:Nat):Int))then ((at? b0 b2).bind fun x1=>((at? b1 b2).bind fun x2=>(bif (true != (decide (x1.1=x2.1)&&(decide (x1.2=x2.2)&&true)))then (k0 false)else (bXX N k0 k1 n b0 b1 (w64 (b2+1))))))else k1)
def P222_l0:SP:=⟨[(0,pL [.s,hI]),(1,pL [.s,hI]),(5,pI)],[]⟩
def bZS:Nat->P222_l0.den->KS R->Option R:=eS P222_l0 fun k=>bXX N (qS k .ret ⟨[(4,pB)],[]⟩) (qS k (.ex 0) ⟨[],[]⟩)
theorem cC2:LpG T P222_l0 (bZS N (R:=R)) [0,1,5] cCw:=lpk (bFX N) 58
def cD9:LpS R:=aCc noL 58 (aAx P222_l0 (bZS N N))
def bX6 (a0 a1:zt7)(k0:Bool->Option R):Option R:=(bif decide (((a0.length:Nat):Int)≠((a1.length:Nat):Int))then (k0 false)else (bXX N k0 (k0 true) N a0 a1 0))
def bTk:CfS R:=u1 (bS2 N) 80 ⟨[pL [.s,hI],pL [.s,hI]],[]⟩ ⟨[pB],[]⟩ (bX6 N)
theorem aPQ:FOK (bTk N:CfS R) (aAo T):=uCk (bFX N) c80 (Lp:=(cD9 N)) (hl:=(aAi (l:=[(58,[0,1,5],cCw)]) (by kernel_rfl) ⟨(aAf (cC2 N N)),trivial⟩))
def bXW (k0:Bool->Option R)(k1:Option R):Nat->zt2->zt2->Int->Option R
 | 0,_,_,_=>none
 | n+1,b0,b1,b2=>(bif decide (b2<((b0.length:Nat):Int))then ((at? b0 b2).bind fun x1=>((at? b1 b2).bind fun x2=>(bif decide (x1.1≠x2.1)then (k0 false)else ((at? b0 b2).bind fun x3=>((at? b1 b2).bind fun x4=>(bif decide (x3.2.1≠x4.2.1)then (k0 false)else ((at? b0 b2).bind fun x5=>((at? b1 b2).bind fun x6=>(bif decide (x5.2.2.2≠x6.2.2.2)then (k0 false)else ((at? b0 b2).bind fun x7=>((at? b1 b2).bind fun x8=>(aCr N x7.2.2.1 x8.2.2.1 (fun y9=>(bif (!y9)then (k0 false)else (bXW k0 k1 n b0 b1 (w64 (b2+1)))))))))))))))))else k1)
def P223_l0:SP:=⟨[(0,pL zs1),(1,pL zs1),(5,pI)],[]⟩
def aUR:Nat->P223_l0.den->KS R->Option R:=eS P223_l0 fun k=>bXW N (qS k .ret ⟨[(4,pB)],[]⟩) (qS k (.ex 0) ⟨[],[]⟩)
theorem bDi:LpG T P223_l0 (aUR N (R:=R)) [0,1,5] cCx:=lpk (aPQ N) 58
def bAb:LpS R:=aCc noL 58 (aAx P223_l0 (aUR N N))
def bYo (a0 a1:zt2)(k0:Bool->Option R):Option R:=(bif decide (((a0.length:Nat):Int)≠((a1.length:Nat):Int))then (k0 false)else (bXW N k0 (k0 true) N a0 a1 0))
def bR7:CfS R:=u1 (bTk N) 81 ⟨[pL zs1,pL zs1],[]⟩ ⟨[pB],[]⟩ (bYo N)
theorem bEz:FOK (bR7 N:CfS R) (aAo T):=uCk (aPQ N) c81 (Lp:=(bAb N)) (hl:=(aAi (l:=[(58,[0,1,5],cCx)]) (by kernel_rfl) ⟨(aAf (bDi N N)),trivial⟩))
def bXK (N:Nat)(k0:Bool->Option R)(k1:Option R):Nat->zt7->zt7->Int->Option R
 | 0,_,_,_=>none
 | n+1,b0,b1,b2=>(bif decide (b2<((b0.length:Nat):Int))then ((at? b0 b2).bind fun x1=>((at? b1 b2).bind fun x2=>(bif (true != (decide (x1.1=x2.1)&&(decide (x1.2=x2.2)&&true)))then (k0 false)else (bXK N k0 k1 n b0 b1 (w64 (b2+1))))))else k1)
def P224_l0:SP:=⟨[(0,pL [.s,hI]),(1,pL [.s,hI]),(5,pI)],[]⟩
def bZT:Nat->P224_l0.den->KS R->Option R:=eS P224_l0 fun k=>bXK N (qS k .ret ⟨[(4,pB)],[]⟩) (qS k (.ex 0) ⟨[],[]⟩)
theorem cC3:LpG T P224_l0 (bZT N (R:=R)) [0,1,5] cCy:=lpk (bEz N) 58
def cEa:LpS R:=aCc noL 58 (aAx P224_l0 (bZT N N))
def bYi (a0 a1:zt7)(k0:Bool->Option R):Option R:=(bif decide (((a0.length:Nat):Int)≠((a1.length:Nat):Int))then (k0 false)else (bXK N k0 (k0 true) N a0 a1 0))
def bSU:CfS R:=u1 (bR7 N) 82 ⟨[pL [.s,hI],pL [.s,hI]],[]⟩ ⟨[pB],[]⟩ (bYi N)
theorem bCz:FOK (bSU N:CfS R) (aAo T):=uCk (bEz N) c82 (Lp:=(cEa N)) (hl:=(aAi (l:=[(58,[0,1,5],cCy)]) (by kernel_rfl) ⟨(aAf (cC3 N N)),trivial⟩))
def bXS (N:Nat)(k0:Bool->Option R)(k1:Option R):Nat->zt8->zt8->Int->Option R
 | 0,_,_,_=>none
 | n+1,b0,b1,b2=>(bif decide (b2<((b0.length:Nat):Int))then ((at? b0 b2).bind fun x1=>((at? b1 b2).bind fun x2=>(bif (true != (decide (x1.1=x2.1)&&(decide (x1.2.1=x2.2.1)&&(decide (x1.2.2=x2.2.2)&&true))))then (k0 false)else (bXS N k0 k1 n b0 b1 (w64 (b2+1))))))else k1)
def P225_l0:SP:=⟨[(0,pL zs5),(1,pL zs5),(5,pI)],[]⟩
def bZU:Nat->P225_l0.den->KS R->Option R:=eS P225_l0 fun k=>bXS N (qS k .ret ⟨[(4,pB)],[]⟩) (qS k (.ex 0) ⟨[],[]⟩)
theorem cC4:LpG T P225_l0 (bZU N (R:=R)) [0,1,5] cCz:=lpk (bCz N) 58
def cEb:LpS R:=aCc noL 58 (aAx P225_l0 (bZU N N))
def bYl (a0 a1:zt8)(k0:Bool->Option R):Option R:=(bif decide (((a0.length:Nat):Int)≠((a1.length:Nat):Int))then (k0 false)else (bXS N k0 (k0 true) N a0 a1 0))
def bQZ:CfS R:=u1 (bSU N) 83 ⟨[pL zs5,pL zs5],[]⟩ ⟨[pB],[]⟩ (bYl N)
theorem aNk:FOK (bQZ N:CfS R) (aAo T):=uCk (bCz N) c83 (Lp:=(cEb N)) (hl:=(aAi (l:=[(58,[0,1,5],cCz)]) (by kernel_rfl) ⟨(aAf (cC4 N N)),trivial⟩))
def bXP (N:Nat)(k0:Bool->Option R)(k1:zk0 (zk0 (Option R))):Nat->Int->zk0 (zk0 (Option R))
 | 0,_,_,_,_,_,_,_,_,_,_,_,_,_,_,_=>none
 | n+1,b0,b1,b2,b3,b4,b5,b6,b7,b8,b9,b10,b11,b12,b13,b14=>(bif decide (b0<((b3.length:Nat):Int))then ((at? b3 b0).bind fun x1=>((at? b10 b0).bind fun x2=>(bif (true != (decide (x1.1=x2.1)&&(decide (x1.2.1=x2.2.1)&&(decide (x1.2.2.1=x2.2.2.1)&&(decide (x1.2.2.2.1=x2.2.2.2.1)&&(decide (x1.2.2.2.2=x2.2.2.2.2)&&true))))))then (k0 false)else (bXP N k0 k1 n (w64 (b0+1)) b1 b2 b3 b4 b5 b6 b7 b8 b9 b10 b11 b12 b13 b14))))else (k1 b1 b2 b3 b4 b5 b6 b7 b8 b9 b10 b11 b12 b13 b14))
def P226_l0:SP:=⟨[(2,.ptr 0 0),(3,.ptr 1 0),(5,pI)],[(0,.box zb2),(1,.box zb2)]⟩
def aSO:Nat->P226_l0.den->KS R->Option R:=eS P226_l0 fun k=>bXP N (qS k .ret ⟨[(4,pB)],[]⟩) (qS k (.ex 0) ⟨[(2,.ptr 0 0),(3,.ptr 1 0)],[(0,.box zb2),(1,.box zb2)]⟩)
theorem bFA:LpG T P226_l0 (aSO N (R:=R)) [2,3,5] cB7:=lpk (aNk N) 58
def bA8:LpS R:=aCc noL 58 (aAx P226_l0 (aSO N N))
def bXQ (k0:Bool->Option R)(k1:zk0 (zk0 (Option R))):Nat->Int->zk0 (zk0 (Option R))
 | 0,_,_,_,_,_,_,_,_,_,_,_,_,_,_,_=>none
 | n+1,b0,b1,b2,b3,b4,b5,b6,b7,b8,b9,b10,b11,b12,b13,b14=>(bif decide (b0<((b5.length:Nat):Int))then ((at? b5 b0).bind fun x1=>((at? b12 b0).bind fun x2=>(bif decide (x1.1≠x2.1)then (k0 false)else ((at? b5 b0).bind fun x3=>((at? b12 b0).bind fun x4=>(bif decide (x3.2.1≠x4.2.1)then (k0 false)else ((at? b5 b0).bind fun x5=>((at? b12 b0).bind fun x6=>(bYl N x5.2.2 x6.2.2 (fun y7=>(bif (!y7)then (k0 false)else (bXQ k0 k1 n (w64 (b0+1)) b1 b2 b3 b4 b5 b6 b7 b8 b9 b10 b11 b12 b13 b14))))))))))))else (k1 b1 b2 b3 b4 b5 b6 b7 b8 b9 b10 b11 b12 b13 b14))
def P226_l1:SP:=⟨[(2,.ptr 0 0),(3,.ptr 1 0),(6,pI)],[(0,.box zb2),(1,.box zb2)]⟩
def aSH:Nat->P226_l1.den->KS R->Option R:=eS P226_l1 fun k=>bXQ N (qS k .ret ⟨[(4,pB)],[]⟩) (qS k (.ex 2) ⟨[(2,.ptr 0 0),(3,.ptr 1 0)],[(0,.box zb2),(1,.box zb2)]⟩)
theorem bFv:LpG T P226_l1 (aSH N (R:=R)) [2,3,6] cB8:=lpk (aNk N) 122 (Lp:=(bA8 N))
def aZB:LpS R:=aCc (bA8 N) 122 (aAx P226_l1 (aSH N N))
def bXR (k0:Bool->Option R)(k1:Option R):Nat->Int->zk0 (zk0 (Option R))
 | 0,_,_,_,_,_,_,_,_,_,_,_,_,_,_,_=>none
 | n+1,b0,b1,b2,b3,b4,b5,b6,b7,b8,b9,b10,b11,b12,b13,b14=>(bif decide (b0<((b7.length:Nat):Int))then ((at? b7 b0).bind fun x1=>((at? b14 b0).bind fun x2=>(bif decide (x1.1≠x2.1)then (k0 false)else ((at? b7 b0).bind fun x3=>((at? b14 b0).bind fun x4=>(aCr N x3.2 x4.2 (fun y5=>(bif (!y5)then (k0 false)else (bXR k0 k1 n (w64 (b0+1)) b1 b2 b3 b4 b5 b6 b7 b8 b9 b10 b11 b12 b13 b14)))))))))else k1)
def P226_l2:SP:=⟨[(2,.ptr 0 0),(3,.ptr 1 0),(7,pI)],[(0,.box zb2),(1,.box zb2)]⟩
def aUp:Nat->P226_l2.den->KS R->Option R:=eS P226_l2 fun k=>bXR N (qS k .ret ⟨[(4,pB)],[]⟩) (qS k (.ex 4) ⟨[],[]⟩)
theorem bDI:LpG T P226_l2 (aUp N (R:=R)) [2,3,7] cB9:=lpk (aNk N) 250 (Lp:=(aZB N))
def bJW:LpS R:=aCc (aZB N) 250 (aAx P226_l2 (aUp N N))
def bX1 (a0:ByteArray)(a1:zt7)(a2:zt1)(a3:zt2)(a4:zt0)(a5:zt7)(a6:zt6)(a7:ByteArray)(a8:zt7)(a9:zt1)(a10:zt2)(a11:zt0)(a12:zt7)(a13:zt6)(k0:Bool->Option R):Option R:=(bif decide (a0≠a7)then (k0 false)else (bX6 N a1 a8 (fun y1=>(bif (!y1)then (k0 false)else (bif decide (((a2.length:Nat):Int)≠((a9.length:Nat):Int))then (k0 false)else (bYo N a3 a10 (fun y2=>(bif (!y2)then (k0 false)else (bif decide (((a4.length:Nat):Int)≠((a11.length:Nat):Int))then (k0 false)else (bYi N a5 a12 (fun y3=>(bif (!y3)then (k0 false)else (bif decide (((a6.length:Nat):Int)≠((a13.length:Nat):Int))then (k0 false)else (bXP N k0 (fun z5 z6 z7 z8 z9 z10 z11 z12 z13 z14 z15 z16 z17 z18=>(bXQ N k0 (fun z20 z21 z22 z23 z24 z25 z26 z27 z28 z29 z30 z31 z32 z33=>(bXR N k0 (k0 true) N 0 z20 z21 z22 z23 z24 z25 z26 z27 z28 z29 z30 z31 z32 z33)) N 0 z5 z6 z7 z8 z9 z10 z11 z12 z13 z14 z15 z16 z17 z18)) N 0 a0 a1 a2 a3 a4 a5 a6 a7 a8 a9 a10 a11 a12 a13))))))))))))))
def bSc:CfS R:=u1 (bQZ N) 15 ⟨[.agg zb2,.agg zb2],[]⟩ ⟨[pB],[]⟩ (bX1 N)
theorem aPw:FOK (bSc N:CfS R) (aAo T):=uCk (aNk N) c15 (Lp:=(bJW N)) (hl:=(aAi (l:=[(58,[2,3,5],cB7),(122,[2,3,6],cB8),(250,[2,3,7],cB9)]) (by kernel_rfl) ⟨(aDL (by decide) (aDL (by decide) (aAf (bFA N N)))),(aDL (by decide) (aAf (bFv N N))),(aAf (bDI N N)),trivial⟩))
def bWZ (N:Nat)(a0:ByteArray)(a1 a2:Int)(k0:ByteArray->zk1 (zk1 (Option R))):Option R:=(k0 a0 0 a1 0 a2)
def bRa:CfS R:=u1 (bSc N) 85 ⟨[pS,pI,pI],[]⟩ ⟨[.agg [pS,pI,pI,pI,pI]],[]⟩ (bWZ N)
theorem bD9:FOK (bRa N:CfS R) (aAo T):=uCk (aPw N) c85
def cGf:Nat->Option (List Sh):=fun n=>if n=12000 then some [.s,hI,hI,hI,hI]else none
def bXB (a0:Int)(k0:zt1->Option R):Option R:=(bWZ N (ByteArray.mk #[100,97,116,97]) a0 0 (fun y1 y2 y3 y4 y5=>(bWZ N (ByteArray.mk #[114,101,113]) 1 0 (fun y6 y7 y8 y9 y10=>(bWZ N (ByteArray.mk #[97,97]) 1 0 (fun y11 y12 y13 y14 y15=>(bWZ N (ByteArray.mk #[97,98]) 1 0 (fun y16 y17 y18 y19 y20=>(bWZ N (ByteArray.mk #[103,111,116]) a0 1 (fun y21 y22 y23 y24 y25=>(bWZ N (ByteArray.mk #[97,99,107]) 1 1 (fun y26 y27 y28 y29 y30=>(bWZ N (ByteArray.mk #[114,97]) 1 1 (fun y31 y32 y33 y34 y35=>(bWZ N (ByteArray.mk #[114,98]) 1 1 (fun y36 y37 y38 y39 y40=>(k0 [(y1,y2,y3,y4,y5),(y6,y7,y8,y9,y10),(y11,y12,y13,y14,y15),(y16,y17,y18,y19,y20),(y21,y22,y23,y24,y25),(y26,y27,y28,y29,y30),(y31,y32,y33,y34,y35),(y36,y37,y38,y39,y40)])))))))))))))))))
def bQF:CfS R:=u1 (bRa N) 47 ⟨[pI],[]⟩ ⟨[pL zs2],[]⟩ (bXB N)
theorem aUn:FOK (bQF N:CfS R) (aAo T):=uCk (bD9 N) c47 (H:=cGf)
def aA3 (N:Nat)(k0:Bool->Option R)(k1:ByteArray->Int->Option R)(b0:ByteArray)(b1 b2:Int)(b3:Bool):Option R:=(bif (!b3)then (bif decide (b1=0)then (k0 false)else (bif decide (b2≠95)then (bif decide (b2<48)then (k0 false)else (bif decide (57<b2)then (k0 false)else (k1 b0 b1)))else (k1 b0 b1)))else (k1 b0 b1))
def P229_j0:SP:=⟨[(0,pS),(3,pI),(4,.p (.s (.i .u8))),(5,pB)],[]⟩
def bZV:Nat->P229_j0.den->KS R->Option R:=jS P229_j0 fun k=>aA3 N (qS k .ret ⟨[(2,pB)],[]⟩) (qS k (.ex 1001865) ⟨[(0,pS),(3,pI)],[]⟩)
theorem cC5:LpG T P229_j0 (bZV N (R:=R)) [0,3,4,5] aTx:=lpk (aUn N) 7462
def bKl:LpS R:=aCc noL 7462 (aAx P229_j0 (bZV N 1))
def aAC (k0:Bool->Option R)(k1:Option R):Nat->ByteArray->Int->Option R
 | 0,_,_=>none
 | n+1,b0,b1=>(bif decide (b1<((b0.size:Nat):Int))then ((aJd b0 b1).bind fun x1=>(bif decide (97<=x1)then (bif decide (x1<=122)then (aA3 N k0 (fun z3 z4=>(aAC k0 k1 n z3 (w64 (z4+1)))) b0 b1 x1 true)else (bif decide (65<=x1)then (aA3 N k0 (fun z6 z7=>(aAC k0 k1 n z6 (w64 (z7+1)))) b0 b1 x1 (decide (x1<=90)))else (aA3 N k0 (fun z9 z10=>(aAC k0 k1 n z9 (w64 (z10+1)))) b0 b1 x1 false)))else (bif decide (65<=x1)then (aA3 N k0 (fun z12 z13=>(aAC k0 k1 n z12 (w64 (z13+1)))) b0 b1 x1 (decide (x1<=90)))else (aA3 N k0 (fun z15 z16=>(aAC k0 k1 n z15 (w64 (z16+1)))) b0 b1 x1 false))))else k1)
def P229_l0:SP:=⟨[(0,pS),(3,pI)],[]⟩
def aR6:Nat->P229_l0.den->KS R->Option R:=eS P229_l0 fun k=>aAC N (qS k .ret ⟨[(2,pB)],[]⟩) (qS k (.ex 0) ⟨[],[]⟩)
theorem bBw:LpG T P229_l0 (aR6 N (R:=R)) [0,3] aSc:=lpk (aUn N) 58 (Lp:=(bKl N)) (hl:=(aAi (l:=[(7462,[0,3,4,5],aTx)]) (by kernel_rfl) ⟨(aAf (cC5 N 1)),trivial⟩))
def cEc:LpS R:=aCc (bKl N) 58 (aAx P229_l0 (aR6 N N))
def aBW (a0:ByteArray)(k0:Bool->Option R):Option R:=(bif decide (((a0.size:Nat):Int)<1)then (k0 false)else (bif decide (16<((a0.size:Nat):Int))then (k0 false)else (aAC N k0 (k0 true) N a0 0)))
def bSV:CfS R:=u1 (bQF N) 169 ⟨[pS],[]⟩ ⟨[pB],[]⟩ (aBW N)
theorem aVd:FOK (bSV N:CfS R) (aAo T):=uCk (aUn N) bH7 (Lp:=(cEc N)) (hl:=(aAi (l:=[(58,[0,3],aSc)]) (by kernel_rfl) ⟨(aAf (bBw N N)),trivial⟩))
def aCz (a0:Int)(k0:Bool->Option R):Option R:=(aAz N a0 1 16 k0)
def bQn:CfS R:=u1 (bSV N) 246 ⟨[pI],[]⟩ ⟨[pB],[]⟩ (aCz N)
theorem aUY:FOK (bQn N:CfS R) (aAo T):=uCk (aVd N) bNF
def aBJ (N:Nat)(k0:zk1 (Option R))(k1:zt7->Int->Option R):Nat->zt7->zk1 (Option R)
 | 0,_,_,_=>none
 | n+1,b0,b1,b2=>(bif decide (b2<b1)then ((at? b0 b2).bind fun x1=>((at? b0 b1).bind fun x2=>(bif decide (x1.1=x2.1)then (k0 b1 5)else (aBJ N k0 k1 n b0 b1 (w64 (b2+1))))))else (k1 b0 b1))
def P231_l1:SP:=⟨[(0,pL [.s,hI]),(4,pI),(5,pI)],[]⟩
def bZW:Nat->P231_l1.den->KS R->Option R:=eS P231_l1 fun k=>aBJ N (qS k .ret ⟨[(2,pI),(3,pI)],[]⟩) (qS k (.ex 2) ⟨[(0,pL [.s,hI]),(4,pI)],[]⟩)
theorem cC6:LpG T P231_l1 (bZW N (R:=R)) [0,4,5] aWZ:=lpk (aUY N) 14922
def bKY:LpS R:=aCc noL 14922 (aAx P231_l1 (bZW N N))
def aBM (k0:zk1 (Option R))(k1:Option R):Nat->zt7->Int->Option R
 | 0,_,_=>none
 | n+1,b0,b1=>(bif decide (b1<((b0.length:Nat):Int))then ((at? b0 b1).bind fun x1=>(aBW N x1.1 (fun y2=>(bif (!y2)then (k0 b1 4)else (aBJ N k0 (fun z5 z6=>((at? z5 z6).bind fun x7=>(aCz N x7.2 (fun y8=>(bif (!y8)then (k0 z6 2)else (aBM k0 k1 n z5 (w64 (z6+1)))))))) N b0 b1 0)))))else k1)
def P231_l0:SP:=⟨[(0,pL [.s,hI]),(4,pI)],[]⟩
def aS6:Nat->P231_l0.den->KS R->Option R:=eS P231_l0 fun k=>aBM N (qS k .ret ⟨[(2,pI),(3,pI)],[]⟩) (qS k (.ex 0) ⟨[],[]⟩)
theorem bDB:LpG T P231_l0 (aS6 N (R:=R)) [0,4] aW5:=lpk (aUY N) 58 (Lp:=(bKY N)) (hl:=(aAi (l:=[(14922,[0,4,5],aWZ)]) (by kernel_rfl) ⟨(aAf (cC6 N N)),trivial⟩))
def cEd:LpS R:=aCc (bKY N) 58 (aAx P231_l0 (aS6 N N))
def aDD (a0:zt7)(k0:zk1 (Option R)):Option R:=(bif decide (12<((a0.length:Nat):Int))then (k0 0 8)else (aBM N k0 (k0 0 0) N a0 0))
def bSX:CfS R:=u1 (bQn N) 170 ⟨[pL [.s,hI]],[]⟩ ⟨[pI,pI],[]⟩ (aDD N)
theorem bDZ:FOK (bSX N:CfS R) (aAo T):=uCk (aUY N) bHG (Lp:=(cEd N)) (hl:=(aAi (l:=[(58,[0,4],aW5)]) (by kernel_rfl) ⟨(aAf (bDB N N)),trivial⟩))
def aEO (N:Nat)(a0:Int)(k0:Int->Option R):Option R:=(bif decide (a0<0)then none else (k0 (aPi .i64 1 a0)))
def bSb:CfS R:=u1 (bSX N) 33 ⟨[pI],[]⟩ ⟨[pI],[]⟩ (aEO N)
theorem bC7:FOK (bSb N:CfS R) (aAo T):=uCk (bDZ N) c33
def aEg (a0 a1:Int)(k0:Bool->Option R):Option R:=(aEO N a1 (fun y1=>(aAz N a0 0 (w64 (y1-1)) k0)))
def bRk:CfS R:=u1 (bSb N) 109 ⟨[pI,pI],[]⟩ ⟨[pB],[]⟩ (aEg N)
theorem aUM:FOK (bRk N:CfS R) (aAo T):=uCk (bC7 N) bNz
def aBc (N:Nat)(k0:zk1 (Option R))(k1:zt7->zt1->Int->Option R):Nat->zt7->zt1->zk1 (Option R)
 | 0,_,_,_,_=>none
 | n+1,b0,b1,b2,b3=>(bif decide (b3<b2)then ((at? b1 b3).bind fun x1=>((at? b1 b2).bind fun x2=>(bif decide (x1.1=x2.1)then (k0 b2 5)else (aBc N k0 k1 n b0 b1 b2 (w64 (b3+1))))))else (k1 b0 b1 b2))
def P234_l1:SP:=⟨[(0,pL [.s,hI]),(1,pL zs2),(6,pI),(7,pI)],[]⟩
def bZX:Nat->P234_l1.den->KS R->Option R:=eS P234_l1 fun k=>aBc N (qS k .ret ⟨[(4,pI),(5,pI)],[]⟩) (qS k (.ex 2) ⟨[(0,pL [.s,hI]),(1,pL zs2),(6,pI)],[]⟩)
theorem cC7:LpG T P234_l1 (bZX N (R:=R)) [0,1,6,7] aTW:=lpk (aUM N) 14922
def bKV:LpS R:=aCc noL 14922 (aAx P234_l1 (bZX N N))
def aBd (N:Nat)(k0:zk1 (Option R))(k1:zt7->zt1->Int->Option R):Nat->zt7->zt1->zk1 (Option R)
 | 0,_,_,_,_=>none
 | n+1,b0,b1,b2,b3=>(bif decide (b3<((b0.length:Nat):Int))then ((at? b0 b3).bind fun x1=>((at? b1 b2).bind fun x2=>(bif decide (x1.1=x2.1)then (k0 b2 5)else (aBd N k0 k1 n b0 b1 b2 (w64 (b3+1))))))else (k1 b0 b1 b2))
def P234_l2:SP:=⟨[(0,pL [.s,hI]),(1,pL zs2),(6,pI),(8,pI)],[]⟩
def bZY:Nat->P234_l2.den->KS R->Option R:=eS P234_l2 fun k=>aBd N (qS k .ret ⟨[(4,pI),(5,pI)],[]⟩) (qS k (.ex 4) ⟨[(0,pL [.s,hI]),(1,pL zs2),(6,pI)],[]⟩)
theorem cC8:LpG T P234_l2 (bZY N (R:=R)) [0,1,6,8] aVz:=lpk (aUM N) 29850 (Lp:=(bKV N))
def cBG:LpS R:=aCc (bKV N) 29850 (aAx P234_l2 (bZY N N))
def aBb (k0:zk1 (Option R))(k1:Option R):Nat->zt7->zt1->Int->Option R
 | 0,_,_,_=>none
 | n+1,b0,b1,b2=>(bif decide (b2<((b1.length:Nat):Int))then ((at? b1 b2).bind fun x1=>(aBW N x1.1 (fun y2=>(bif (!y2)then (k0 b2 4)else (aBc N k0 (fun z5 z6 z7=>(aBd N k0 (fun z10 z11 z12=>((at? z11 z12).bind fun x13=>(aAz N x13.2.1 0 1 (fun y14=>(bif (!y14)then (k0 z12 15)else ((at? z11 z12).bind fun x15=>(aCz N x15.2.2.1 (fun y16=>(bif (!y16)then (k0 z12 2)else ((at? z11 z12).bind fun x17=>((at? z11 z12).bind fun x18=>(aEg N x17.2.2.2.1 x18.2.2.1 (fun y19=>(bif (!y19)then (k0 z12 2)else ((at? z11 z12).bind fun x20=>(aAz N x20.2.2.2.2 0 3 (fun y21=>(bif (!y21)then (k0 z12 2)else (aBb k0 k1 n z10 z11 (w64 (z12+1))))))))))))))))))))) N z5 z6 z7 0)) N b0 b1 b2 0)))))else k1)
def P234_l0:SP:=⟨[(0,pL [.s,hI]),(1,pL zs2),(6,pI)],[]⟩
def aUi:Nat->P234_l0.den->KS R->Option R:=eS P234_l0 fun k=>aBb N (qS k .ret ⟨[(4,pI),(5,pI)],[]⟩) (qS k (.ex 0) ⟨[],[]⟩)
theorem bF8:LpG T P234_l0 (aUi N (R:=R)) [0,1,6] aTC:=lpk (aUM N) 58 (Lp:=(cBG N)) (hl:=(aAi (l:=[(14922,[0,1,6,7],aTW),(29850,[0,1,6,8],aVz)]) (by kernel_rfl) ⟨(aDL (by decide) (aAf (cC7 N N))),(aAf (cC8 N N)),trivial⟩))
def cEe:LpS R:=aCc (cBG N) 58 (aAx P234_l0 (aUi N N))
def aC0 (a0:zt7)(a1:zt1)(k0:zk1 (Option R)):Option R:=(bif decide (40<(w64 (((a0.length:Nat):Int)+((a1.length:Nat):Int))))then (k0 0 8)else (aBb N k0 (k0 0 0) N a0 a1 0))
def bRO:CfS R:=u1 (bRk N) 171 ⟨[pL [.s,hI],pL zs2],[]⟩ ⟨[pI,pI],[]⟩ (aC0 N)
theorem aPz:FOK (bRO N:CfS R) (aAo T):=uCk (aUM N) bGu (Lp:=(cEe N)) (hl:=(aAi (l:=[(58,[0,1,6],aTC)]) (by kernel_rfl) ⟨(aAf (bF8 N N)),trivial⟩))
def cE3:Nat->Option (List Sh):=fun n=>if n=17000 then some [hI]else if n=36000 then some [hI]else none
def aB5 (N:Nat)(k0:zk0 (List Int->Option R)):Nat->Int->zk0 (List Int->Option R)
 | 0,_,_,_,_,_,_,_,_,_=>none
 | n+1,b0,b1,b2,b3,b4,b5,b6,b7,b8=>(bif decide (b0<((b2.length:Nat):Int))then ((at? b2 b0).bind fun x1=>(bif aBU (b8.length+1) 8 then (aB5 N k0 n (w64 (b0+1)) b1 b2 b3 b4 b5 b6 b7 (b8++[x1.2]))else none))else (k0 b1 b2 b3 b4 b5 b6 b7 b8))
def P235_l0:SP:=⟨[(1,.ptr 0 0),(3,.own 1),(4,pI)],[(0,.box zb2),(1,.arr [hI])]⟩
def aUt:Nat->P235_l0.den->KS R->Option R:=eS P235_l0 fun k=>aB5 N (qS k (.ex 0) ⟨[(1,.ptr 0 0),(3,.own 1)],[(0,.box zb2),(1,.arr [hI])]⟩)
theorem bDf:LpG T P235_l0 (aUt N (R:=R)) [1,3,4] aTS:=lpk (aPz N) 58 (H:=cE3)
def bAS:LpS R:=aCc noL 58 (aAx P235_l0 (aUt N N))
def aCa (N:Nat)(k0:List Int->Option R):Nat->Int->zk0 (List Int->Option R)
 | 0,_,_,_,_,_,_,_,_,_=>none
 | n+1,b0,b1,b2,b3,b4,b5,b6,b7,b8=>(bif decide (b0<((b3.length:Nat):Int))then ((at? b3 b0).bind fun x1=>(bif aBU (b8.length+1) 8 then (aCa N k0 n (w64 (b0+1)) b1 b2 b3 b4 b5 b6 b7 (b8++[x1.2.2.1]))else none))else (k0 b8))
def P235_l1:SP:=⟨[(1,.ptr 0 0),(3,.own 1),(5,pI)],[(0,.box zb2),(1,.arr [hI])]⟩
def aVR:Nat->P235_l1.den->KS R->Option R:=eS P235_l1 fun k=>aCa N (qS k (.ex 2) ⟨[(3,.own 0)],[(0,.arr [hI])]⟩)
theorem bCX:LpG T P235_l1 (aVR N (R:=R)) [1,3,5] aSD:=lpk (aPz N) 122 (H:=cE3) (Lp:=(bAS N))
def bIA:LpS R:=aCc (bAS N) 122 (aAx P235_l1 (aVR N N))
def aEo (a0:ByteArray)(a1:zt7)(a2:zt1)(a3:zt2)(a4:zt0)(a5:zt7)(a6:zt6)(k0:List Int->Option R):Option R:=(aB5 N (fun z2 z3 z4 z5 z6 z7 z8 z9=>(aCa N k0 N 0 z2 z3 z4 z5 z6 z7 z8 z9)) N 0 a0 a1 a2 a3 a4 a5 a6 [])
def bTe:CfS R:=u1 (bRO N) 173 ⟨[.agg zb2],[]⟩ ⟨[pL [hI]],[]⟩ (aEo N)
theorem aSX:FOK (bTe N:CfS R) (aAo T):=uCk (aPz N) bGR (H:=cE3) (Lp:=(bIA N)) (hl:=(aAi (l:=[(58,[1,3,4],aTS),(122,[1,3,5],aSD)]) (by kernel_rfl) ⟨(aDL (by decide) (aAf (bDf N N))),(aAf (bCX N N)),trivial⟩))
def aDJ (N:Nat)(a0:Int)(k0:Int->Option R):Option R:=(bif decide (a0=0)then (k0 0)else (bif decide (a0=1)then (k0 0)else (bif decide (a0=2)then (k0 1)else (bif decide (a0=14)then (k0 1)else (bif decide (a0=15)then (k0 1)else (bif decide (a0=16)then (k0 1)else (bif decide (a0=12)then (k0 3)else (k0 2))))))))
def bQK:CfS R:=u1 (bTe N) 278 ⟨[pI],[]⟩ ⟨[pI],[]⟩ (aDJ N)
theorem aLj:FOK (bQK N:CfS R) (aAo T):=uCk (aSX N) bNW
def cF6:Nat->Option (List Sh):=fun n=>if n=20000 then some [hI]else none
def aBA (N:Nat)(k0:zk1 (zk4 (List Int->Option R))):Nat->zt2->zk1 (Int->zk4 (List Int->Option R))
 | 0,_,_,_,_,_,_,_=>none
 | n+1,b0,b1,b2,b3,b4,b5,b6=>(bif decide (b1<((b4.length:Nat):Int))then ((at? b4 b1).bind fun x1=>((at? b0 x1).bind fun x2=>(bif aBU (b6.length+1) 8 then (aBA N k0 n b0 (w64 (b1+1)) b2 b3 b4 b5 (b6++[x2.2.1]))else none)))else (k0 b2 b3 b4 b5 b6))
def P237_l0:SP:=⟨[(0,pL zs1),(3,.ptr 0 0),(5,.own 1),(6,pI)],[(0,.box zb8),(1,.arr [hI])]⟩
def aSg:Nat->P237_l0.den->KS R->Option R:=eS P237_l0 fun k=>aBA N (qS k (.ex 0) ⟨[(3,.ptr 0 0),(5,.own 1)],[(0,.box zb8),(1,.arr [hI])]⟩)
theorem bDE:LpG T P237_l0 (aSg N (R:=R)) [0,3,5,6] aW1:=lpk (aLj N) 58 (H:=cF6)
def aZb:LpS R:=aCc noL 58 (aAx P237_l0 (aSg N N))
def aCJ (a0:zt2)(a1 a2:Int)(a3:List Int)(a4:Int)(k0:Bool->Option R):Option R:=(aBA N (fun z3 z4 z5 z6 z7=>(bif decide (z3=2)then (bif inR 0 z7.length then ((z7[0]?).bind fun x8=>(k0 (decide (x8=z4))))else none)else (bif decide (z3=3)then (bif inR 0 z7.length then ((z7[0]?).bind fun x9=>(bif decide (x9=z4)then (bif inR 1 z7.length then ((z7[1]?).bind fun x10=>(k0 (decide (x10=z4))))else none)else (k0 false)))else none)else (bif decide (z3=4)then (bif inR 0 z7.length then ((z7[0]?).bind fun x11=>(bif decide (x11=z4)then (bif inR 1 z7.length then ((z7[1]?).bind fun x12=>(k0 (decide (x12=z4))))else none)else (k0 false)))else none)else (bif decide (z3=5)then (bif inR 0 z7.length then ((z7[0]?).bind fun x13=>(bif decide (x13=z4)then (bif inR 1 z7.length then ((z7[1]?).bind fun x14=>(k0 (decide (x14=z4))))else none)else (k0 false)))else none)else (bif decide (z3=6)then (bif inR 0 z7.length then ((z7[0]?).bind fun x15=>(bif decide (x15=z4)then (bif inR 1 z7.length then ((z7[1]?).bind fun x16=>(k0 (decide (x16=z4))))else none)else (k0 false)))else none)else (bif decide (z3=7)then (bif inR 0 z7.length then ((z7[0]?).bind fun x17=>(bif decide (x17=z4)then (bif inR 1 z7.length then ((z7[1]?).bind fun x18=>(k0 (decide (x18=z4))))else none)else (k0 false)))else none)else (bif decide (z3=8)then (bif inR 0 z7.length then ((z7[0]?).bind fun x19=>(bif decide (x19=z4)then (bif inR 1 z7.length then ((z7[1]?).bind fun x20=>(k0 (decide (x20=z4))))else none)else (k0 false)))else none)else (bif decide (z3=9)then (bif inR 0 z7.length then ((z7[0]?).bind fun x21=>(bif inR 1 z7.length then ((z7[1]?).bind fun x22=>(bif decide (x21=x22)then (k0 (decide (z4=1)))else (k0 false)))else none))else none)else (bif decide (z3=10)then (bif inR 0 z7.length then ((z7[0]?).bind fun x23=>(bif inR 1 z7.length then ((z7[1]?).bind fun x24=>(bif decide (x23=x24)then (k0 (decide (z4=1)))else (k0 false)))else none))else none)else (bif decide (z3=11)then (bif inR 0 z7.length then ((z7[0]?).bind fun x25=>(bif inR 1 z7.length then ((z7[1]?).bind fun x26=>(bif decide (x25=x26)then (k0 (decide (z4=1)))else (k0 false)))else none))else none)else (bif decide (z3=12)then (bif inR 0 z7.length then ((z7[0]?).bind fun x27=>(bif decide (x27=1)then (bif inR 1 z7.length then ((z7[1]?).bind fun x28=>(bif decide (x28=z4)then (bif inR 2 z7.length then ((z7[2]?).bind fun x29=>(k0 (decide (x29=z4))))else none)else (k0 false)))else none)else (k0 false)))else none)else (bif decide (z3=13)then (bif inR 0 z7.length then ((z7[0]?).bind fun x30=>(bif inR 1 z7.length then ((z7[1]?).bind fun x31=>(k0 (decide ((w64 (x30+x31))=z4))))else none))else none)else (bif decide (z3=14)then (bif inR 0 z7.length then ((z7[0]?).bind fun x32=>(k0 (decide ((w64 (z6+z4))<=x32))))else none)else (bif decide (z3=15)then (bif inR 0 z7.length then ((z7[0]?).bind fun x33=>(k0 (decide (x33<=z4))))else none)else (bif decide (z3=16)then (bif inR 0 z7.length then ((z7[0]?).bind fun x34=>(k0 (decide (x34<=z4))))else none)else (bif inR 0 z7.length then ((z7[0]?).bind fun x35=>(k0 (decide (x35=z4))))else none))))))))))))))))) N a0 0 a1 a2 a3 a4 [])
def bTy:CfS R:=u1 (bQK N) 279 ⟨[pL zs1,.agg zb8],[]⟩ ⟨[pB],[]⟩ (aCJ N)
theorem aTZ:FOK (bTy N:CfS R) (aAo T):=uCk (aLj N) bL1 (H:=cF6) (Lp:=(aZb N)) (hl:=(aAi (l:=[(58,[0,3,5,6],aW1)]) (by kernel_rfl) ⟨(aAf (bDE N N)),trivial⟩))
def aBY (k0:Int->Option R)(k1:List Int->zt2->zk1 (zk4 (Option R))):zk5 (zt2->zk1 (zk1 (zk4 (Option R))))
 | 0,_,_,_,_,_,_,_,_=>none
 | n+1,b0,b1,b2,b3,b4,b5,b6,b7=>(bif decide (b3<((b6.length:Nat):Int))then ((at? b6 b3).bind fun x1=>(aAz N x1 0 (w64 (b2-1)) (fun y2=>(bif (!y2)then (k0 9)else (aBY k0 k1 n b0 b1 b2 (w64 (b3+1)) b4 b5 b6 b7)))))else (k1 b0 b1 b4 b5 b6 b7))
def P238_l0:SP:=⟨[(0,pL [hI]),(1,pL zs1),(2,pI),(7,.ptr 0 0),(8,pI)],[(0,.box zb8)]⟩
def aWJ:Nat->P238_l0.den->KS R->Option R:=eS P238_l0 fun k=>aBY N (qS k .ret ⟨[(6,pI)],[]⟩) (qS k (.ex 0) ⟨[(0,pL [hI]),(1,pL zs1),(7,.ptr 0 0)],[(0,.box zb8)]⟩)
theorem bBI:LpG T P238_l0 (aWJ N (R:=R)) [0,1,2,7,8] aW0:=lpk (aTZ N) 506
def bIn:LpS R:=aCc noL 506 (aAx P238_l0 (aWJ N N))
def aDV (a0:List Int)(a1:zt2)(a2:Int)(k0:Int->Option R):Option R:=((at? a1 a2).bind fun x1=>(aAz N x1.1 0 18 (fun y2=>(bif (!y2)then (k0 15)else (aCz N x1.2.1 (fun y3=>(bif (!y3)then (k0 2)else (aDJ N x1.1 (fun y4=>(bif decide (((x1.2.2.1.length:Nat):Int)≠y4)then (k0 10)else (aBY N k0 (fun z6 z7 z8 z9 z10 z11=>(bif decide (z8=0)then (aEg N z11 z9 (fun y12=>(bif (!y12)then (k0 2)else (k0 0))))else (bif decide (z8=1)then (aAz N z11 0 (w64 (((z6.length:Nat):Int)-1)) (fun y13=>(bif (!y13)then (k0 6)else ((at? z6 z11).bind fun x14=>(bif decide (x14≠z9)then (k0 25)else (k0 0))))))else (bif decide (z8=14)then (aAz N z11 0 15 (fun y15=>(bif (!y15)then (k0 2)else (aCJ N z7 z8 z9 z10 z11 (fun y16=>(bif (!y16)then (k0 25)else (k0 0)))))))else (bif decide (z11≠0)then (k0 3)else (aCJ N z7 z8 z9 z10 z11 (fun y17=>(bif (!y17)then (k0 25)else (k0 0))))))))) N a0 a1 a2 0 x1.1 x1.2.1 x1.2.2.1 x1.2.2.2)))))))))))
def bRK:CfS R:=u1 (bTy N) 247 ⟨[pL [hI],pL zs1,pI],[]⟩ ⟨[pI],[]⟩ (aDV N)
theorem aU1:FOK (bRK N:CfS R) (aAo T):=uCk (aTZ N) bLS (Lp:=(bIn N)) (hl:=(aAi (l:=[(506,[0,1,2,7,8],aW0)]) (by kernel_rfl) ⟨(aAf (bBI N N)),trivial⟩))
def aBG (k0:zk1 (Option R))(k1:Option R):zk5 (zt2->Int->Option R)
 | 0,_,_,_=>none
 | n+1,b0,b1,b2=>(bif decide (b2<((b1.length:Nat):Int))then (aDV N b0 b1 b2 (fun y1=>(bif decide (y1≠0)then (k0 b2 y1)else (aBG k0 k1 n b0 b1 (w64 (b2+1))))))else k1)
def P239_l0:SP:=⟨[(0,pL [hI]),(1,pL zs1),(6,pI)],[]⟩
def aVg:Nat->P239_l0.den->KS R->Option R:=eS P239_l0 fun k=>aBG N (qS k .ret ⟨[(4,pI),(5,pI)],[]⟩) (qS k (.ex 0) ⟨[],[]⟩)
theorem bCp:LpG T P239_l0 (aVg N (R:=R)) [0,1,6] aTo:=lpk (aU1 N) 58
def bHy:LpS R:=aCc noL 58 (aAx P239_l0 (aVg N N))
def aDG (a0:List Int)(a1:zt2)(k0:zk1 (Option R)):Option R:=(bif decide (400<((a1.length:Nat):Int))then (k0 0 8)else (aBG N k0 (k0 0 0) N a0 a1 0))
def bSw:CfS R:=u1 (bRK N) 172 ⟨[pL [hI],pL zs1],[]⟩ ⟨[pI,pI],[]⟩ (aDG N)
theorem aTK:FOK (bSw N:CfS R) (aAo T):=uCk (aU1 N) bLa (Lp:=(bHy N)) (hl:=(aAi (l:=[(58,[0,1,6],aTo)]) (by kernel_rfl) ⟨(aAf (bCp N N)),trivial⟩))
def aCQ (a0:zt2)(a1:Int)(k0:Bool->Option R):Option R:=(aAz N a1 0 (w64 (((a0.length:Nat):Int)-1)) k0)
def bRy:CfS R:=u1 (bSw N) 248 ⟨[pL zs1,pI],[]⟩ ⟨[pB],[]⟩ (aCQ N)
theorem aMX:FOK (bRy N:CfS R) (aAo T):=uCk (aTK N) bQh
def aCl (a0:zt2)(a1:Int)(k0:Bool->Option R):Option R:=(aCQ N a0 a1 (fun y1=>(bif y1 then ((at? a0 a1).bind fun x2=>(k0 (decide (x2.2.1=1))))else (k0 false))))
def bSu:CfS R:=u1 (bRy N) 174 ⟨[pL zs1,pI],[]⟩ ⟨[pB],[]⟩ (aCl N)
theorem aPp:FOK (bSu N:CfS R) (aAo T):=uCk (aMX N) bP6
def aBx (k0:Int->Option R)(k1:Option R):Nat->zt1->zt2->zt8->Int->Option R
 | 0,_,_,_,_=>none
 | n+1,b0,b1,b2,b3=>(bif decide (b3<((b2.length:Nat):Int))then ((at? b2 b3).bind fun x1=>(aAz N x1.1 0 (w64 (((b0.length:Nat):Int)-1)) (fun y2=>(bif (!y2)then (k0 6)else ((at? b2 b3).bind fun x3=>(aCl N b1 x3.2.1 (fun y4=>(bif (!y4)then (k0 9)else ((at? b2 b3).bind fun x5=>(aCQ N b1 x5.2.2 (fun y6=>(bif (!y6)then (k0 9)else ((at? b2 b3).bind fun x7=>((at? b1 x7.2.2).bind fun x8=>((at? b2 b3).bind fun x9=>((at? b0 x9.1).bind fun x10=>(bif decide (x8.2.1≠x10.2.2.1)then (k0 25)else (aBx k0 k1 n b0 b1 b2 (w64 (b3+1))))))))))))))))))))else k1)
def P242_l0:SP:=⟨[(0,pL zs2),(1,pL zs1),(2,pL zs5),(7,pI)],[]⟩
def aWc:Nat->P242_l0.den->KS R->Option R:=eS P242_l0 fun k=>aBx N (qS k .ret ⟨[(6,pI)],[]⟩) (qS k (.ex 0) ⟨[],[]⟩)
theorem bFE:LpG T P242_l0 (aWc N (R:=R)) [0,1,2,7] aSs:=lpk (aPp N) 58
def bBe:LpS R:=aCc noL 58 (aAx P242_l0 (aWc N N))
def aDp (a0:zt1)(a1:zt2)(a2:zt8)(k0:Int->Option R):Option R:=(bif decide (16<((a2.length:Nat):Int))then (k0 8)else (aBx N k0 (k0 0) N a0 a1 a2 0))
def bRz:CfS R:=u1 (bSu N) 175 ⟨[pL zs2,pL zs1,pL zs5],[]⟩ ⟨[pI],[]⟩ (aDp N)
theorem aPC:FOK (bRz N:CfS R) (aAo T):=uCk (aPp N) bK9 (Lp:=(bBe N)) (hl:=(aAi (l:=[(58,[0,1,2,7],aSs)]) (by kernel_rfl) ⟨(aAf (bFE N N)),trivial⟩))
def aBg (N:Nat)(k0:zk1 (Option R))(k1:zt2->zt7->Int->Option R):Nat->zt2->zt7->zk1 (Option R)
 | 0,_,_,_,_=>none
 | n+1,b0,b1,b2,b3=>(bif decide (b3<b2)then ((at? b1 b3).bind fun x1=>((at? b1 b2).bind fun x2=>(bif decide (x1.1=x2.1)then (k0 b2 5)else (aBg N k0 k1 n b0 b1 b2 (w64 (b3+1))))))else (k1 b0 b1 b2))
def P243_l1:SP:=⟨[(0,pL zs1),(1,pL [.s,hI]),(6,pI),(7,pI)],[]⟩
def aVs:Nat->P243_l1.den->KS R->Option R:=eS P243_l1 fun k=>aBg N (qS k .ret ⟨[(4,pI),(5,pI)],[]⟩) (qS k (.ex 2) ⟨[(0,pL zs1),(1,pL [.s,hI]),(6,pI)],[]⟩)
theorem bGa:LpG T P243_l1 (aVs N (R:=R)) [0,1,6,7] aUh:=lpk (aPC N) 14922
def aZD:LpS R:=aCc noL 14922 (aAx P243_l1 (aVs N N))
def aBi (k0:zk1 (Option R))(k1:Option R):Nat->zt2->zt7->Int->Option R
 | 0,_,_,_=>none
 | n+1,b0,b1,b2=>(bif decide (b2<((b1.length:Nat):Int))then ((at? b1 b2).bind fun x1=>(aBW N x1.1 (fun y2=>(bif (!y2)then (k0 b2 4)else (aBg N k0 (fun z5 z6 z7=>((at? z6 z7).bind fun x8=>(aCQ N z5 x8.2 (fun y9=>(bif (!y9)then (k0 z7 9)else (aBi k0 k1 n z5 z6 (w64 (z7+1)))))))) N b0 b1 b2 0)))))else k1)
def P243_l0:SP:=⟨[(0,pL zs1),(1,pL [.s,hI]),(6,pI)],[]⟩
def aT2:Nat->P243_l0.den->KS R->Option R:=eS P243_l0 fun k=>aBi N (qS k .ret ⟨[(4,pI),(5,pI)],[]⟩) (qS k (.ex 0) ⟨[],[]⟩)
theorem bFz:LpG T P243_l0 (aT2 N (R:=R)) [0,1,6] aVl:=lpk (aPC N) 58 (Lp:=(aZD N)) (hl:=(aAi (l:=[(14922,[0,1,6,7],aUh)]) (by kernel_rfl) ⟨(aAf (bGa N N)),trivial⟩))
def bKm:LpS R:=aCc (aZD N) 58 (aAx P243_l0 (aT2 N N))
def aCx (a0:zt2)(a1:zt7)(k0:zk1 (Option R)):Option R:=(bif decide (12<((a1.length:Nat):Int))then (k0 0 8)else (aBi N k0 (k0 0 0) N a0 a1 0))
def bQl:CfS R:=u1 (bRz N) 176 ⟨[pL zs1,pL [.s,hI]],[]⟩ ⟨[pI,pI],[]⟩ (aCx N)
theorem aPo:FOK (bQl N:CfS R) (aAo T):=uCk (aPC N) bJU (Lp:=(bKm N)) (hl:=(aAi (l:=[(58,[0,1,6],aVl)]) (by kernel_rfl) ⟨(aAf (bFz N N)),trivial⟩))
def aCP (N:Nat)(k0:Bool->Option R)(k1:Option R):zk5 (zk1 (Option R))
 | 0,_,_,_=>none
 | n+1,b0,b1,b2=>(bif decide (b2<((b0.length:Nat):Int))then ((at? b0 b2).bind fun x1=>(bif decide (x1=b1)then (k0 true)else (aCP N k0 k1 n b0 b1 (w64 (b2+1)))))else k1)
def P244_l0:SP:=⟨[(0,pL [hI]),(1,pI),(5,pI)],[]⟩
def aVC:Nat->P244_l0.den->KS R->Option R:=eS P244_l0 fun k=>aCP N (qS k .ret ⟨[(4,pB)],[]⟩) (qS k (.ex 0) ⟨[],[]⟩)
theorem bEC:LpG T P244_l0 (aVC N (R:=R)) [0,1,5] aZu:=lpk (aPo N) 26
def aYY:LpS R:=aCc noL 26 (aAx P244_l0 (aVC N N))
def aEJ (a0:List Int)(a1:Int)(k0:Bool->Option R):Option R:=(aCP N k0 (k0 false) N a0 a1 0)
def bRZ:CfS R:=u1 (bQl N) 88 ⟨[pL [hI],pI],[]⟩ ⟨[pB],[]⟩ (aEJ N)
theorem aJR:FOK (bRZ N:CfS R) (aAo T):=uCk (aPo N) c88 (Lp:=(aYY N)) (hl:=(aAi (l:=[(26,[0,1,5],aZu)]) (by kernel_rfl) ⟨(aAf (bEC N N)),trivial⟩))
def aBw (N:Nat)(k0:zk1 (Option R))(k1:Int->zk0 (zk6 (Option R))):Nat->zk1 (zk0 (zk6 (Option R)))
 | 0,_,_,_,_,_,_,_,_,_,_,_,_=>none
 | n+1,b0,b1,b2,b3,b4,b5,b6,b7,b8,b9,b10,b11=>(bif decide (b1<b0)then ((at? b6 b1).bind fun x1=>(bif decide (x1.1=b9)then (k0 b0 5)else (aBw N k0 k1 n b0 (w64 (b1+1)) b2 b3 b4 b5 b6 b7 b8 b9 b10 b11)))else (k1 b0 b2 b3 b4 b5 b6 b7 b8 b9 b10 b11))
def P245_l1:SP:=⟨[(1,.ptr 0 0),(10,pI),(11,.ptr 1 0),(12,pI)],[(0,.box zb2),(1,.box [pS,pI,pL zs5])]⟩
def bZZ:Nat->P245_l1.den->KS R->Option R:=eS P245_l1 fun k=>aBw N (qS k .ret ⟨[(2,pI),(3,pI)],[]⟩) (qS k (.ex 2) ⟨[(1,.ptr 0 0),(10,pI),(11,.ptr 1 0)],[(0,.box zb2),(1,.box [pS,pI,pL zs5])]⟩)
theorem cC9:LpG T P245_l1 (bZZ N (R:=R)) [1,10,11,12] aUC:=lpk (aJR N) 521370
def aZP:LpS R:=aCc noL 521370 (aAx P245_l1 (bZZ N N))
def aBz (k0:zk1 (Option R))(k1:zk0 (Option R)):Nat->Int->zk0 (Option R)
 | 0,_,_,_,_,_,_,_,_=>none
 | n+1,b0,b1,b2,b3,b4,b5,b6,b7=>(bif decide (b0<((b5.length:Nat):Int))then ((at? b5 b0).bind fun x1=>(aBW N x1.1 (fun y2=>(bif (!y2)then (k0 b0 4)else (aBw N k0 (fun z5 z6 z7 z8 z9 z10 z11 z12 z13 z14 z15=>(aCl N z9 z14 (fun y16=>(bif (!y16)then (k0 z5 9)else (aDp N z8 z9 z15 (fun y17=>(bif decide (y17≠0)then (k0 z5 y17)else (aBz k0 k1 n (w64 (z5+1)) z6 z7 z8 z9 z10 z11 z12)))))))) N b0 0 b1 b2 b3 b4 b5 b6 b7 x1.1 x1.2.1 x1.2.2)))))else (k1 b1 b2 b3 b4 b5 b6 b7))
def P245_l0:SP:=⟨[(1,.ptr 0 0),(10,pI)],[(0,.box zb2)]⟩
def aVf:Nat->P245_l0.den->KS R->Option R:=eS P245_l0 fun k=>aBz N (qS k .ret ⟨[(2,pI),(3,pI)],[]⟩) (qS k (.ex 0) ⟨[(1,.ptr 0 0)],[(0,.box zb2)]⟩)
theorem bDQ:LpG T P245_l0 (aVf N (R:=R)) [1,10] aR2:=lpk (aJR N) 1018 (Lp:=(aZP N)) (hl:=(aAi (l:=[(521370,[1,10,11,12],aUC)]) (by kernel_rfl) ⟨(aAf (cC9 N N)),trivial⟩))
def aZH:LpS R:=aCc (aZP N) 1018 (aAx P245_l0 (aVf N N))
def aBB (k0:zk1 (Option R))(k1:Int->zk0 (Option R)):Nat->zk1 (zk0 (zk9 (Option R)))
 | 0,_,_,_,_,_,_,_,_,_,_,_=>none
 | n+1,b0,b1,b2,b3,b4,b5,b6,b7,b8,b9,b10=>(bif decide (b1<((b10.length:Nat):Int))then ((at? b10 b1).bind fun x1=>(aAz N x1 0 (w64 (((b6.length:Nat):Int)-1)) (fun y2=>(bif (!y2)then (k0 b0 6)else (bif slP 0 b1 b10.length then ((at? b10 b1).bind fun x3=>(aEJ N (List.take b1.toNat (List.drop 0 b10)) x3 (fun y4=>(bif y4 then (k0 b0 23)else (aBB k0 k1 n b0 (w64 (b1+1)) b2 b3 b4 b5 b6 b7 b8 b9 b10)))))else none)))))else (k1 b0 b2 b3 b4 b5 b6 b7 b8))
def P245_l3:SP:=⟨[(1,.ptr 0 0),(16,pI),(17,.ptr 1 0),(18,pI)],[(0,.box zb2),(1,.box [pI,pL [hI]])]⟩
def bZ1:Nat->P245_l3.den->KS R->Option R:=eS P245_l3 fun k=>aBB N (qS k .ret ⟨[(2,pI),(3,pI)],[]⟩) (qS k (.ex 6) ⟨[(1,.ptr 0 0),(16,pI)],[(0,.box zb2)]⟩)
theorem cDb:LpG T P245_l3 (bZ1 N (R:=R)) [1,16,17,18] aWy:=lpk (aJR N) 4191390 (Lp:=(aZH N))
def aZr:LpS R:=aCc (aZH N) 4191390 (aAx P245_l3 (bZ1 N N))
def aAW (k0:zk1 (Option R))(k1:Option R):Nat->Int->zk0 (Option R)
 | 0,_,_,_,_,_,_,_,_=>none
 | n+1,b0,b1,b2,b3,b4,b5,b6,b7=>(bif decide (b0<((b7.length:Nat):Int))then ((at? b7 b0).bind fun x1=>(aAz N x1.1 0 3 (fun y2=>(bif (!y2)then (k0 b0 15)else (bif decide (((x1.2.length:Nat):Int)=0)then (k0 b0 10)else (bif decide (16<((x1.2.length:Nat):Int))then (k0 b0 10)else (aBB N k0 (fun z7 z8 z9 z10 z11 z12 z13 z14=>(aAW k0 k1 n (w64 (z7+1)) z8 z9 z10 z11 z12 z13 z14)) N b0 0 b1 b2 b3 b4 b5 b6 b7 x1.1 x1.2)))))))else k1)
def P245_l2:SP:=⟨[(1,.ptr 0 0),(16,pI)],[(0,.box zb2)]⟩
def bZ0:Nat->P245_l2.den->KS R->Option R:=eS P245_l2 fun k=>aAW N (qS k .ret ⟨[(2,pI),(3,pI)],[]⟩) (qS k (.ex 4) ⟨[],[]⟩)
theorem cDa:LpG T P245_l2 (bZ0 N (R:=R)) [1,16] aUc:=lpk (aJR N) 8186 (Lp:=(aZr N)) (hl:=(aAi (l:=[(4191390,[1,16,17,18],aWy)]) (by kernel_rfl) ⟨(aAf (cDb N N)),trivial⟩))
def aYW:LpS R:=aCc (aZr N) 8186 (aAx P245_l2 (bZ0 N N))
def aDx (a0:ByteArray)(a1:zt7)(a2:zt1)(a3:zt2)(a4:zt0)(a5:zt7)(a6:zt6)(k0:zk1 (Option R)):Option R:=(aBW N a0 (fun y1=>(bif (!y1)then (k0 0 4)else (aDD N a1 (fun y2 y3=>(bif decide (y3≠0)then (k0 y2 y3)else (aC0 N a1 a2 (fun y4 y5=>(bif decide (y5≠0)then (k0 y4 y5)else (aEo N a0 a1 a2 a3 a4 a5 a6 (fun y6=>(aDG N y6 a3 (fun y7 y8=>(bif decide (y8≠0)then (k0 y7 y8)else (bif decide (16<((a4.length:Nat):Int))then (k0 0 8)else (aBz N k0 (fun z20 z21 z22 z23 z24 z25 z26=>(aCx N z23 z25 (fun y27 y28=>(bif decide (y28≠0)then (k0 y27 y28)else (bif decide (16<((z26.length:Nat):Int))then (k0 0 8)else (aAW N k0 (k0 0 0) N 0 z20 z21 z22 z23 z24 z25 z26)))))) N 0 a0 a1 a2 a3 a4 a5 a6))))))))))))))))
def bR4:CfS R:=u1 (bRZ N) 120 ⟨[.agg zb2],[]⟩ ⟨[pI,pI],[]⟩ (aDx N)
theorem bCo:FOK (bR4 N:CfS R) (aAo T):=uCk (aJR N) bDo (Lp:=(aYW N)) (hl:=(aAi (l:=[(1018,[1,10],aR2),(8186,[1,16],aUc)]) (by kernel_rfl) ⟨(aDL (by decide) (aDL (by decide) (aAf (bDQ N N)))),(aAf (cDa N N)),trivial⟩))
def bYp (a0:ByteArray)(a1:zt7)(a2:zt1)(a3:zt2)(a4:zt0)(a5:zt7)(a6:zt6)(k0:Bool->Option R):Option R:=(aDx N a0 a1 a2 a3 a4 a5 a6 (fun y1 y2=>(k0 (decide (y2=0)))))
def cFy:CfS R:=u1 (bR4 N) 84 ⟨[.agg zb2],[]⟩ ⟨[pB],[]⟩ (bYp N)
theorem cAM:FOK (cFy N:CfS R) (aAo T):=uCk (bCo N) c84
def aBm (N:Nat)(k0:Int->Bool->Option R)(k1:Int->Option R):Nat->zk1 (Int->zk0 (Option R))
 | 0,_,_,_,_,_,_,_,_,_,_=>none
 | n+1,b0,b1,b2,b3,b4,b5,b6,b7,b8,b9=>((at? b7 b0).bind fun x1=>(bif decide (b2<((x1.2.2.length:Nat):Int))then ((at? b7 b0).bind fun x2=>((at? x2.2.2 b2).bind fun x3=>((at? b5 x3.1).bind fun x4=>(bif decide (b1≠(-1))then (bif decide (x4.2.2.2.2≠b1)then (k0 0 false)else (aBm N k0 k1 n b0 x4.2.2.2.2 (w64 (b2+1)) b3 b4 b5 b6 b7 b8 b9))else (aBm N k0 k1 n b0 x4.2.2.2.2 (w64 (b2+1)) b3 b4 b5 b6 b7 b8 b9)))))else (k1 b1)))
def P247_l0:SP:=⟨[(1,pI),(2,.ptr 0 0),(6,pI),(7,pI)],[(0,.box zb2)]⟩
def bZ2:Nat->P247_l0.den->KS R->Option R:=eS P247_l0 fun k=>aBm N (qS k .ret ⟨[(4,pI),(5,pB)],[]⟩) (qS k (.ex 0) ⟨[(6,pI)],[]⟩)
theorem cDc:LpG T P247_l0 (bZ2 N (R:=R)) [1,2,6,7] aZo:=lpk (cAM N) 58
def cEf:LpS R:=aCc noL 58 (aAx P247_l0 (bZ2 N N))
def aDb (a0:ByteArray)(a1:zt7)(a2:zt1)(a3:zt2)(a4:zt0)(a5:zt7)(a6:zt6)(a7:Int)(k0:Int->Bool->Option R):Option R:=(aBm N k0 (fun z7=>(k0 z7 true)) N a7 (-1) 0 a0 a1 a2 a3 a4 a5 a6)
def cFz:CfS R:=u1 (cFy N) 91 ⟨[.agg zb2,pI],[]⟩ ⟨[pI,pB],[]⟩ (aDb N)
theorem cAN:FOK (cFz N:CfS R) (aAo T):=uCk (cAM N) c91 (Lp:=(cEf N)) (hl:=(aAi (l:=[(58,[1,2,6,7],aZo)]) (by kernel_rfl) ⟨(aAf (cDc N N)),trivial⟩))
def aA4 (k0:Int->Option R)(k1:Option R):Nat->Int->zk0 (Option R)
 | 0,_,_,_,_,_,_,_,_=>none
 | n+1,b0,b1,b2,b3,b4,b5,b6,b7=>(bif decide (b0<((b5.length:Nat):Int))then (aDb N b1 b2 b3 b4 b5 b6 b7 b0 (fun y1 y2=>(bif (!y2)then (k0 30)else (aA4 k0 k1 n (w64 (b0+1)) b1 b2 b3 b4 b5 b6 b7))))else k1)
def P248_l0:SP:=⟨[(1,.ptr 0 0),(5,pI)],[(0,.box zb2)]⟩
def bZ3:Nat->P248_l0.den->KS R->Option R:=eS P248_l0 fun k=>aA4 N (qS k .ret ⟨[(2,pI)],[]⟩) (qS k (.ex 0) ⟨[],[]⟩)
theorem cDd:LpG T P248_l0 (bZ3 N (R:=R)) [1,5] bAd:=lpk (cAN N) 58
def cEg:LpS R:=aCc noL 58 (aAx P248_l0 (bZ3 N N))
def aDd (a0:ByteArray)(a1:zt7)(a2:zt1)(a3:zt2)(a4:zt0)(a5:zt7)(a6:zt6)(k0:Int->Option R):Option R:=(aDx N a0 a1 a2 a3 a4 a5 a6 (fun y1 y2=>(bif decide (y2≠0)then (k0 y2)else (aA4 N k0 (k0 0) N 0 a0 a1 a2 a3 a4 a5 a6))))
def cFA:CfS R:=u1 (cFz N) 41 ⟨[.agg zb2],[]⟩ ⟨[pI],[]⟩ (aDd N)
theorem bYY:FOK (cFA N:CfS R) (aAo T):=uCk (cAN N) c41 (Lp:=(cEg N)) (hl:=(aAi (l:=[(58,[1,5],bAd)]) (by kernel_rfl) ⟨(aAf (cDd N N)),trivial⟩))
def bX7 (N:Nat)(k0:Bool->Option R)(k1:List ByteArray->List ByteArray->zk0 (Option R)):Nat->zt1->List ByteArray->List ByteArray->Int->zk0 (Option R)
 | 0,_,_,_,_,_,_,_,_,_,_,_=>none
 | n+1,b0,b1,b2,b3,b4,b5,b6,b7,b8,b9,b10=>(bif decide (b3<((b0.length:Nat):Int))then ((at? b6 b3).bind fun x1=>((at? b0 b3).bind fun x2=>(bif (true != (decide (x1.1=x2.1)&&(decide (x1.2.1=x2.2.1)&&(decide (x1.2.2.1=x2.2.2.1)&&(decide (x1.2.2.2.1=x2.2.2.2.1)&&(decide (x1.2.2.2.2=x2.2.2.2.2)&&true))))))then (k0 false)else (bX7 N k0 k1 n b0 b1 b2 (w64 (b3+1)) b4 b5 b6 b7 b8 b9 b10))))else (k1 b1 b2 b4 b5 b6 b7 b8 b9 b10))
def P249_l0:SP:=⟨[(3,pL zs2),(4,pL [.s]),(5,pL [.s]),(6,.ptr 0 0),(13,pI)],[(0,.box zb2)]⟩
def bZ4:Nat->P249_l0.den->KS R->Option R:=eS P249_l0 fun k=>bX7 N (qS k .ret ⟨[(12,pB)],[]⟩) (qS k (.ex 0) ⟨[(4,pL [.s]),(5,pL [.s]),(6,.ptr 0 0)],[(0,.box zb2)]⟩)
theorem cDe:LpG T P249_l0 (bZ4 N (R:=R)) [3,4,5,6,13] cCa:=lpk (bYY N) 58
def cBH:LpS R:=aCc noL 58 (aAx P249_l0 (bZ4 N N))
def bX8 (N:Nat)(k0:Bool->Option R)(k1:List ByteArray->zk0 (Option R)):Nat->List ByteArray->List ByteArray->Int->zk0 (Option R)
 | 0,_,_,_,_,_,_,_,_,_,_=>none
 | n+1,b0,b1,b2,b3,b4,b5,b6,b7,b8,b9=>(bif decide (b2<((b0.length:Nat):Int))then ((at? b7 b2).bind fun x1=>((at? b0 b2).bind fun x2=>(bif decide (x1.1≠x2)then (k0 false)else (bX8 N k0 k1 n b0 b1 (w64 (b2+1)) b3 b4 b5 b6 b7 b8 b9))))else (k1 b1 b3 b4 b5 b6 b7 b8 b9))
def P249_l1:SP:=⟨[(4,pL [.s]),(5,pL [.s]),(6,.ptr 0 0),(14,pI)],[(0,.box zb2)]⟩
def bZ5:Nat->P249_l1.den->KS R->Option R:=eS P249_l1 fun k=>bX8 N (qS k .ret ⟨[(12,pB)],[]⟩) (qS k (.ex 2) ⟨[(5,pL [.s]),(6,.ptr 0 0)],[(0,.box zb2)]⟩)
theorem cDf:LpG T P249_l1 (bZ5 N (R:=R)) [4,5,6,14] cCb:=lpk (bYY N) 122 (Lp:=(cBH N))
def cBI:LpS R:=aCc (cBH N) 122 (aAx P249_l1 (bZ5 N N))
def bX9 (N:Nat)(k0:Bool->Option R)(k1:Option R):Nat->List ByteArray->Int->zk0 (Option R)
 | 0,_,_,_,_,_,_,_,_,_=>none
 | n+1,b0,b1,b2,b3,b4,b5,b6,b7,b8=>(bif decide (b1<((b0.length:Nat):Int))then ((at? b7 b1).bind fun x1=>((at? b0 b1).bind fun x2=>(bif decide (x1.1≠x2)then (k0 false)else (bX9 N k0 k1 n b0 (w64 (b1+1)) b2 b3 b4 b5 b6 b7 b8))))else k1)
def P249_l2:SP:=⟨[(5,pL [.s]),(6,.ptr 0 0),(15,pI)],[(0,.box zb2)]⟩
def bZ6:Nat->P249_l2.den->KS R->Option R:=eS P249_l2 fun k=>bX9 N (qS k .ret ⟨[(12,pB)],[]⟩) (qS k (.ex 4) ⟨[],[]⟩)
theorem cDg:LpG T P249_l2 (bZ6 N (R:=R)) [5,6,15] cCc:=lpk (bYY N) 250 (Lp:=(cBI N))
def cEh:LpS R:=aCc (cBI N) 250 (aAx P249_l2 (bZ6 N N))
def bYj (a0:ByteArray)(a1:zt7)(a2:zt1)(a3:zt2)(a4:zt0)(a5:zt7)(a6:zt6)(a7:ByteArray)(a8:zt7)(a9:zt1)(a10 a11:List ByteArray)(k0:Bool->Option R):Option R:=(bYp N a0 a1 a2 a3 a4 a5 a6 (fun y1=>(bif (!y1)then (k0 false)else (bif decide (a0≠a7)then (k0 false)else (bX6 N a1 a8 (fun y2=>(bif (!y2)then (k0 false)else (bif decide (((a2.length:Nat):Int)≠((a9.length:Nat):Int))then (k0 false)else (bif decide (((a4.length:Nat):Int)≠((a10.length:Nat):Int))then (k0 false)else (bif decide (((a5.length:Nat):Int)≠((a11.length:Nat):Int))then (k0 false)else (bif decide (((a6.length:Nat):Int)≠0)then (k0 false)else (aDd N a0 a1 a2 a3 a4 a5 a6 (fun y3=>(bif decide (y3≠0)then (k0 false)else (bX7 N k0 (fun z5 z6 z7 z8 z9 z10 z11 z12 z13=>(bX8 N k0 (fun z15 z16 z17 z18 z19 z20 z21 z22=>(bX9 N k0 (k0 true) N z15 0 z16 z17 z18 z19 z20 z21 z22)) N z5 z6 0 z7 z8 z9 z10 z11 z12 z13)) N a9 a10 a11 0 a0 a1 a2 a3 a4 a5 a6)))))))))))))))
def cFB:CfS R:=u1 (cFA N) 16 ⟨[.agg zb2,pS,pL [.s,hI],pL zs2,pL [.s],pL [.s]],[]⟩ ⟨[pB],[]⟩ (bYj N)
theorem cAO:FOK (cFB N:CfS R) (aAo T):=uCk (bYY N) c16 (Lp:=(cEh N)) (hl:=(aAi (l:=[(58,[3,4,5,6,13],cCa),(122,[4,5,6,14],cCb),(250,[5,6,15],cCc)]) (by kernel_rfl) ⟨(aDL (by decide) (aDL (by decide) (aAf (cDe N N)))),(aDL (by decide) (aAf (cDf N N))),(aAf (cDg N N)),trivial⟩))
def cF7:Nat->Option (List Sh):=fun n=>if n=20000 then some [hI]else none
def aBK (k0:List Int->Option R):Nat->Int->zk0 (List Int->Option R)
 | 0,_,_,_,_,_,_,_,_,_=>none
 | n+1,b0,b1,b2,b3,b4,b5,b6,b7,b8=>(bif decide (b0<((b5.length:Nat):Int))then (aDb N b1 b2 b3 b4 b5 b6 b7 b0 (fun y1 y2=>(bif aBU (b8.length+1) 8 then (aBK k0 n (w64 (b0+1)) b1 b2 b3 b4 b5 b6 b7 (b8++[y1]))else none)))else (k0 b8))
def P250_l0:SP:=⟨[(1,.ptr 0 0),(3,.own 1),(4,pI)],[(0,.box zb2),(1,.arr [hI])]⟩
def bZ7:Nat->P250_l0.den->KS R->Option R:=eS P250_l0 fun k=>aBK N (qS k (.ex 0) ⟨[(3,.own 0)],[(0,.arr [hI])]⟩)
theorem cDh:LpG T P250_l0 (bZ7 N (R:=R)) [1,3,4] bAg:=lpk (cAO N) 58 (H:=cF7)
def cEi:LpS R:=aCc noL 58 (aAx P250_l0 (bZ7 N N))
def aCZ (a0:ByteArray)(a1:zt7)(a2:zt1)(a3:zt2)(a4:zt0)(a5:zt7)(a6:zt6)(k0:List Int->Option R):Option R:=(aBK N k0 N 0 a0 a1 a2 a3 a4 a5 a6 [])
def cFC:CfS R:=u1 (cFB N) 43 ⟨[.agg zb2],[]⟩ ⟨[pL [hI]],[]⟩ (aCZ N)
theorem bYZ:FOK (cFC N:CfS R) (aAo T):=uCk (cAO N) c43 (H:=cF7) (Lp:=(cEi N)) (hl:=(aAi (l:=[(58,[1,3,4],bAg)]) (by kernel_rfl) ⟨(aAf (cDh N N)),trivial⟩))
def cEZ:Nat->Option (List Sh):=fun n=>if n=4000 then some [.b]else none
def aCn (N:Nat)(k0:zt2->List Bool->Option R):Nat->zt2->zk4 (List Bool->Option R)
 | 0,_,_,_,_=>none
 | n+1,b0,b1,b2,b3=>(bif decide (b2<((b1.length:Nat):Int))then ((at? b1 b2).bind fun x1=>(bif inR x1 b3.length then ((b3[x1.toNat]?).bind fun x2=>(aCn N k0 n b0 b1 (w64 (b2+1)) (List.set b3 x1.toNat true)))else none))else (k0 b0 b3))
def P251_l0:SP:=⟨[(0,pL zs1),(1,pL [hI]),(5,.own 0),(6,pI)],[(0,.arr [.b])]⟩
def bZ8:Nat->P251_l0.den->KS R->Option R:=eS P251_l0 fun k=>aCn N (qS k (.ex 0) ⟨[(0,pL zs1),(5,.own 0)],[(0,.arr [.b])]⟩)
theorem cDi:LpG T P251_l0 (bZ8 N (R:=R)) [0,1,5,6] aU5:=lpk (bYZ N) 58 (H:=cEZ)
def cBJ:LpS R:=aCc noL 58 (aAx P251_l0 (bZ8 N N))
def aCo (N:Nat)(k0:zt2->Int->List Bool->Option R):Nat->zt2->zk1 (List Bool->Option R)
 | 0,_,_,_,_=>none
 | n+1,b0,b1,b2,b3=>(bif inR b1 b3.length then ((b3[b1.toNat]?).bind fun x1=>(bif x1 then ((at? b0 b1).bind fun x2=>(bif decide (b2<((x2.2.2.1.length:Nat):Int))then ((at? b0 b1).bind fun x3=>((at? x3.2.2.1 b2).bind fun x4=>(bif inR x4 b3.length then ((b3[x4.toNat]?).bind fun x5=>(aCo N k0 n b0 b1 (w64 (b2+1)) (List.set b3 x4.toNat true)))else none)))else (k0 b0 b1 b3)))else (k0 b0 b1 b3)))else none)
def P251_l2:SP:=⟨[(0,pL zs1),(5,.own 0),(7,pI),(8,pI)],[(0,.arr [.b])]⟩
def cAa:Nat->P251_l2.den->KS R->Option R:=eS P251_l2 fun k=>aCo N (qS k (.ex 4) ⟨[(0,pL zs1),(5,.own 0),(7,pI)],[(0,.arr [.b])]⟩)
theorem cDk:LpG T P251_l2 (cAa N (R:=R)) [0,5,7,8] aWV:=lpk (bYZ N) 7826 (H:=cEZ) (Lp:=(cBJ N))
def cBK:LpS R:=aCc (cBJ N) 7826 (aAx P251_l2 (cAa N N))
def aCq (k0:List Bool->Option R):Nat->zt2->Int->List Bool->Option R
 | 0,_,_,_=>none
 | n+1,b0,b1,b2=>(bif decide (0<=b1)then (aCo N (fun z6 z7 z8=>(aCq k0 n z6 (w64 (z7-1)) z8)) N b0 b1 0 b2)else (k0 b2))
def P251_l1:SP:=⟨[(0,pL zs1),(5,.own 0),(7,pI)],[(0,.arr [.b])]⟩
def bZ9:Nat->P251_l1.den->KS R->Option R:=eS P251_l1 fun k=>aCq N (qS k (.ex 2) ⟨[(5,.own 0)],[(0,.arr [.b])]⟩)
theorem cDj:LpG T P251_l1 (bZ9 N (R:=R)) [0,5,7] aUA:=lpk (bYZ N) 122 (H:=cEZ) (Lp:=(cBK N)) (hl:=(aAi (l:=[(7826,[0,5,7,8],aWV)]) (by kernel_rfl) ⟨(aAf (cDk N N)),trivial⟩))
def cEj:LpS R:=aCc (cBK N) 122 (aAx P251_l1 (bZ9 N N))
def aEM (a0:zt2)(a1:List Int)(k0:List Bool->Option R):Option R:=(bif decide (0<=((a0.length:Nat):Int)∧((a0.length:Nat):Int)<=((a0.length:Nat):Int))then (bif aBU a0.length 1 then (aCn N (fun z3 z4=>(aCq N k0 N z3 (w64 (((z3.length:Nat):Int)-1)) z4)) N a0 a1 0 (List.replicate a0.length false))else none)else none)
def cFD:CfS R:=u1 (cFC N) 210 ⟨[pL zs1,pL [hI]],[]⟩ ⟨[pL [.b]],[]⟩ (aEM N)
theorem bZg:FOK (cFD N:CfS R) (aAo T):=uCk (bYZ N) bGE (H:=cEZ) (Lp:=(cEj N)) (hl:=(aAi (l:=[(58,[0,1,5,6],aU5),(122,[0,5,7],aUA)]) (by kernel_rfl) ⟨(aDL (by decide) (aDL (by decide) (aAf (cDi N N)))),(aAf (cDj N N)),trivial⟩))
def cE4:Nat->Option (List Sh):=fun n=>if n=7000 then some [.b]else if n=48000 then some [hI]else none
def aAN (N:Nat)(k0:Int->List Bool->Option R):Nat->zt2->Int->List Bool->Int->List Bool->Option R
 | 0,_,_,_,_,_=>none
 | n+1,b0,b1,b2,b3,b4=>(bif decide (b3<((b0.length:Nat):Int))then ((at? b2 b3).bind fun x1=>(bif x1 then ((at? b0 b3).bind fun x2=>(bif decide (x2.1=1)then ((at? b0 b3).bind fun x3=>(bif inR x3.2.2.2 b4.length then ((b4[x3.2.2.2.toNat]?).bind fun x4=>(aAN N k0 n b0 b1 b2 (w64 (b3+1)) (List.set b4 x3.2.2.2.toNat true)))else none))else (aAN N k0 n b0 b1 b2 (w64 (b3+1)) b4)))else (aAN N k0 n b0 b1 b2 (w64 (b3+1)) b4)))else (k0 b1 b4))
def P252_l0:SP:=⟨[(0,pL zs1),(2,pI),(7,pL [.b]),(8,.own 0),(9,pI)],[(0,.arr [.b])]⟩
def cAb:Nat->P252_l0.den->KS R->Option R:=eS P252_l0 fun k=>aAN N (qS k (.ex 0) ⟨[(2,pI),(8,.own 0)],[(0,.arr [.b])]⟩)
theorem cDl:LpG T P252_l0 (cAb N (R:=R)) [0,2,7,8,9] aT9:=lpk (bZg N) 122 (H:=cE4)
def cBL:LpS R:=aCc noL 122 (aAx P252_l0 (cAb N N))
def aAZ (N:Nat)(k0:List Int->Option R):Nat->zk1 (List Bool->List Int->Option R)
 | 0,_,_,_,_=>none
 | n+1,b0,b1,b2,b3=>(bif decide (b1<b0)then (bif inR b1 b2.length then ((b2[b1.toNat]?).bind fun x1=>(bif x1 then (bif aBU (b3.length+1) 8 then (aAZ N k0 n b0 (w64 (b1+1)) b2 (b3++[b1]))else none)else (aAZ N k0 n b0 (w64 (b1+1)) b2 b3)))else none)else (k0 b3))
def P252_l1:SP:=⟨[(2,pI),(8,.own 0),(10,.own 1),(11,pI)],[(0,.arr [.b]),(1,.arr [hI])]⟩
def cAc:Nat->P252_l1.den->KS R->Option R:=eS P252_l1 fun k=>aAZ N (qS k (.ex 2) ⟨[(10,.own 0)],[(0,.arr [hI])]⟩)
theorem cDm:LpG T P252_l1 (cAc N (R:=R)) [2,8,10,11] aVn:=lpk (bZg N) 506 (H:=cE4) (Lp:=(cBL N))
def cEk:LpS R:=aCc (cBL N) 506 (aAx P252_l1 (cAc N N))
def aC1 (a0:zt2)(a1:List Int)(a2:Int)(k0:List Int->Option R):Option R:=(aEM N a0 a1 (fun y1=>(bif decide (0<=a2∧a2<=a2)then (bif aBU a2.toNat 1 then (aAN N (fun z5 z6=>(aAZ N k0 N z5 0 z6 [])) N a0 a2 y1 0 (List.replicate a2.toNat false))else none)else none)))
def cFE:CfS R:=u1 (cFD N) 155 ⟨[pL zs1,pL [hI],pI],[]⟩ ⟨[pL [hI]],[]⟩ (aC1 N)
theorem bZh:FOK (cFE N:CfS R) (aAo T):=uCk (bZg N) bG0 (H:=cE4) (Lp:=(cEk N)) (hl:=(aAi (l:=[(122,[0,2,7,8,9],aT9),(506,[2,8,10,11],aVn)]) (by kernel_rfl) ⟨(aDL (by decide) (aAf (cDl N N))),(aAf (cDm N N)),trivial⟩))
def cE5:Nat->Option (List Sh):=fun n=>if n=12000 then some [hI]else if n=33000 then some [hI]else if n=74000 then some [hI]else none
def aCp (N:Nat)(k0:zk0 (List Int->Option R)):Nat->Int->zk0 (zk6 (List Int->Option R))
 | 0,_,_,_,_,_,_,_,_,_,_,_,_=>none
 | n+1,b0,b1,b2,b3,b4,b5,b6,b7,b8,b9,b10,b11=>(bif decide (b0<((b10.length:Nat):Int))then ((at? b10 b0).bind fun x1=>((at? b10 b0).bind fun x2=>(bif aBU (b11.length+2) 8 then (aCp N k0 n (w64 (b0+1)) b1 b2 b3 b4 b5 b6 b7 b8 b9 b10 (b11++[x1.2.1,x2.2.2]))else none)))else (k0 b1 b2 b3 b4 b5 b6 b7 b11))
def P253_l0:SP:=⟨[(2,.ptr 0 0),(5,.ptr 1 0),(6,.own 2),(7,pI)],[(0,.box zb2),(1,.box [pS,pI,pL zs5]),(2,.arr [hI])]⟩
def cAd:Nat->P253_l0.den->KS R->Option R:=eS P253_l0 fun k=>aCp N (qS k (.ex 0) ⟨[(2,.ptr 0 0),(6,.own 1)],[(0,.box zb2),(1,.arr [hI])]⟩)
theorem cDn:LpG T P253_l0 (cAd N (R:=R)) [2,5,6,7] aS3:=lpk (bZh N) 122 (H:=cE5)
def cBM:LpS R:=aCc noL 122 (aAx P253_l0 (cAd N N))
def aBR (N:Nat)(k0:List Int->Option R):Nat->zk4 (zk0 (List Int->Option R))
 | 0,_,_,_,_,_,_,_,_,_,_=>none
 | n+1,b0,b1,b2,b3,b4,b5,b6,b7,b8,b9=>(bif decide (b1<((b0.length:Nat):Int))then ((at? b0 b1).bind fun x1=>(bif decide (((b3.length:Nat):Int)<=x1)then ((at? b0 b1).bind fun x2=>(bif aBU (b9.length+1) 8 then (aBR N k0 n b0 (w64 (b1+1)) b2 b3 b4 b5 b6 b7 b8 (b9++[(w64 (x2-((b3.length:Nat):Int)))]))else none))else (aBR N k0 n b0 (w64 (b1+1)) b2 b3 b4 b5 b6 b7 b8 b9)))else (k0 b9))
def P253_l1:SP:=⟨[(2,.ptr 0 0),(8,pL [hI]),(9,.own 1),(10,pI)],[(0,.box zb2),(1,.arr [hI])]⟩
def cAe:Nat->P253_l1.den->KS R->Option R:=eS P253_l1 fun k=>aBR N (qS k (.ex 2) ⟨[(9,.own 0)],[(0,.arr [hI])]⟩)
theorem cDo:LpG T P253_l1 (cAe N (R:=R)) [2,8,9,10] aTd:=lpk (bZh N) 1018 (H:=cE5) (Lp:=(cBM N))
def cEl:LpS R:=aCc (cBM N) 1018 (aAx P253_l1 (cAe N N))
def aEN (a0:ByteArray)(a1:zt7)(a2:zt1)(a3:zt2)(a4:zt0)(a5:zt7)(a6:zt6)(a7:Int)(k0:List Int->Option R):Option R:=((at? a4 a7).bind fun x1=>(aCp N (fun z3 z4 z5 z6 z7 z8 z9 z10=>(aC1 N z6 z10 (w64 (((z4.length:Nat):Int)+((z5.length:Nat):Int))) (fun y11=>(aBR N k0 N y11 0 z3 z4 z5 z6 z7 z8 z9 [])))) N 0 a0 a1 a2 a3 a4 a5 a6 x1.1 x1.2.1 x1.2.2 [x1.2.1]))
def cFF:CfS R:=u1 (cFE N) 121 ⟨[.agg zb2,pI],[]⟩ ⟨[pL [hI]],[]⟩ (aEN N)
theorem bZi:FOK (cFF N:CfS R) (aAo T):=uCk (bZh N) bKx (H:=cE5) (Lp:=(cEl N)) (hl:=(aAi (l:=[(122,[2,5,6,7],aS3),(1018,[2,8,9,10],aTd)]) (by kernel_rfl) ⟨(aDL (by decide) (aAf (cDn N N))),(aAf (cDo N N)),trivial⟩))
def cE6:Nat->Option (List Sh):=fun n=>if n=47000 then some [hI,hI]else none
def aAG (k0:zk4 (zk0 ((List (Int×Int))->Option R))):zk5 (zk1 (zk0 ((List (Int×Int))->Option R)))
 | 0,_,_,_,_,_,_,_,_,_,_,_=>none
 | n+1,b0,b1,b2,b3,b4,b5,b6,b7,b8,b9,b10=>(bif decide (b2<((b5.length:Nat):Int))then ((at? b0 b1).bind fun x1=>(bif decide (x1≠(-1))then ((at? b5 b2).bind fun x2=>((at? b0 b1).bind fun x3=>(bif decide (x2.2.2.2.2≠x3)then (aEN N b3 b4 b5 b6 b7 b8 b9 b1 (fun y4=>(aEJ N y4 b2 (fun y5=>(bif y5 then (bif aBU (b10.length+1) 16 then (aAG k0 n b0 b1 (w64 (b2+1)) b3 b4 b5 b6 b7 b8 b9 (b10++[(b1,b2)]))else none)else (aAG k0 n b0 b1 (w64 (b2+1)) b3 b4 b5 b6 b7 b8 b9 b10))))))else (aAG k0 n b0 b1 (w64 (b2+1)) b3 b4 b5 b6 b7 b8 b9 b10))))else (aAG k0 n b0 b1 (w64 (b2+1)) b3 b4 b5 b6 b7 b8 b9 b10)))else (k0 b0 b1 b3 b4 b5 b6 b7 b8 b9 b10))
def P254_l1:SP:=⟨[(1,.ptr 0 0),(3,pL [hI]),(4,.own 1),(5,pI),(6,pI)],[(0,.box zb2),(1,.arr [hI,hI])]⟩
def cAg:Nat->P254_l1.den->KS R->Option R:=eS P254_l1 fun k=>aAG N (qS k (.ex 2) ⟨[(1,.ptr 0 0),(3,pL [hI]),(4,.own 1),(5,pI)],[(0,.box zb2),(1,.arr [hI,hI])]⟩)
theorem cDq:LpG T P254_l1 (cAg N (R:=R)) [1,3,4,5,6] bAp:=lpk (bZi N) 7826 (H:=cE6)
def cBN:LpS R:=aCc noL 7826 (aAx P254_l1 (cAg N N))
def aBh (k0:(List (Int×Int))->Option R):Nat->zk4 (zk0 ((List (Int×Int))->Option R))
 | 0,_,_,_,_,_,_,_,_,_,_=>none
 | n+1,b0,b1,b2,b3,b4,b5,b6,b7,b8,b9=>(bif decide (b1<((b0.length:Nat):Int))then (aAG N (fun z6 z7 z8 z9 z10 z11 z12 z13 z14 z15=>(aBh k0 n z6 (w64 (z7+1)) z8 z9 z10 z11 z12 z13 z14 z15)) N b0 b1 0 b2 b3 b4 b5 b6 b7 b8 b9)else (k0 b9))
def P254_l0:SP:=⟨[(1,.ptr 0 0),(3,pL [hI]),(4,.own 1),(5,pI)],[(0,.box zb2),(1,.arr [hI,hI])]⟩
def cAf:Nat->P254_l0.den->KS R->Option R:=eS P254_l0 fun k=>aBh N (qS k (.ex 0) ⟨[(4,.own 0)],[(0,.arr [hI,hI])]⟩)
theorem cDp:LpG T P254_l0 (cAf N (R:=R)) [1,3,4,5] aZ7:=lpk (bZi N) 122 (H:=cE6) (Lp:=(cBN N)) (hl:=(aAi (l:=[(7826,[1,3,4,5,6],bAp)]) (by kernel_rfl) ⟨(aAf (cDq N N)),trivial⟩))
def cEm:LpS R:=aCc (cBN N) 122 (aAx P254_l0 (cAf N N))
def aDe (a0:ByteArray)(a1:zt7)(a2:zt1)(a3:zt2)(a4:zt0)(a5:zt7)(a6:zt6)(k0:(List (Int×Int))->Option R):Option R:=(aCZ N a0 a1 a2 a3 a4 a5 a6 (fun y1=>(aBh N k0 N y1 0 a0 a1 a2 a3 a4 a5 a6 [])))
def cFG:CfS R:=u1 (cFF N) 42 ⟨[.agg zb2],[]⟩ ⟨[pL [hI,hI]],[]⟩ (aDe N)
theorem bZj:FOK (cFG N:CfS R) (aAo T):=uCk (bZi N) c42 (H:=cE6) (Lp:=(cEm N)) (hl:=(aAi (l:=[(122,[1,3,4,5],aZ7)]) (by kernel_rfl) ⟨(aAf (cDp N N)),trivial⟩))
def bXU (N:Nat)(k0:zk1 (zk1 (Int->zk0 (Option R)))):Nat->zk1 (zk1 (zk1 (zk0 (Option R))))
 | 0,_,_,_,_,_,_,_,_,_,_,_,_,_=>none
 | n+1,b0,b1,b2,b3,b4,b5,b6,b7,b8,b9,b10,b11,b12=>((at? b10 b4).bind fun x1=>(bif decide (b5<((x1.2.2.length:Nat):Int))then ((at? b10 b4).bind fun x2=>((at? x2.2.2 b5).bind fun x3=>(bif decide (x3.1=b0)then (bXU N k0 n b0 b4 b5 (w64 (b3+1)) b4 (w64 (b5+1)) b6 b7 b8 b9 b10 b11 b12)else (bXU N k0 n b0 b1 b2 b3 b4 (w64 (b5+1)) b6 b7 b8 b9 b10 b11 b12))))else (k0 b0 b1 b2 b3 b4 b6 b7 b8 b9 b10 b11 b12)))
def P255_l1:SP:=⟨[(1,pI),(2,.ptr 0 0),(7,pI),(8,pI),(9,pI),(10,pI),(11,pI)],[(0,.box zb2)]⟩
def cAi:Nat->P255_l1.den->KS R->Option R:=eS P255_l1 fun k=>bXU N (qS k (.ex 2) ⟨[(1,pI),(2,.ptr 0 0),(7,pI),(8,pI),(9,pI),(10,pI)],[(0,.box zb2)]⟩)
theorem cDs:LpG T P255_l1 (cAi N (R:=R)) [1,2,7,8,9,10,11] cCB:=lpk (bZj N) 3730
def cBO:LpS R:=aCc noL 3730 (aAx P255_l1 (cAi N N))
def bYc (k0:zk1 (Int->Option R)):Nat->zk1 (zk1 (Int->zk0 (Option R)))
 | 0,_,_,_,_,_,_,_,_,_,_,_,_=>none
 | n+1,b0,b1,b2,b3,b4,b5,b6,b7,b8,b9,b10,b11=>(bif decide (b4<((b9.length:Nat):Int))then (bXU N (fun z4 z5 z6 z7 z8 z9 z10 z11 z12 z13 z14 z15=>(bYc k0 n z4 z5 z6 z7 (w64 (z8+1)) z9 z10 z11 z12 z13 z14 z15)) N b0 b1 b2 b3 b4 0 b5 b6 b7 b8 b9 b10 b11)else (k0 b1 b2 b3))
def P255_l0:SP:=⟨[(1,pI),(2,.ptr 0 0),(7,pI),(8,pI),(9,pI),(10,pI)],[(0,.box zb2)]⟩
def cAh:Nat->P255_l0.den->KS R->Option R:=eS P255_l0 fun k=>bYc N (qS k (.ex 0) ⟨[(7,pI),(8,pI),(9,pI)],[]⟩)
theorem cDr:LpG T P255_l0 (cAh N (R:=R)) [1,2,7,8,9,10] cCA:=lpk (bZj N) 58 (Lp:=(cBO N)) (hl:=(aAi (l:=[(3730,[1,2,7,8,9,10,11],cCB)]) (by kernel_rfl) ⟨(aAf (cDs N N)),trivial⟩))
def cEn:LpS R:=aCc (cBO N) 58 (aAx P255_l0 (cAh N N))
def bYb (a0:ByteArray)(a1:zt7)(a2:zt1)(a3:zt2)(a4:zt0)(a5:zt7)(a6:zt6)(a7:Int)(k0:zk1 (Bool->Option R)):Option R:=(bYc N (fun z16 z17 z18=>(k0 z16 z17 (decide (z18=1)))) N a7 0 0 0 0 a0 a1 a2 a3 a4 a5 a6)
def cFH:CfS R:=u1 (cFG N) 87 ⟨[.agg zb2,pI],[]⟩ ⟨[pI,pI,pB],[]⟩ (bYb N)
theorem cCO:FOK (cFH N:CfS R) (aAo T):=uCk (bZj N) c87 (Lp:=(cEn N)) (hl:=(aAi (l:=[(58,[1,2,7,8,9,10],cCA)]) (by kernel_rfl) ⟨(aAf (cDr N N)),trivial⟩))
def bYk (N:Nat)(a0:ByteArray)(a1:zt7)(a2:zt1)(a3:zt2)(a4:zt0)(a5:zt7)(a6:zt6)(a7:Int)(k0:Bool->Option R):Option R:=((at? a3 a7).bind fun x1=>(bif decide (x1.1=0)then ((at? a3 a7).bind fun x2=>(k0 (decide (x2.2.2.2=1))))else (k0 false)))
def cFI:CfS R:=u1 (cFH N) 192 ⟨[.agg zb2,pI],[]⟩ ⟨[pB],[]⟩ (bYk N)
theorem cCP:FOK (cFI N:CfS R) (aAo T):=uCk (cCO N) cFh
def bYr (N:Nat)(a0:ByteArray)(a1:zt7)(a2:zt1)(a3:zt2)(a4:zt0)(a5:zt7)(a6:zt6)(a7:Int)(k0:Int->Option R):Option R:=((at? a3 a7).bind fun x1=>(bif decide (x1.1≠1)then (k0 (-1))else ((at? a3 a7).bind fun x2=>(k0 (max (-1) (w64 (x2.2.2.2-((a1.length:Nat):Int))))))))
def cFJ:CfS R:=u1 (cFI N) 193 ⟨[.agg zb2,pI],[]⟩ ⟨[pI],[]⟩ (bYr N)
theorem cCQ:FOK (cFJ N:CfS R) (aAo T):=uCk (cCP N) cFi
def bYe (a0:ByteArray)(a1:zt7)(a2:zt1)(a3:zt2)(a4:zt0)(a5:zt7)(a6:zt6)(a7:Int)(k0:Int->Option R):Option R:=((at? a2 a7).bind fun x1=>(bif decide (x1.2.1≠0)then (k0 (-1))else (bYb N a0 a1 a2 a3 a4 a5 a6 a7 (fun y2 y3 y4=>(bif (!y4)then (k0 (-1))else ((at? a4 y2).bind fun x5=>(bYk N a0 a1 a2 a3 a4 a5 a6 x5.2.1 (fun y6=>(bif (!y6)then (k0 (-1))else ((at? a4 y2).bind fun x7=>((at? x7.2.2 y3).bind fun x8=>(bYk N a0 a1 a2 a3 a4 a5 a6 x8.2.1 (fun y9=>(bif (!y9)then (k0 (-1))else ((at? a4 y2).bind fun x10=>((at? x10.2.2 y3).bind fun x11=>(bYr N a0 a1 a2 a3 a4 a5 a6 x11.2.2 k0)))))))))))))))))
def cFK:CfS R:=u1 (cFJ N) 138 ⟨[.agg zb2,pI],[]⟩ ⟨[pI],[]⟩ (bYe N)
theorem cAP:FOK (cFK N:CfS R) (aAo T):=uCk (cCQ N) cFf
def cF8:Nat->Option (List Sh):=fun n=>if n=9000 then some [hI]else if n=32000 then some [hI]else if n=50000 then some [hI]else none
def bXG (k0:Int->zk0 (List Int->Option R)):Nat->zk9 (zk1 (zk0 (List Int->Option R)))
 | 0,_,_,_,_,_,_,_,_,_,_,_,_=>none
 | n+1,b0,b1,b2,b3,b4,b5,b6,b7,b8,b9,b10,b11=>((at? b8 b0).bind fun x1=>(bif decide (b3<((x1.2.2.length:Nat):Int))then ((at? b8 b0).bind fun x2=>((at? x2.2.2 b3).bind fun x3=>(bif aBU (b11.length+1) 8 then (aEJ N b1 b3 (fun y4=>(bif (!y4)then ((at? b8 b0).bind fun x5=>((at? x5.2.2 b3).bind fun x6=>(bif aBU ((b11++[x3.2.1]).length+1) 8 then (bXG k0 n b0 b1 b2 (w64 (b3+1)) b4 b5 b6 b7 b8 b9 b10 ((b11++[x3.2.1])++[x6.2.2]))else none)))else (bXG k0 n b0 b1 b2 (w64 (b3+1)) b4 b5 b6 b7 b8 b9 b10 (b11++[x3.2.1])))))else none)))else (k0 b2 b4 b5 b6 b7 b8 b9 b10 b11)))
def P259_l0:SP:=⟨[(1,pI),(2,pL [hI]),(3,pI),(4,.ptr 0 0),(9,.own 1),(10,pI)],[(0,.box zb2),(1,.arr [hI])]⟩
def cAj:Nat->P259_l0.den->KS R->Option R:=eS P259_l0 fun k=>bXG N (qS k (.ex 0) ⟨[(3,pI),(4,.ptr 0 0),(9,.own 1)],[(0,.box zb2),(1,.arr [hI])]⟩)
theorem cDt:LpG T P259_l0 (cAj N (R:=R)) [1,2,3,4,9,10] cCC:=lpk (cAP N) 58 (H:=cF8)
def cEo:LpS R:=aCc noL 58 (aAx P259_l0 (cAj N N))
def bXN (a0:ByteArray)(a1:zt7)(a2:zt1)(a3:zt2)(a4:zt0)(a5:zt7)(a6:zt6)(a7:Int)(a8:List Int)(a9:Int)(k0:Bool->Option R):Option R:=((at? a4 a7).bind fun x1=>(bXG N (fun z7 z8 z9 z10 z11 z12 z13 z14 z15=>(aC1 N z11 z15 (w64 (((z9.length:Nat):Int)+((z10.length:Nat):Int))) (fun y16=>(aEJ N y16 (w64 (((z9.length:Nat):Int)+z7)) k0)))) N a7 a8 a9 0 a0 a1 a2 a3 a4 a5 a6 [x1.2.1]))
def cFL:CfS R:=u1 (cFK N) 89 ⟨[.agg zb2,pI,pL [hI],pI],[]⟩ ⟨[pB],[]⟩ (bXN N)
theorem bY0:FOK (cFL N:CfS R) (aAo T):=uCk (cAP N) c89 (H:=cF8) (Lp:=(cEo N)) (hl:=(aAi (l:=[(58,[1,2,3,4,9,10],cCC)]) (by kernel_rfl) ⟨(aAf (cDt N N)),trivial⟩))
def cE0:Nat->Option (List Sh):=fun n=>if n=79000 then some [hI]else if n=100000 then some [hI,hI,hI]else none
def bXn (k0:zk1 (Int->Bool->zk0 (zt8->Option R))):Nat->zk1 (zk1 (Int->Bool->Int->zk0 (zt8->Option R)))
 | 0,_,_,_,_,_,_,_,_,_,_,_,_,_,_,_=>none
 | n+1,b0,b1,b2,b3,b4,b5,b6,b7,b8,b9,b10,b11,b12,b13,b14=>(bif decide (b6<((b11.length:Nat):Int))then (bif decide (b6=b3)then (bif b5 then (bXN N b7 b8 b9 b10 b11 b12 b13 b6 [b4] b0 (fun y1=>(bXn k0 n b0 b1 b2 b3 b4 (!y1) (w64 (b6+1)) b7 b8 b9 b10 b11 b12 b13 b14)))else (bXn k0 n b0 b1 b2 b3 b4 false (w64 (b6+1)) b7 b8 b9 b10 b11 b12 b13 b14))else (bif b5 then (bXN N b7 b8 b9 b10 b11 b12 b13 b6 [] b0 (fun y2=>(bXn k0 n b0 b1 b2 b3 b4 (!y2) (w64 (b6+1)) b7 b8 b9 b10 b11 b12 b13 b14)))else (bXn k0 n b0 b1 b2 b3 b4 false (w64 (b6+1)) b7 b8 b9 b10 b11 b12 b13 b14)))else (k0 b0 b1 b2 b5 b7 b8 b9 b10 b11 b12 b13 b14))
def P260_l2:SP:=⟨[(1,.ptr 0 0),(3,.own 1),(4,pI),(5,pI),(6,pI),(7,pI),(8,pI),(10,pB),(11,pI)],[(0,.box zb2),(1,.arr zs5)]⟩
def cAm:Nat->P260_l2.den->KS R->Option R:=eS P260_l2 fun k=>bXn N (qS k (.ex 4) ⟨[(1,.ptr 0 0),(3,.own 1),(4,pI),(5,pI),(6,pI),(10,pB)],[(0,.box zb2),(1,.arr zs5)]⟩)
theorem cDw:LpG T P260_l2 (cAm N (R:=R)) [1,3,4,5,6,7,8,10,11] cCp:=lpk (bY0 N) 15284538 (H:=cE0)
def cBP:LpS R:=aCc noL 15284538 (aAx P260_l2 (cAm N N))
def bXm (k0:Int->zk0 (zt8->Option R)):Nat->zk1 (Int->zk0 (zt8->Option R))
 | 0,_,_,_,_,_,_,_,_,_,_,_=>none
 | n+1,b0,b1,b2,b3,b4,b5,b6,b7,b8,b9,b10=>(bif decide (b2<((b5.length:Nat):Int))then (bYe N b3 b4 b5 b6 b7 b8 b9 b2 (fun y1=>(bif decide (y1≠b0)then (bXm k0 n b0 b1 (w64 (b2+1)) b3 b4 b5 b6 b7 b8 b9 b10)else ((at? b5 b2).bind fun x2=>((at? b5 b0).bind fun x3=>(bif decide (x2.2.2.2.2≠x3.2.2.2.2)then (bXm k0 n b0 b1 (w64 (b2+1)) b3 b4 b5 b6 b7 b8 b9 b10)else (bYb N b3 b4 b5 b6 b7 b8 b9 b2 (fun y4 y5 y6=>(bXn N (fun z7 z8 z9 z10 z11 z12 z13 z14 z15 z16 z17 z18=>(bif z10 then (bif aBU (z18.length+1) 24 then (bXm k0 n z7 z8 (w64 (z9+1)) z11 z12 z13 z14 z15 z16 z17 (z18++[(z8,z7,z9)]))else none)else (bXm k0 n z7 z8 (w64 (z9+1)) z11 z12 z13 z14 z15 z16 z17 z18))) N b0 b1 b2 y4 y5 true 0 b3 b4 b5 b6 b7 b8 b9 b10)))))))))else (k0 b0 b3 b4 b5 b6 b7 b8 b9 b10))
def P260_l1:SP:=⟨[(1,.ptr 0 0),(3,.own 1),(4,pI),(5,pI),(6,pI)],[(0,.box zb2),(1,.arr zs5)]⟩
def cAl:Nat->P260_l1.den->KS R->Option R:=eS P260_l1 fun k=>bXm N (qS k (.ex 2) ⟨[(1,.ptr 0 0),(3,.own 1),(4,pI)],[(0,.box zb2),(1,.arr zs5)]⟩)
theorem cDv:LpG T P260_l1 (cAl N (R:=R)) [1,3,4,5,6] cCo:=lpk (bY0 N) 14926 (H:=cE0) (Lp:=(cBP N)) (hl:=(aAi (l:=[(15284538,[1,3,4,5,6,7,8,10,11],cCp)]) (by kernel_rfl) ⟨(aAf (cDw N N)),trivial⟩))
def cBQ:LpS R:=aCc (cBP N) 14926 (aAx P260_l1 (cAl N N))
def bXD (k0:zt8->Option R):Nat->Int->zk0 (zt8->Option R)
 | 0,_,_,_,_,_,_,_,_,_=>none
 | n+1,b0,b1,b2,b3,b4,b5,b6,b7,b8=>(bif decide (b0<((b3.length:Nat):Int))then (bYe N b1 b2 b3 b4 b5 b6 b7 b0 (fun y1=>(bif decide (y1<0)then (bXD k0 n (w64 (b0+1)) b1 b2 b3 b4 b5 b6 b7 b8)else ((at? b3 y1).bind fun x2=>((at? b3 b0).bind fun x3=>(bif decide (x2.2.2.2.2=x3.2.2.2.2)then (bXD k0 n (w64 (b0+1)) b1 b2 b3 b4 b5 b6 b7 b8)else (bXm N (fun z19 z20 z21 z22 z23 z24 z25 z26 z27=>(bXD k0 n (w64 (z19+1)) z20 z21 z22 z23 z24 z25 z26 z27)) N b0 y1 0 b1 b2 b3 b4 b5 b6 b7 b8)))))))else (k0 b8))
def P260_l0:SP:=⟨[(1,.ptr 0 0),(3,.own 1),(4,pI)],[(0,.box zb2),(1,.arr zs5)]⟩
def cAk:Nat->P260_l0.den->KS R->Option R:=eS P260_l0 fun k=>bXD N (qS k (.ex 0) ⟨[(3,.own 0)],[(0,.arr zs5)]⟩)
theorem cDu:LpG T P260_l0 (cAk N (R:=R)) [1,3,4] cCn:=lpk (bY0 N) 58 (H:=cE0) (Lp:=(cBQ N)) (hl:=(aAi (l:=[(14926,[1,3,4,5,6],cCo)]) (by kernel_rfl) ⟨(aAf (cDv N N)),trivial⟩))
def cEp:LpS R:=aCc (cBQ N) 58 (aAx P260_l0 (cAk N N))
def bYs (a0:ByteArray)(a1:zt7)(a2:zt1)(a3:zt2)(a4:zt0)(a5:zt7)(a6:zt6)(k0:zt8->Option R):Option R:=(bXD N k0 N 0 a0 a1 a2 a3 a4 a5 a6 [])
def cFM:CfS R:=u1 (cFL N) 61 ⟨[.agg zb2],[]⟩ ⟨[pL zs5],[]⟩ (bYs N)
theorem bZk:FOK (cFM N:CfS R) (aAo T):=uCk (bY0 N) c61 (H:=cE0) (Lp:=(cEp N)) (hl:=(aAi (l:=[(58,[1,3,4],cCn)]) (by kernel_rfl) ⟨(aAf (cDu N N)),trivial⟩))
def cE7:Nat->Option (List Sh):=fun n=>if n=57000 then some [hI]else none
def bXj (k0:List Int->(List (Int×Int))->zt8->Int->zk0 (List Int->Option R)):zk5 ((List (Int×Int))->zt8->zk1 (zk0 (List Int->Option R)))
 | 0,_,_,_,_,_,_,_,_,_,_,_,_,_=>none
 | n+1,b0,b1,b2,b3,b4,b5,b6,b7,b8,b9,b10,b11,b12=>(bif decide (b4<((b2.length:Nat):Int))then ((at? b2 b4).bind fun x1=>(bYb N b5 b6 b7 b8 b9 b10 b11 x1.2.1 (fun y2 y3 y4=>((at? b2 b4).bind fun x5=>((at? b1 b3).bind fun x6=>(bif decide (x5.1=x6.2)then ((at? b1 b3).bind fun x7=>(bif decide (y2=x7.1)then (bif aBU (b12.length+1) 8 then (bXj k0 n b0 b1 b2 b3 (w64 (b4+1)) b5 b6 b7 b8 b9 b10 b11 (b12++[y3]))else none)else (bXj k0 n b0 b1 b2 b3 (w64 (b4+1)) b5 b6 b7 b8 b9 b10 b11 b12)))else (bXj k0 n b0 b1 b2 b3 (w64 (b4+1)) b5 b6 b7 b8 b9 b10 b11 b12)))))))else (k0 b0 b1 b2 b3 b5 b6 b7 b8 b9 b10 b11 b12))
def P261_l1:SP:=⟨[(1,pL [hI]),(2,.ptr 0 0),(6,pL [hI,hI]),(7,pL zs5),(8,pI),(9,.own 1),(10,pI)],[(0,.box zb2),(1,.arr [hI])]⟩
def cAo:Nat->P261_l1.den->KS R->Option R:=eS P261_l1 fun k=>bXj N (qS k (.ex 2) ⟨[(1,pL [hI]),(2,.ptr 0 0),(6,pL [hI,hI]),(7,pL zs5),(8,pI),(9,.own 1)],[(0,.box zb2),(1,.arr [hI])]⟩)
theorem cDy:LpG T P261_l1 (cAo N (R:=R)) [1,2,6,7,8,9,10] cCe:=lpk (bZk N) 14922 (H:=cE7)
def cBR:LpS R:=aCc noL 14922 (aAx P261_l1 (cAo N N))
def bXA (k0:Int->Bool->Option R)(k1:Option R):zk5 ((List (Int×Int))->zt8->Int->zk0 (Option R))
 | 0,_,_,_,_,_,_,_,_,_,_,_=>none
 | n+1,b0,b1,b2,b3,b4,b5,b6,b7,b8,b9,b10=>(bif decide (b3<((b1.length:Nat):Int))then (bXj N (fun z8 z9 z10 z11 z12 z13 z14 z15 z16 z17 z18 z19=>((at? z9 z11).bind fun x20=>(aEJ N z8 x20.2 (fun y21=>(bif (!y21)then ((at? z9 z11).bind fun x22=>((at? z9 z11).bind fun x23=>(bXN N z12 z13 z14 z15 z16 z17 z18 x22.1 z19 x23.2 (fun y24=>(bif y24 then ((at? z9 z11).bind fun x25=>(k0 x25.1 true))else (bXA k0 k1 n z8 z9 z10 (w64 (z11+1)) z12 z13 z14 z15 z16 z17 z18))))))else (bXA k0 k1 n z8 z9 z10 (w64 (z11+1)) z12 z13 z14 z15 z16 z17 z18)))))) N b0 b1 b2 b3 0 b4 b5 b6 b7 b8 b9 b10 [])else k1)
def P261_l0:SP:=⟨[(1,pL [hI]),(2,.ptr 0 0),(6,pL [hI,hI]),(7,pL zs5),(8,pI)],[(0,.box zb2)]⟩
def cAn:Nat->P261_l0.den->KS R->Option R:=eS P261_l0 fun k=>bXA N (qS k .ret ⟨[(4,pI),(5,pB)],[]⟩) (qS k (.ex 0) ⟨[],[]⟩)
theorem cDx:LpG T P261_l0 (cAn N (R:=R)) [1,2,6,7,8] cCd:=lpk (bZk N) 58 (H:=cE7) (Lp:=(cBR N)) (hl:=(aAi (l:=[(14922,[1,2,6,7,8,9,10],cCe)]) (by kernel_rfl) ⟨(aAf (cDy N N)),trivial⟩))
def cEq:LpS R:=aCc (cBR N) 58 (aAx P261_l0 (cAn N N))
def bX2 (a0:ByteArray)(a1:zt7)(a2:zt1)(a3:zt2)(a4:zt0)(a5:zt7)(a6:zt6)(a7:List Int)(k0:Int->Bool->Option R):Option R:=(aDe N a0 a1 a2 a3 a4 a5 a6 (fun y1=>(bYs N a0 a1 a2 a3 a4 a5 a6 (fun y2=>(bXA N k0 (k0 0 false) N a7 y1 y2 0 a0 a1 a2 a3 a4 a5 a6)))))
def cFN:CfS R:=u1 (cFM N) 18 ⟨[.agg zb2,pL [hI]],[]⟩ ⟨[pI,pB],[]⟩ (bX2 N)
theorem bZl:FOK (cFN N:CfS R) (aAo T):=uCk (bZk N) c18 (H:=cE7) (Lp:=(cEq N)) (hl:=(aAi (l:=[(58,[1,2,6,7,8],cCd)]) (by kernel_rfl) ⟨(aAf (cDx N N)),trivial⟩))
def bW1 (k0:Int->Option R)(k1:cCN (Int->Option R))(b0:Int)(b1:List (Int×Int))(b2:Int)(b3:Bool)(b4 b5:Int):Option R:=(bif decide (b4=1)then (aAz N b5 0 1 (fun y1=>(bif (!b3)then (bif (!y1)then (k0 2)else (k1 b0 b1 b2))else (k1 b0 b1 b2))))else (bif (!b3)then (k0 2)else (k1 b0 b1 b2)))
def P262_j0:SP:=⟨[(0,pI),(1,pL [hI,hI]),(5,pI),(6,.ptr 0 0),(7,pB)],[(0,.box [pI,pI])]⟩
def cAp:Nat->P262_j0.den->KS R->Option R:=jS P262_j0 fun k=>bW1 N (qS k .ret ⟨[(4,pI)],[]⟩) (qS k (.ex 1001865) ⟨[(0,pI),(1,pL [hI,hI]),(5,pI)],[]⟩)
theorem cDz:LpG T P262_j0 (cAp N (R:=R)) [0,1,5,6,7] cCi:=lpk (bZl N) 7462
def cBS:LpS R:=aCc noL 7462 (aAx P262_j0 (cAp N 1))
def bWX (k0:Int->Option R)(k1:Option R):Nat->cCN (Int->Option R)
 | 0,_,_,_=>none
 | n+1,b0,b1,b2=>(bif decide (b2<((b1.length:Nat):Int))then ((at? b1 b2).bind fun x1=>(bif decide (x1.1=0)then (bif decide (x1.2=(-1))then (bW1 N k0 (fun z3 z4 z5=>(bWX k0 k1 n z3 z4 (w64 (z5+1)))) b0 b1 b2 true x1.1 x1.2)else (aEg N x1.2 b0 (fun y6=>(bW1 N k0 (fun z8 z9 z10=>(bWX k0 k1 n z8 z9 (w64 (z10+1)))) b0 b1 b2 y6 x1.1 x1.2))))else (bW1 N k0 (fun z12 z13 z14=>(bWX k0 k1 n z12 z13 (w64 (z14+1)))) b0 b1 b2 false x1.1 x1.2)))else k1)
def P262_l0:SP:=⟨[(0,pI),(1,pL [hI,hI]),(5,pI)],[]⟩
def cAq:Nat->P262_l0.den->KS R->Option R:=eS P262_l0 fun k=>bWX N (qS k .ret ⟨[(4,pI)],[]⟩) (qS k (.ex 0) ⟨[],[]⟩)
theorem cDA:LpG T P262_l0 (cAq N (R:=R)) [0,1,5] cCj:=lpk (bZl N) 58 (Lp:=(cBS N)) (hl:=(aAi (l:=[(7462,[0,1,5,6,7],cCi)]) (by kernel_rfl) ⟨(aAf (cDz N 1)),trivial⟩))
def cEr:LpS R:=aCc (cBS N) 58 (aAx P262_l0 (cAq N N))
def bXI (a0:Int)(a1:List (Int×Int))(k0:Int->Option R):Option R:=(bif decide (60<((a1.length:Nat):Int))then (k0 8)else (bWX N k0 (k0 0) N a0 a1 0))
def cFO:CfS R:=u1 (cFN N) 29 ⟨[pI,pL [hI,hI]],[]⟩ ⟨[pI],[]⟩ (bXI N)
theorem cCR:FOK (cFO N:CfS R) (aAo T):=uCk (bZl N) c29 (Lp:=(cEr N)) (hl:=(aAi (l:=[(58,[0,1,5],cCj)]) (by kernel_rfl) ⟨(aAf (cDA N N)),trivial⟩))
def bXi (N:Nat)(a0:Bool)(k0:Int->Option R):Option R:=(bif a0 then (k0 1)else (k0 0))
def cFP:CfS R:=u1 (cFO N) 32 ⟨[pB],[]⟩ ⟨[pI],[]⟩ (bXi N)
theorem cCS:FOK (cFP N:CfS R) (aAo T):=uCk (cCR N) c32
def bXe (N:Nat)(a0 a1 a2 a3 a4 a5 a6 a7 a8 a9 a10:Int)(k0:zk1 (zk1 (zk1 (zk1 (Bool->Option R))))):Option R:=(bif decide (a8=0)then (bif decide (a9=1)then (bif decide (a1=a3)then (k0 a10 (w64 (1-a1)) a5 a2 a4 a5 a6 a7 (decide (a1=a3)))else (k0 a0 a1 a5 a2 a4 a5 a6 a7 (decide (a1=a3))))else (k0 a0 a1 a5 a2 a4 a5 a6 a7 false))else (bif decide (a7≠a5)then (k0 a0 a1 a2 a3 a0 (w64 (1-a5)) a1 a6 (decide (a7≠a5)))else (k0 a0 a1 a2 a3 a4 a5 a1 a6 (decide (a7≠a5)))))
def cFQ:CfS R:=u1 (cFP N) 49 ⟨[.agg zb7,pI,pI,pI],[]⟩ ⟨[.agg zb7,pB],[]⟩ (bXe N)
theorem bY1:FOK (cFQ N:CfS R) (aAo T):=uCk (cCS N) c49
def cE1:Nat->Option (List Sh):=fun n=>if n=62000 then some [hI]else if n=77000 then some [hI]else none
def bXc (N:Nat)(k0:(List (Int×Int))->zk1 (zk1 (zk1 (zk1 (Int->zk3 (Option R))))))(b0:List (Int×Int))(b1:Int)(b2:Bool)(b3 b4 b5 b6 b7 b8 b9 b10:Int)(b11 b12:List Int)(b13 b14 b15 b16 b17 b18 b19 b20:Int):Option R:=(bif b2 then ((at? b0 b1).bind fun x1=>(bif decide (x1.1=1)then (bif aBU (b12.length+1) 8 then (k0 b0 b1 b13 b14 b15 b16 b17 b18 b19 b20 b11 (b12++[b17]))else none)else (k0 b0 b1 b13 b14 b15 b16 b17 b18 b19 b20 b11 b12)))else (k0 b0 b1 b13 b14 b15 b16 b17 b18 b19 b20 b11 b12))
def P265_j1:SP:=⟨[(0,pL [hI,hI]),(4,.ptr 0 0),(5,.own 1),(6,.own 2),(7,pI),(9,.ptr 3 0),(10,pB)],[(0,.box zb7),(1,.arr [hI]),(2,.arr [hI]),(3,.box zb7)]⟩
def cAs:Nat->P265_j1.den->KS R->Option R:=jS P265_j1 fun k=>bXc N (qS k (.ex 1007827) ⟨[(0,pL [hI,hI]),(4,.ptr 0 0),(5,.own 1),(6,.own 2),(7,pI)],[(0,.box zb7),(1,.arr [hI]),(2,.arr [hI])]⟩)
theorem cDC:LpG T P265_j1 (cAs N (R:=R)) [0,4,5,6,7,9,10] cCl:=lpk (bY1 N) 250438 (H:=cE1)
def cBT:LpS R:=aCc noL 250438 (aAx P265_j1 (cAs N 1))
def bXh (k0:(List (Int×Int))->zk1 (zk1 (zk1 (zk1 (Int->zk3 (Option R))))))(b0:List (Int×Int))(b1 b2 b3 b4 b5 b6 b7 b8 b9 b10:Int)(b11 b12:List Int):Option R:=((at? b0 b1).bind fun x1=>((at? b0 b1).bind fun x2=>(bXe N b3 b4 b5 b6 b7 b8 b9 b10 x1.1 b2 (max 0 x2.2) (fun y3 y4 y5 y6 y7 y8 y9 y10 y11=>(bif y11 then ((at? b0 b1).bind fun x12=>(bif decide (x12.1=0)then ((at? b0 b1).bind fun x13=>(bif aBU (b11.length+1) 8 then (bXc N k0 b0 b1 y11 b3 b4 b5 b6 b7 b8 b9 b10 (b11++[x13.2]) b12 y3 y4 y5 y6 y7 y8 y9 y10)else none))else (bXc N k0 b0 b1 y11 b3 b4 b5 b6 b7 b8 b9 b10 b11 b12 y3 y4 y5 y6 y7 y8 y9 y10)))else (bXc N k0 b0 b1 y11 b3 b4 b5 b6 b7 b8 b9 b10 b11 b12 y3 y4 y5 y6 y7 y8 y9 y10))))))
def P265_j0:SP:=⟨[(0,pL [hI,hI]),(4,.ptr 0 0),(5,.own 1),(6,.own 2),(7,pI),(8,pI)],[(0,.box zb7),(1,.arr [hI]),(2,.arr [hI])]⟩
def cAr:Nat->P265_j0.den->KS R->Option R:=jS P265_j0 fun k=>bXh N (qS k (.ex 1001956) ⟨[(0,pL [hI,hI]),(4,.ptr 0 0),(5,.own 1),(6,.own 2),(7,pI)],[(0,.box zb7),(1,.arr [hI]),(2,.arr [hI])]⟩)
theorem cDB:LpG T P265_j0 (cAr N (R:=R)) [0,4,5,6,7,8] cCk:=lpk (bY1 N) 7826 (H:=cE1) (Lp:=(cBT N)) (hl:=(aAi (l:=[(250438,[0,4,5,6,7,9,10],cCl)]) (by kernel_rfl) ⟨(aAf (cDC N 1)),trivial⟩))
def cBU:LpS R:=aCc (cBT N) 7826 (aAx P265_j0 (cAr N 1))
def bW3 (k0:zk3 (Option R)):Nat->(List (Int×Int))->zk1 (zk1 (zk1 (zk1 (Int->zk3 (Option R)))))
 | 0,_,_,_,_,_,_,_,_,_,_,_,_=>none
 | n+1,b0,b1,b2,b3,b4,b5,b6,b7,b8,b9,b10,b11=>(bif decide (b1<((b0.length:Nat):Int))then ((at? b0 b1).bind fun x1=>(bif decide (x1.1=0)then ((at? b0 b1).bind fun x2=>(bXi N (decide (x2.2≠(-1))) (fun y3=>(bXh N (fun z50 z51 z52 z53 z54 z55 z56 z57 z58 z59 z60 z61=>(bW3 k0 n z50 (w64 (z51+1)) z52 z53 z54 z55 z56 z57 z58 z59 z60 z61)) b0 b1 y3 b2 b3 b4 b5 b6 b7 b8 b9 b10 b11))))else (bXi N false (fun y62=>(bXh N (fun z63 z64 z65 z66 z67 z68 z69 z70 z71 z72 z73 z74=>(bW3 k0 n z63 (w64 (z64+1)) z65 z66 z67 z68 z69 z70 z71 z72 z73 z74)) b0 b1 y62 b2 b3 b4 b5 b6 b7 b8 b9 b10 b11)))))else (k0 b10 b11))
def P265_l0:SP:=⟨[(0,pL [hI,hI]),(4,.ptr 0 0),(5,.own 1),(6,.own 2),(7,pI)],[(0,.box zb7),(1,.arr [hI]),(2,.arr [hI])]⟩
def cAt:Nat->P265_l0.den->KS R->Option R:=eS P265_l0 fun k=>bW3 N (qS k (.ex 0) ⟨[(5,.own 0),(6,.own 1)],[(0,.arr [hI]),(1,.arr [hI])]⟩)
theorem cDD:LpG T P265_l0 (cAt N (R:=R)) [0,4,5,6,7] cCm:=lpk (bY1 N) 122 (H:=cE1) (Lp:=(cBU N)) (hl:=(aAi (l:=[(7826,[0,4,5,6,7,8],cCk)]) (by kernel_rfl) ⟨(aAf (cDB N 1)),trivial⟩))
def cEs:LpS R:=aCc (cBU N) 122 (aAx P265_l0 (cAt N N))
def bXZ (a0:List (Int×Int))(k0:zk3 (Option R)):Option R:=(bW3 N k0 N a0 0 0 0 0 0 0 0 0 0 [] [])
def cFR:CfS R:=u1 (cFQ N) 48 ⟨[pL [hI,hI]],[]⟩ ⟨[pL [hI],pL [hI]],[]⟩ (bXZ N)
theorem cAQ:FOK (cFR N:CfS R) (aAo T):=uCk (bY1 N) c48 (H:=cE1) (Lp:=(cEs N)) (hl:=(aAi (l:=[(122,[0,4,5,6,7],cCm)]) (by kernel_rfl) ⟨(aAf (cDD N N)),trivial⟩))
def cF9:Nat->Option (List Sh):=fun n=>if n=6000 then some [hI]else none
def bXk (N:Nat)(k0:List Int->Option R):Nat->Int->zk0 (List Int->Option R)
 | 0,_,_,_,_,_,_,_,_,_=>none
 | n+1,b0,b1,b2,b3,b4,b5,b6,b7,b8=>(bif decide (b0<((b3.length:Nat):Int))then ((at? b3 b0).bind fun x1=>(bif inR b0 b8.length then ((b8[b0.toNat]?).bind fun x2=>(bXk N k0 n (w64 (b0+1)) b1 b2 b3 b4 b5 b6 b7 (List.set b8 b0.toNat x1.2.2.2.1)))else none))else (k0 b8))
def P266_l0:SP:=⟨[(1,.ptr 0 0),(3,.own 1),(4,pI)],[(0,.box zb2),(1,.arr [hI])]⟩
def cAu:Nat->P266_l0.den->KS R->Option R:=eS P266_l0 fun k=>bXk N (qS k (.ex 0) ⟨[(3,.own 0)],[(0,.arr [hI])]⟩)
theorem cDE:LpG T P266_l0 (cAu N (R:=R)) [1,3,4] cCf:=lpk (cAQ N) 58 (H:=cF9)
def cEt:LpS R:=aCc noL 58 (aAx P266_l0 (cAu N N))
def bX3 (a0:ByteArray)(a1:zt7)(a2:zt1)(a3:zt2)(a4:zt0)(a5:zt7)(a6:zt6)(k0:List Int->Option R):Option R:=(bif decide (0<=((a2.length:Nat):Int)∧((a2.length:Nat):Int)<=((a2.length:Nat):Int))then (bif aBU a2.length 8 then (bXk N k0 N 0 a0 a1 a2 a3 a4 a5 a6 (List.replicate a2.length 0))else none)else none)
def cFS:CfS R:=u1 (cFR N) 19 ⟨[.agg zb2],[]⟩ ⟨[pL [hI]],[]⟩ (bX3 N)
theorem cCT:FOK (cFS N:CfS R) (aAo T):=uCk (cAQ N) c19 (H:=cF9) (Lp:=(cEt N)) (hl:=(aAi (l:=[(58,[1,3,4],cCf)]) (by kernel_rfl) ⟨(aAf (cDE N N)),trivial⟩))
def bYh (N:Nat)(a0 a1:Int)(k0:Int->Option R):Option R:=(bif decide (a1=0)then none else (bif decide ((Int.tmod a0 a1)<0)then (k0 (w64 ((Int.tmod a0 a1)+a1)))else (k0 (Int.tmod a0 a1))))
def cFT:CfS R:=u1 (cFS N) 21 ⟨[pI,pI],[]⟩ ⟨[pI],[]⟩ (bYh N)
theorem cAR:FOK (cFT N:CfS R) (aAo T):=uCk (cCT N) c21
def bW8 (N:Nat)(k0:List Int->Option R):Nat->zk1 (zk0 (List Int->Option R))
 | 0,_,_,_,_,_,_,_,_,_,_=>none
 | n+1,b0,b1,b2,b3,b4,b5,b6,b7,b8,b9=>(bif decide (b1<((b4.length:Nat):Int))then ((at? b4 b1).bind fun x1=>(bif decide (x1.2.1=1)then ((at? b4 b1).bind fun x2=>(bif decide (x2.2.2.2.2=b0)then ((at? b4 b1).bind fun x3=>(bif inR b1 b9.length then ((b9[b1.toNat]?).bind fun x4=>(bW8 N k0 n b0 (w64 (b1+1)) b2 b3 b4 b5 b6 b7 b8 (List.set b9 b1.toNat x3.2.2.2.1)))else none))else (bW8 N k0 n b0 (w64 (b1+1)) b2 b3 b4 b5 b6 b7 b8 b9)))else (bW8 N k0 n b0 (w64 (b1+1)) b2 b3 b4 b5 b6 b7 b8 b9)))else (k0 b9))
def P268_l0:SP:=⟨[(1,pI),(3,.ptr 0 0),(7,.own 1),(8,pI)],[(0,.box zb2),(1,.arr [hI])]⟩
def cAv:Nat->P268_l0.den->KS R->Option R:=eS P268_l0 fun k=>bW8 N (qS k (.ex 0) ⟨[(7,.own 0)],[(0,.arr [hI])]⟩)
theorem cDF:LpG T P268_l0 (cAv N (R:=R)) [1,3,7,8] cCD:=lpk (cAR N) 58
def cEu:LpS R:=aCc noL 58 (aAx P268_l0 (cAv N N))
def bXM (a0:ByteArray)(a1:zt7)(a2:zt1)(a3:zt2)(a4:zt0)(a5:zt7)(a6:zt6)(a7:Int)(a8:List Int)(k0:List Int->Option R):Option R:=(aCX N a8 (fun y1=>(bW8 N k0 N a7 0 a0 a1 a2 a3 a4 a5 a6 y1)))
def cFU:CfS R:=u1 (cFT N) 90 ⟨[.agg zb2,pI,pL [hI]],[]⟩ ⟨[pL [hI]],[]⟩ (bXM N)
theorem cCU:FOK (cFU N:CfS R) (aAo T):=uCk (cAR N) c90 (Lp:=(cEu N)) (hl:=(aAi (l:=[(58,[1,3,7,8],cCD)]) (by kernel_rfl) ⟨(aAf (cDF N N)),trivial⟩))
def bXf (a0 a1:List Int)(k0:List Int->Option R):Option R:=(aCX N a0 (fun y1=>(bif aBU (y1.length+a1.length) 8 then (k0 (y1++a1))else none)))
def cFV:CfS R:=u1 (cFU N) 95 ⟨[pL [hI],pL [hI]],[]⟩ ⟨[pL [hI]],[]⟩ (bXf N)
theorem cCV:FOK (cFV N:CfS R) (aAo T):=uCk (cCU N) c95
def bXF (a0 a1:Int)(k0:Int->Option R):Option R:=(aEO N (w64 (a1-1)) (fun y1=>(bif decide (y1<=a0)then (aEO N a1 (fun y2=>(k0 (w64 (a0-y2)))))else (k0 a0))))
def cFW:CfS R:=u1 (cFV N) 211 ⟨[pI,pI],[]⟩ ⟨[pI],[]⟩ (bXF N)
theorem cCW:FOK (cFW N:CfS R) (aAo T):=uCk (cCV N) cFj
def bXV (a0 a1:Int)(a2:List Int)(a3:Int)(a4 a5 a6:List Int)(k0:Int->Option R):Option R:=(aEO N a1 (fun y1=>(bif decide (a0=0)then (k0 a3)else (bif decide (a0=1)then ((at? a6 a3).bind fun x2=>(k0 x2))else (bif decide (a0=2)then ((at? a4 0).bind fun x3=>(k0 (w64 ((w64 (y1-1))-x3))))else (bif decide (a0=3)then ((at? a4 0).bind fun x4=>((at? a4 1).bind fun x5=>(k0 (bLe .i64 x4 x5))))else (bif decide (a0=4)then ((at? a4 0).bind fun x6=>((at? a4 1).bind fun x7=>(k0 (orI .i64 x6 x7))))else (bif decide (a0=5)then ((at? a4 0).bind fun x8=>((at? a4 1).bind fun x9=>(k0 (bQA .i64 x8 x9))))else (bif decide (a0=6)then ((at? a4 0).bind fun x10=>((at? a4 1).bind fun x11=>(bif decide (y1=0)then none else (k0 (Int.tmod (w64 (x10+x11)) y1)))))else (bif decide (a0=7)then ((at? a4 0).bind fun x12=>((at? a4 1).bind fun x13=>(bif decide (y1=0)then none else (k0 (Int.tmod (w64 ((w64 (x12-x13))+y1)) y1)))))else (bif decide (a0=8)then ((at? a4 0).bind fun x14=>((at? a4 1).bind fun x15=>(bif decide (y1=0)then none else (k0 (Int.tmod (w64 (x14*x15)) y1)))))else (bif decide (a0=9)then ((at? a4 0).bind fun x16=>((at? a4 1).bind fun x17=>(bXi N (decide (x16=x17)) k0)))else (bif decide (a0=10)then ((at? a4 0).bind fun x19=>((at? a4 1).bind fun x20=>(bXi N (decide (x19<x20)) k0)))else (bif decide (a0=11)then ((at? a4 0).bind fun x22=>((at? a5 0).bind fun x23=>(bXF N x22 x23 (fun y24=>((at? a4 1).bind fun x25=>((at? a5 1).bind fun x26=>(bXF N x25 x26 (fun y27=>(bXi N (decide (y24<y27)) k0)))))))))else (bif decide (a0=12)then ((at? a4 0).bind fun x29=>(bif decide (x29=1)then ((at? a4 1).bind fun x30=>(k0 x30))else ((at? a4 2).bind fun x31=>(k0 x31))))else (bif decide (a0=13)then ((at? a4 0).bind fun x32=>((at? a5 1).bind fun x33=>(aEO N x33 (fun y34=>((at? a4 1).bind fun x35=>(k0 (w64 ((w64 (x32*y34))+x35))))))))else (bif decide (a0=14)then ((at? a4 0).bind fun x36=>(aEO N a3 (fun y37=>(bif decide (y37=0)then none else (bif decide (y1=0)then none else (k0 (Int.tmod (w64 (Int.tdiv x36 y37)) y1)))))))else (bif decide (a0=15)then ((at? a4 0).bind fun x38=>(k0 x38))else (bif decide (a0=16)then ((at? a4 0).bind fun x39=>((at? a5 0).bind fun x40=>(bXF N x39 x40 (fun y41=>(bif decide (y1=0)then none else (k0 (Int.tmod (w64 (y41+y1)) y1)))))))else (bif decide (a0=17)then ((at? a4 1).bind fun x42=>(bif decide (a1<=x42)then (k0 0)else ((at? a4 0).bind fun x43=>((at? a4 1).bind fun x44=>(aEO N x44 (fun y45=>(bif decide (y1=0)then none else (k0 (Int.tmod (w64 (x43*y45)) y1)))))))))else ((at? a4 1).bind fun x46=>(bif decide (a1<=x46)then (k0 0)else ((at? a4 0).bind fun x47=>((at? a4 1).bind fun x48=>(aEO N x48 (fun y49=>(bif decide (y49=0)then none else (k0 (w64 (Int.tdiv x47 y49))))))))))))))))))))))))))))))
def cFX:CfS R:=u1 (cFW N) 156 ⟨[.agg zb8,pL [hI],pL [hI],pL [hI]],[]⟩ ⟨[pI],[]⟩ (bXV N)
theorem bZm:FOK (cFX N:CfS R) (aAo T):=uCk (cCW N) cFg
def cE8:Nat->Option (List Sh):=fun n=>if n=4000 then some [hI]else if n=34000 then some [hI]else if n=49000 then some [hI]else none
def bXa (N:Nat)(k0:zt2->zk4 (zk3 (List Int->Option R))):Nat->zt2->List Int->zk1 (zk3 (List Int->Option R))
 | 0,_,_,_,_,_,_,_=>none
 | n+1,b0,b1,b2,b3,b4,b5,b6=>((at? b0 b2).bind fun x1=>(bif decide (b3<((x1.2.2.1.length:Nat):Int))then ((at? b0 b2).bind fun x2=>((at? x2.2.2.1 b3).bind fun x3=>(bif inR x3 b4.length then ((b4[x3.toNat]?).bind fun x4=>(bif aBU (b5.length+1) 8 then ((at? b0 b2).bind fun x5=>((at? x5.2.2.1 b3).bind fun x6=>((at? b0 x6).bind fun x7=>(bif aBU (b6.length+1) 8 then (bXa N k0 n b0 b1 b2 (w64 (b3+1)) b4 (b5++[x4]) (b6++[x7.2.1]))else none))))else none))else none)))else (k0 b0 b1 b2 b4 b5 b6)))
def P272_l1:SP:=⟨[(0,pL zs1),(1,pL [hI]),(5,.own 0),(6,pI),(7,.own 1),(8,.own 2),(9,pI)],[(0,.arr [hI]),(1,.arr [hI]),(2,.arr [hI])]⟩
def cAx:Nat->P272_l1.den->KS R->Option R:=eS P272_l1 fun k=>bXa N (qS k (.ex 2) ⟨[(0,pL zs1),(1,pL [hI]),(5,.own 0),(6,pI),(7,.own 1),(8,.own 2)],[(0,.arr [hI]),(1,.arr [hI]),(2,.arr [hI])]⟩)
theorem cDH:LpG T P272_l1 (cAx N (R:=R)) [0,1,5,6,7,8,9] cCG:=lpk (bZm N) 14922 (H:=cE8)
def cBV:LpS R:=aCc noL 14922 (aAx P272_l1 (cAx N N))
def bW0 (k0:List Int->Option R):Nat->zt2->zk4 (List Int->Option R)
 | 0,_,_,_,_=>none
 | n+1,b0,b1,b2,b3=>(bif decide (b2<((b0.length:Nat):Int))then (bXa N (fun z8 z9 z10 z11 z12 z13=>((at? z8 z10).bind fun x14=>(bXV N x14.1 x14.2.1 x14.2.2.1 x14.2.2.2 z12 z13 z9 (fun y15=>(bif inR z10 z11.length then ((z11[z10.toNat]?).bind fun x16=>(bW0 k0 n z8 z9 (w64 (z10+1)) (List.set z11 z10.toNat y15)))else none))))) N b0 b1 b2 0 b3 [] [])else (k0 b3))
def P272_l0:SP:=⟨[(0,pL zs1),(1,pL [hI]),(5,.own 0),(6,pI)],[(0,.arr [hI])]⟩
def cAw:Nat->P272_l0.den->KS R->Option R:=eS P272_l0 fun k=>bW0 N (qS k (.ex 0) ⟨[(5,.own 0)],[(0,.arr [hI])]⟩)
theorem cDG:LpG T P272_l0 (cAw N (R:=R)) [0,1,5,6] cCF:=lpk (bZm N) 58 (H:=cE8) (Lp:=(cBV N)) (hl:=(aAi (l:=[(14922,[0,1,5,6,7,8,9],cCG)]) (by kernel_rfl) ⟨(aAf (cDH N N)),trivial⟩))
def cEv:LpS R:=aCc (cBV N) 58 (aAx P272_l0 (cAw N N))
def bXg (a0:zt2)(a1:List Int)(k0:List Int->Option R):Option R:=(bif decide (0<=((a0.length:Nat):Int)∧((a0.length:Nat):Int)<=((a0.length:Nat):Int))then (bif aBU a0.length 8 then (bW0 N k0 N a0 a1 0 (List.replicate a0.length 0))else none)else none)
def cFY:CfS R:=u1 (cFX N) 94 ⟨[pL zs1,pL [hI]],[]⟩ ⟨[pL [hI]],[]⟩ (bXg N)
theorem cCX:FOK (cFY N:CfS R) (aAo T):=uCk (bZm N) c94 (H:=cE8) (Lp:=(cEv N)) (hl:=(aAi (l:=[(58,[0,1,5,6],cCF)]) (by kernel_rfl) ⟨(aAf (cDG N N)),trivial⟩))
def bXY (a0:ByteArray)(a1:zt7)(a2:zt1)(a3:zt2)(a4:zt0)(a5:zt7)(a6:zt6)(a7:Int)(a8 a9:List Int)(k0:Bool->Option R):Option R:=(bXf N a8 a9 (fun y1=>(bXg N a3 y1 (fun y2=>((at? a4 a7).bind fun x3=>((at? y2 x3.2.1).bind fun x4=>(k0 (decide (x4=1)))))))))
def cFZ:CfS R:=u1 (cFY N) 92 ⟨[.agg zb2,pI,pL [hI],pL [hI]],[]⟩ ⟨[pB],[]⟩ (bXY N)
theorem cAS:FOK (cFZ N:CfS R) (aAo T):=uCk (cCX N) c92
def bW9 (N:Nat)(k0:List Int->Option R):zk5 (zt8->zk9 (Option R))
 | 0,_,_,_,_=>none
 | n+1,b0,b1,b2,b3=>(bif decide (b2<((b1.length:Nat):Int))then ((at? b1 b2).bind fun x1=>((at? b0 x1.2.1).bind fun x2=>(bif decide (x2=1)then ((at? b1 b2).bind fun x3=>((at? b1 b2).bind fun x4=>((at? b0 x4.2.2).bind fun x5=>(bif inR x3.1 b3.length then ((b3[x3.1.toNat]?).bind fun x6=>(bW9 N k0 n b0 b1 (w64 (b2+1)) (List.set b3 x3.1.toNat x5)))else none))))else (bW9 N k0 n b0 b1 (w64 (b2+1)) b3))))else (k0 b3))
def P274_l0:SP:=⟨[(9,pL [hI]),(10,.own 0),(11,pL zs5),(12,pI)],[(0,.arr [hI])]⟩
def cAy:Nat->P274_l0.den->KS R->Option R:=eS P274_l0 fun k=>bW9 N (qS k (.ex 0) ⟨[(10,.own 0)],[(0,.arr [hI])]⟩)
theorem cDI:LpG T P274_l0 (cAy N (R:=R)) [9,10,11,12] cCE:=lpk (cAS N) 250
def cEw:LpS R:=aCc noL 250 (aAx P274_l0 (cAy N N))
def bXT (a0:ByteArray)(a1:zt7)(a2:zt1)(a3:zt2)(a4:zt0)(a5:zt7)(a6:zt6)(a7:Int)(a8 a9:List Int)(k0:List Int->Option R):Option R:=(bXf N a8 a9 (fun y1=>(bXg N a3 y1 (fun y2=>(aCX N a9 (fun y3=>((at? a4 a7).bind fun x4=>(bW9 N k0 N y2 x4.2.2 0 y3))))))))
def cF0:CfS R:=u1 (cFZ N) 93 ⟨[.agg zb2,pI,pL [hI],pL [hI]],[]⟩ ⟨[pL [hI]],[]⟩ (bXT N)
theorem cAT:FOK (cF0 N:CfS R) (aAo T):=uCk (cAS N) c93 (Lp:=(cEw N)) (hl:=(aAi (l:=[(250,[9,10,11,12],cCE)]) (by kernel_rfl) ⟨(aAf (cDI N N)),trivial⟩))
def cGa:Nat->Option (List Sh):=fun n=>if n=46000 then some [hI]else none
def bXb (k0:List Int->zk0 (Int->zk3 (Option R))):Nat->zk4 (zk0 (Int->zk3 (Option R)))
 | 0,_,_,_,_,_,_,_,_,_,_,_,_=>none
 | n+1,b0,b1,b2,b3,b4,b5,b6,b7,b8,b9,b10,b11=>(bif decide (b1<((b6.length:Nat):Int))then (aDb N b2 b3 b4 b5 b6 b7 b8 b1 (fun y1 y2=>(bif decide (y1=b9)then (bXY N b2 b3 b4 b5 b6 b7 b8 b1 b10 b0 (fun y3=>(bif y3 then (bXT N b2 b3 b4 b5 b6 b7 b8 b1 b10 b0 (fun y4=>(bif aBU (b11.length+1) 8 then (bXb k0 n y4 (w64 (b1+1)) b2 b3 b4 b5 b6 b7 b8 b9 b10 (b11++[b1]))else none)))else (bXb k0 n b0 (w64 (b1+1)) b2 b3 b4 b5 b6 b7 b8 b9 b10 b11))))else (bXb k0 n b0 (w64 (b1+1)) b2 b3 b4 b5 b6 b7 b8 b9 b10 b11))))else (k0 b0 b2 b3 b4 b5 b6 b7 b8 b9 b10 b11))
def P275_l0:SP:=⟨[(3,.ptr 0 0),(4,.ptr 1 0),(8,pL [hI]),(9,.own 2),(10,pI)],[(0,.box zb2),(1,.box [pI,pL [hI]]),(2,.arr [hI])]⟩
def cAz:Nat->P275_l0.den->KS R->Option R:=eS P275_l0 fun k=>bXb N (qS k (.ex 0) ⟨[(3,.ptr 0 0),(4,.ptr 1 0),(8,pL [hI]),(9,.own 2)],[(0,.box zb2),(1,.box [pI,pL [hI]]),(2,.arr [hI])]⟩)
theorem cDJ:LpG T P275_l0 (cAz N (R:=R)) [3,4,8,9,10] cCg:=lpk (cAT N) 122 (H:=cGa)
def cEx:LpS R:=aCc noL 122 (aAx P275_l0 (cAz N N))
def bYa (a0:ByteArray)(a1:zt7)(a2:zt1)(a3:zt2)(a4:zt0)(a5:zt7)(a6:zt6)(a7:Int)(a8 a9:List Int)(k0:zk3 (Option R)):Option R:=(bXM N a0 a1 a2 a3 a4 a5 a6 a7 a9 (fun y1=>(bXb N (fun z5 z6 z7 z8 z9 z10 z11 z12 z13 z14 z15=>(bXM N z6 z7 z8 z9 z10 z11 z12 z13 z5 (fun y16=>(k0 y16 z15)))) N y1 0 a0 a1 a2 a3 a4 a5 a6 a7 a8 [])))
def cF1:CfS R:=u1 (cF0 N) 22 ⟨[.agg zb2,.agg [pI,pL [hI]],pL [hI]],[]⟩ ⟨[pL [hI],pL [hI]],[]⟩ (bYa N)
theorem cCY:FOK (cF1 N:CfS R) (aAo T):=uCk (cAT N) c22 (H:=cGa) (Lp:=(cEx N)) (hl:=(aAi (l:=[(122,[3,4,8,9,10],cCg)]) (by kernel_rfl) ⟨(aAf (cDJ N N)),trivial⟩))
def cGg:Nat->Option (List Sh):=fun n=>if n=19000 then some [hI]else none
def bXH (N:Nat)(a0 a1 a2 a3 a4 a5 a6 a7:Int)(k0:List Int->Option R):Option R:=(k0 [a0,a1,a2,a3,a4,a5,a6,a7])
def cF2:CfS R:=u1 (cF1 N) 50 ⟨[.agg zb7],[]⟩ ⟨[pL [hI]],[]⟩ (bXH N)
theorem cAU:FOK (cF2 N:CfS R) (aAo T):=uCk (cCY N) c50 (H:=cGg)
def cGb:Nat->Option (List Sh):=fun n=>if n=27000 then some [hI]else none
def bXl (N:Nat)(k0:List Int->Option R):Nat->zk4 (zk0 (List Int->Option R))
 | 0,_,_,_,_,_,_,_,_,_,_=>none
 | n+1,b0,b1,b2,b3,b4,b5,b6,b7,b8,b9=>(bif decide (b1<((b7.length:Nat):Int))then ((at? b7 b1).bind fun x1=>((at? b0 x1.2).bind fun x2=>(bif aBU (b9.length+1) 8 then (bXl N k0 n b0 (w64 (b1+1)) b2 b3 b4 b5 b6 b7 b8 (b9++[x2]))else none)))else (k0 b9))
def P277_l0:SP:=⟨[(3,.ptr 0 0),(7,pL [hI]),(8,.own 1),(9,pI)],[(0,.box zb2),(1,.arr [hI])]⟩
def cAA:Nat->P277_l0.den->KS R->Option R:=eS P277_l0 fun k=>bXl N (qS k (.ex 0) ⟨[(8,.own 0)],[(0,.arr [hI])]⟩)
theorem cDK:LpG T P277_l0 (cAA N (R:=R)) [3,7,8,9] cCh:=lpk (cAU N) 122 (H:=cGb)
def cEy:LpS R:=aCc noL 122 (aAx P277_l0 (cAA N N))
def bX4 (a0:ByteArray)(a1:zt7)(a2:zt1)(a3:zt2)(a4:zt0)(a5:zt7)(a6:zt6)(a7 a8:List Int)(k0:List Int->Option R):Option R:=(bXf N a7 a8 (fun y1=>(bXg N a3 y1 (fun y2=>(bXl N k0 N y2 0 a0 a1 a2 a3 a4 a5 a6 [])))))
def cF3:CfS R:=u1 (cF2 N) 24 ⟨[.agg zb2,pL [hI],pL [hI]],[]⟩ ⟨[pL [hI]],[]⟩ (bX4 N)
theorem cCZ:FOK (cF3 N:CfS R) (aAo T):=uCk (cAU N) c24 (H:=cGb) (Lp:=(cEy N)) (hl:=(aAi (l:=[(122,[3,7,8,9],cCh)]) (by kernel_rfl) ⟨(aAf (cDK N N)),trivial⟩))
def cGh:Nat->Option (List Sh):=fun n=>if n=11000 then some [hI]else none
def bXC (a0 a1 a2 a3 a4 a5 a6 a7:Int)(k0:List Int->Option R):Option R:=(bXi N (decide (a1≠a3)) (fun y1=>(k0 [y1,a4])))
def cF4:CfS R:=u1 (cF3 N) 51 ⟨[.agg zb7],[]⟩ ⟨[pL [hI]],[]⟩ (bXC N)
theorem bX0:FOK (cF4 N:CfS R) (aAo T):=uCk (cCZ N) c51 (H:=cGh)
def bY7:Nat->Option (List Sh):=fun n=>if n=18000 then some [hI,hI]else if n=63000 then some [.s,hI]else if n=66000 then some [.s]else if n=67000 then some [.s]else if n=73000 then some [hI]else if n=165000 then some [hI]else if n=195000 then some [hI]else none
def bXs (k0:Bool->Option R)(k1:cCN (zk4 (zk2 (zt7->zk1 (zk1 (zk1 (zk1 (Option R))))))))(b0:Int)(b1:List (Int×Int))(b2:List Int)(b3 b4 b5:Int)(b6:ByteArray)(b7:zt7)(b8:zt1)(b9:zt2)(b10:zt0)(b11:zt7)(b12 b13 b14 b15 b16 b17 b18 b19:Int):Option R:=(bXH N b12 b13 b14 b15 b16 b17 b18 b19 (fun y1=>(aCr N b2 y1 (fun y2=>(bif (!y2)then (k0 false)else (bX4 N b6 b7 b8 b9 b10 b11 [] [b4,b5] b2 (fun y3=>(bXC N b12 b13 b14 b15 b16 b17 b18 b19 (fun y4=>(aCr N y3 y4 (fun y5=>(bif (!y5)then (k0 false)else (k1 b0 b1 b2 b3 b6 b7 b8 b9 b10 b11 b12 b13 b14 b15 b16 b17 b18 b19)))))))))))))
def P279_j15:SP:=⟨[(0,pI),(1,pL [hI,hI]),(5,.ptr 0 0),(16,.ptr 1 0),(17,pL [hI]),(18,pI),(19,pI),(20,pI)],[(0,.box zb5),(1,.box zb7)]⟩
def bZE:Nat->P279_j15.den->KS R->Option R:=jS P279_j15 fun k=>bXs N (qS k .ret ⟨[(4,pB)],[]⟩) (qS k (.ex 17776487) ⟨[(0,pI),(1,pL [hI,hI]),(5,.ptr 0 0),(16,.ptr 1 0),(17,pL [hI]),(18,pI)],[(0,.box zb5),(1,.box zb7)]⟩)
theorem cBx:LpG T P279_j15 (bZE N (R:=R)) [0,1,5,16,17,18,19,20] cCv:=lpk (bX0 N) 2292315396892936118818 (H:=bY7)
def cBW:LpS R:=aCc noL 2292315396892936118818 (aAx P279_j15 (bZE N 1))
def bXr (k0:Bool->Option R)(k1:cCN (zk4 (zk2 (zt7->zk1 (zk1 (zk1 (zk1 (Option R))))))))(b0:Int)(b1:List (Int×Int))(b2:List Int)(b3 b4 b5:Int)(b6:ByteArray)(b7:zt7)(b8:zt1)(b9:zt2)(b10:zt0)(b11:zt7)(b12 b13 b14 b15 b16 b17 b18 b19:Int):Option R:=((at? b1 b3).bind fun x1=>(bXe N b12 b13 b14 b15 b16 b17 b18 b19 x1.1 b4 b5 (fun y2 y3 y4 y5 y6 y7 y8 y9 y10=>(bXs N k0 k1 b0 b1 b2 b3 b4 b5 b6 b7 b8 b9 b10 b11 y2 y3 y4 y5 y6 y7 y8 y9))))
def P279_j14:SP:=⟨[(0,pI),(1,pL [hI,hI]),(5,.ptr 0 0),(16,.ptr 1 0),(17,pL [hI]),(18,pI),(19,pI),(20,pI)],[(0,.box zb5),(1,.box zb7)]⟩
def bZD:Nat->P279_j14.den->KS R->Option R:=jS P279_j14 fun k=>bXr N (qS k .ret ⟨[(4,pB)],[]⟩) (qS k (.ex 9388243) ⟨[(0,pI),(1,pL [hI,hI]),(5,.ptr 0 0),(16,.ptr 1 0),(17,pL [hI]),(18,pI)],[(0,.box zb5),(1,.box zb7)]⟩)
theorem cBw:LpG T P279_j14 (bZD N (R:=R)) [0,1,5,16,17,18,19,20] cCu:=lpk (bX0 N) 143269712305808507426 (H:=bY7) (Lp:=(cBW N)) (hl:=(aAi (l:=[(2292315396892936118818,[0,1,5,16,17,18,19,20],cCv)]) (by kernel_rfl) ⟨(aAf (cBx N 1)),trivial⟩))
def cBX:LpS R:=aCc (cBW N) 143269712305808507426 (aAx P279_j14 (bZD N 1))
def bXq (k0:Bool->Option R)(k1:cCN (zk4 (zk2 (zt7->zk1 (zk1 (zk1 (zk1 (Option R))))))))(b0:Int)(b1:List (Int×Int))(b2:List Int)(b3 b4 b5:Int)(b6:ByteArray)(b7:zt7)(b8:zt1)(b9:zt2)(b10:zt0)(b11:zt7)(b12 b13 b14 b15 b16 b17 b18 b19:Int):Option R:=((at? b1 b3).bind fun x1=>(bYa N b6 b7 b8 b9 b10 b11 [] x1.1 [b4,b5] b2 (fun y2 y3=>(bXr N k0 k1 b0 b1 y2 b3 b4 b5 b6 b7 b8 b9 b10 b11 b12 b13 b14 b15 b16 b17 b18 b19))))
def P279_j13:SP:=⟨[(0,pI),(1,pL [hI,hI]),(5,.ptr 0 0),(16,.ptr 1 0),(17,pL [hI]),(18,pI),(19,pI),(20,pI)],[(0,.box zb5),(1,.box zb7)]⟩
def bZC:Nat->P279_j13.den->KS R->Option R:=jS P279_j13 fun k=>bXq N (qS k .ret ⟨[(4,pB)],[]⟩) (qS k (.ex 5194121) ⟨[(0,pI),(1,pL [hI,hI]),(5,.ptr 0 0),(16,.ptr 1 0),(17,pL [hI]),(18,pI)],[(0,.box zb5),(1,.box zb7)]⟩)
theorem cBv:LpG T P279_j13 (bZC N (R:=R)) [0,1,5,16,17,18,19,20] cCt:=lpk (bX0 N) 8954357019113031714 (H:=bY7) (Lp:=(cBX N)) (hl:=(aAi (l:=[(143269712305808507426,[0,1,5,16,17,18,19,20],cCu)]) (by kernel_rfl) ⟨(aAf (cBw N 1)),trivial⟩))
def cBY:LpS R:=aCc (cBX N) 8954357019113031714 (aAx P279_j13 (bZC N 1))
def bW2 (k0:Bool->Option R)(k1:cCN (zk4 (zk2 (zt7->zk1 (zk1 (zk1 (zk1 (Option R))))))))(b0:Int)(b1:List (Int×Int))(b2:List Int)(b3 b4:Int)(b5:ByteArray)(b6:zt7)(b7:zt1)(b8:zt2)(b9:zt0)(b10:zt7)(b11 b12 b13 b14 b15 b16 b17 b18:Int):Option R:=((at? b1 b3).bind fun x1=>(aEO N b0 (fun y2=>(bYh N (max 0 x1.2) y2 (fun y3=>(bXq N k0 k1 b0 b1 b2 b3 b4 y3 b5 b6 b7 b8 b9 b10 b11 b12 b13 b14 b15 b16 b17 b18))))))
def P279_j12:SP:=⟨[(0,pI),(1,pL [hI,hI]),(5,.ptr 0 0),(16,.ptr 1 0),(17,pL [hI]),(18,pI),(19,pI)],[(0,.box zb5),(1,.box zb7)]⟩
def bZB:Nat->P279_j12.den->KS R->Option R:=jS P279_j12 fun k=>bW2 N (qS k .ret ⟨[(4,pB)],[]⟩) (qS k (.ex 3097060) ⟨[(0,pI),(1,pL [hI,hI]),(5,.ptr 0 0),(16,.ptr 1 0),(17,pL [hI]),(18,pI)],[(0,.box zb5),(1,.box zb7)]⟩)
theorem cBu:LpG T P279_j12 (bZB N (R:=R)) [0,1,5,16,17,18,19] cCs:=lpk (bX0 N) 559647313694564482 (H:=bY7) (Lp:=(cBY N)) (hl:=(aAi (l:=[(8954357019113031714,[0,1,5,16,17,18,19,20],cCt)]) (by kernel_rfl) ⟨(aAf (cBv N 1)),trivial⟩))
def cBZ:LpS R:=aCc (cBY N) 559647313694564482 (aAx P279_j12 (bZB N 1))
def bXp (k0:Bool->Option R)(k1:cCN (zk4 (zk2 (zt7->zk1 (zk1 (zk1 (zk1 (Option R))))))))(b0:Int)(b1:List (Int×Int))(b2:List Int)(b3:Int)(b4:ByteArray)(b5:zt7)(b6:zt1)(b7:zt2)(b8:zt0)(b9:zt7)(b10 b11 b12 b13 b14 b15 b16 b17:Int):Option R:=((at? b1 b3).bind fun x1=>(bif decide (x1.1=0)then ((at? b1 b3).bind fun x2=>(bXi N (decide (x2.2≠(-1))) (fun y3=>(bW2 N k0 (fun z69 z70 z71 z72 z73 z74 z75 z76 z77 z78 z79 z80 z81 z82 z83 z84 z85 z86=>(k1 z69 z70 z71 (w64 (z72+1)) z73 z74 z75 z76 z77 z78 z79 z80 z81 z82 z83 z84 z85 z86)) b0 b1 b2 b3 y3 b4 b5 b6 b7 b8 b9 b10 b11 b12 b13 b14 b15 b16 b17))))else (bXi N false (fun y87=>(bW2 N k0 (fun z89 z90 z91 z92 z93 z94 z95 z96 z97 z98 z99 z100 z101 z102 z103 z104 z105 z106=>(k1 z89 z90 z91 (w64 (z92+1)) z93 z94 z95 z96 z97 z98 z99 z100 z101 z102 z103 z104 z105 z106)) b0 b1 b2 b3 y87 b4 b5 b6 b7 b8 b9 b10 b11 b12 b13 b14 b15 b16 b17)))))
def P279_j11:SP:=⟨[(0,pI),(1,pL [hI,hI]),(5,.ptr 0 0),(16,.ptr 1 0),(17,pL [hI]),(18,pI)],[(0,.box zb5),(1,.box zb7)]⟩
def bZA:Nat->P279_j11.den->KS R->Option R:=jS P279_j11 fun k=>bXp N (qS k .ret ⟨[(4,pB)],[]⟩) (qS k (.ex 1262132) ⟨[(0,pI),(1,pL [hI,hI]),(5,.ptr 0 0),(16,.ptr 1 0),(17,pL [hI]),(18,pI)],[(0,.box zb5),(1,.box zb7)]⟩)
theorem cBt:LpG T P279_j11 (bZA N (R:=R)) [0,1,5,16,17,18] cCr:=lpk (bX0 N) 8744489276477570 (H:=bY7) (Lp:=(cBZ N)) (hl:=(aAi (l:=[(559647313694564482,[0,1,5,16,17,18,19],cCs)]) (by kernel_rfl) ⟨(aAf (cBu N 1)),trivial⟩))
def cB0:LpS R:=aCc (cBZ N) 8744489276477570 (aAx P279_j11 (bZA N 1))
def bWW (k0:Bool->Option R)(k1:Option R):Nat->cCN (zk4 (zk2 (zt7->zk1 (zk1 (zk1 (zk1 (Option R)))))))
 | 0,_,_,_,_,_,_,_,_,_,_,_,_,_,_,_,_,_,_=>none
 | n+1,b0,b1,b2,b3,b4,b5,b6,b7,b8,b9,b10,b11,b12,b13,b14,b15,b16,b17=>(bif decide (b3<((b1.length:Nat):Int))then (bXp N k0 (fun z108 z109 z110 z111 z112 z113 z114 z115 z116 z117 z118 z119 z120 z121 z122 z123 z124 z125=>(bWW k0 k1 n z108 z109 z110 z111 z112 z113 z114 z115 z116 z117 z118 z119 z120 z121 z122 z123 z124 z125)) b0 b1 b2 b3 b4 b5 b6 b7 b8 b9 b10 b11 b12 b13 b14 b15 b16 b17)else k1)
def P279_l0:SP:=⟨[(0,pI),(1,pL [hI,hI]),(5,.ptr 0 0),(16,.ptr 1 0),(17,pL [hI]),(18,pI)],[(0,.box zb5),(1,.box zb7)]⟩
def cAL:Nat->P279_l0.den->KS R->Option R:=eS P279_l0 fun k=>bWW N (qS k .ret ⟨[(4,pB)],[]⟩) (qS k (.ex 0) ⟨[],[]⟩)
theorem cDV:LpG T P279_l0 (cAL N (R:=R)) [0,1,5,16,17,18] cEL:=lpk (bX0 N) 1093061159559696 (H:=bY7) (Lp:=(cB0 N)) (hl:=(aAi (l:=[(8744489276477570,[0,1,5,16,17,18],cCr)]) (by kernel_rfl) ⟨(aAf (cBt N 1)),trivial⟩))
def cB1:LpS R:=aCc (cB0 N) 1093061159559696 (aAx P279_l0 (cAL N N))
def bXo (k0:Bool->Option R)(k1:Option R)(b0:Int)(b1:List (Int×Int))(b2:List Int)(b3:Int)(b4:ByteArray)(b5:zt7)(b6:zt1)(b7:zt2)(b8:zt0)(b9:zt7)(b10 b11 b12 b13 b14 b15 b16 b17:Int):Option R:=(bWW N k0 k1 N b0 b1 b2 b3 b4 b5 b6 b7 b8 b9 b10 b11 b12 b13 b14 b15 b16 b17)
def P279_j10:SP:=⟨[(0,pI),(1,pL [hI,hI]),(5,.ptr 0 0),(16,.ptr 1 0),(17,pL [hI]),(18,pI)],[(0,.box zb5),(1,.box zb7)]⟩
def bZz:Nat->P279_j10.den->KS R->Option R:=jS P279_j10 fun k=>bXo N (qS k .ret ⟨[(4,pB)],[]⟩) (qS k (.ex 1032766) ⟨[],[]⟩)
theorem cBs:LpG T P279_j10 (bZz N (R:=R)) [0,1,5,16,17,18] cCq:=lpk (bX0 N) 136632644944962 (H:=bY7) (Lp:=(cB1 N)) (hl:=(aAi (l:=[(1093061159559696,[0,1,5,16,17,18],cEL)]) (by kernel_rfl) ⟨(aAf (cDV N N)),trivial⟩))
def cB2:LpS R:=aCc (cB1 N) 136632644944962 (aAx P279_j10 (bZz N 1))
def bXz (k0:Bool->Option R)(b0:Int)(b1:List (Int×Int))(b2:List Int)(b3:ByteArray)(b4:zt7)(b5:zt1)(b6:zt2)(b7:zt0)(b8:zt7)(b9 b10 b11 b12 b13 b14 b15 b16:Int):Option R:=(bXo N k0 (k0 true) b0 b1 b2 0 b3 b4 b5 b6 b7 b8 b9 b10 b11 b12 b13 b14 b15 b16)
def P279_j9:SP:=⟨[(0,pI),(1,pL [hI,hI]),(5,.ptr 0 0),(16,.ptr 1 0),(17,pL [hI])],[(0,.box zb5),(1,.box zb7)]⟩
def cAK:Nat->P279_j9.den->KS R->Option R:=jS P279_j9 fun k=>bXz N (qS k .ret ⟨[(4,pB)],[]⟩)
theorem cDU:LpG T P279_j9 (cAK N (R:=R)) [0,1,5,16,17] cEK:=lpk (bX0 N) 4269770154530 (H:=bY7) (Lp:=(cB2 N)) (hl:=(aAi (l:=[(136632644944962,[0,1,5,16,17,18],cCq)]) (by kernel_rfl) ⟨(aAf (cBs N 1)),trivial⟩))
def cB3:LpS R:=aCc (cB2 N) 4269770154530 (aAx P279_j9 (cAK N 1))
def bXy (k0:Bool->Option R)(b0:Int)(b1:List (Int×Int))(b2:ByteArray)(b3:zt7)(b4:zt1)(b5:zt2)(b6:zt0)(b7:zt7)(b8 b9 b10 b11 b12 b13 b14 b15:Int):Option R:=(bX3 N b2 b3 b4 b5 b6 b7 [] (fun y1=>(bXz N k0 b0 b1 y1 b2 b3 b4 b5 b6 b7 b8 b9 b10 b11 b12 b13 b14 b15)))
def P279_j8:SP:=⟨[(0,pI),(1,pL [hI,hI]),(5,.ptr 0 0),(16,.ptr 1 0)],[(0,.box zb5),(1,.box zb7)]⟩
def cAJ:Nat->P279_j8.den->KS R->Option R:=jS P279_j8 fun k=>bXy N (qS k .ret ⟨[(4,pB)],[]⟩)
theorem cDT:LpG T P279_j8 (cAJ N (R:=R)) [0,1,5,16] cEJ:=lpk (bX0 N) 266860634658 (H:=bY7) (Lp:=(cB3 N)) (hl:=(aAi (l:=[(4269770154530,[0,1,5,16,17],cEK)]) (by kernel_rfl) ⟨(aAf (cDU N 1)),trivial⟩))
def cB4:LpS R:=aCc (cB3 N) 266860634658 (aAx P279_j8 (cAJ N 1))
def bXx (k0:Bool->Option R)(b0:Int)(b1:List (Int×Int))(b2:ByteArray)(b3:zt7)(b4:zt1)(b5:zt2)(b6:zt0)(b7:zt7):Option R:=(bXy N k0 b0 b1 b2 b3 b4 b5 b6 b7 0 0 0 0 0 0 0 0)
def P279_j7:SP:=⟨[(0,pI),(1,pL [hI,hI]),(5,.ptr 0 0)],[(0,.box zb5)]⟩
def cAI:Nat->P279_j7.den->KS R->Option R:=jS P279_j7 fun k=>bXx N (qS k .ret ⟨[(4,pB)],[]⟩)
theorem cDS:LpG T P279_j7 (cAI N (R:=R)) [0,1,5] cEI:=lpk (bX0 N) 16678789666 (H:=bY7) (Lp:=(cB4 N)) (hl:=(aAi (l:=[(266860634658,[0,1,5,16],cEJ)]) (by kernel_rfl) ⟨(aAf (cDT N 1)),trivial⟩))
def cAV:LpS R:=aCc (cB4 N) 16678789666 (aAx P279_j7 (cAI N 1))
def bXw (k0:Bool->Option R)(b0:Int)(b1:List (Int×Int))(b2 b3:List Int)(b4:Int)(b5 b6:List Int)(b7:ByteArray)(b8:zt7)(b9:zt1)(b10:zt2)(b11:zt0)(b12:zt7):Option R:=(bif decide (b4≠0)then (k0 false)else (aCr N b2 b5 (fun y1=>(bif (!y1)then (k0 false)else (aCr N b3 b6 (fun y2=>(bif (!y2)then (k0 false)else (bXx N k0 b0 b1 b7 b8 b9 b10 b11 b12))))))))
def P279_j6:SP:=⟨[(0,pI),(1,pL [hI,hI]),(5,.ptr 0 0),(7,pL [hI]),(8,pL [hI]),(9,pI),(14,pL [hI]),(15,pL [hI])],[(0,.box zb5)]⟩
def cAH:Nat->P279_j6.den->KS R->Option R:=jS P279_j6 fun k=>bXw N (qS k .ret ⟨[(4,pB)],[]⟩)
theorem cDR:LpG T P279_j6 (cAH N (R:=R)) [0,1,5,7,8,9,14,15] cEH:=lpk (bX0 N) 1042424354 (H:=bY7) (Lp:=(cAV N)) (hl:=(aAi (l:=[(16678789666,[0,1,5],cEI)]) (by kernel_rfl) ⟨(aAf (cDS N 1)),trivial⟩))
def cAW:LpS R:=aCc (cAV N) 1042424354 (aAx P279_j6 (cAH N 1))
def bXv (k0:Bool->Option R)(b0:Int)(b1:List (Int×Int))(b2 b3:List Int)(b4:Int)(b5:ByteArray)(b6:zt7)(b7:zt1)(b8:zt2)(b9:zt0)(b10:zt7):Option R:=(bXZ N b1 (fun y1 y2=>(bXw N k0 b0 b1 b2 b3 b4 y1 y2 b5 b6 b7 b8 b9 b10)))
def P279_j5:SP:=⟨[(0,pI),(1,pL [hI,hI]),(5,.ptr 0 0),(7,pL [hI]),(8,pL [hI]),(9,pI)],[(0,.box zb5)]⟩
def cAG:Nat->P279_j5.den->KS R->Option R:=jS P279_j5 fun k=>bXv N (qS k .ret ⟨[(4,pB)],[]⟩)
theorem cDQ:LpG T P279_j5 (cAG N (R:=R)) [0,1,5,7,8,9] cEG:=lpk (bX0 N) 65151522 (H:=bY7) (Lp:=(cAW N)) (hl:=(aAi (l:=[(1042424354,[0,1,5,7,8,9,14,15],cEH)]) (by kernel_rfl) ⟨(aAf (cDR N 1)),trivial⟩))
def cAX:LpS R:=aCc (cAW N) 65151522 (aAx P279_j5 (cAG N 1))
def bW6 (k0:Bool->Option R)(b0:Int)(b1:List (Int×Int))(b2 b3:List Int)(b4:Int)(b5:ByteArray)(b6:zt7)(b7:zt1)(b8:zt2)(b9:zt0)(b10:zt7):Option R:=(bXI N b0 b1 (fun y1=>(bif decide (y1≠0)then (bif decide (b4=y1)then (k0 (decide ((w64 (((b2.length:Nat):Int)+((b3.length:Nat):Int)))=0)))else (k0 false))else (bXv N k0 b0 b1 b2 b3 b4 b5 b6 b7 b8 b9 b10))))
def P279_j4:SP:=⟨[(0,pI),(1,pL [hI,hI]),(5,.ptr 0 0),(7,pL [hI]),(8,pL [hI]),(9,pI)],[(0,.box zb5)]⟩
def cAF:Nat->P279_j4.den->KS R->Option R:=jS P279_j4 fun k=>bW6 N (qS k .ret ⟨[(4,pB)],[]⟩)
theorem cDP:LpG T P279_j4 (cAF N (R:=R)) [0,1,5,7,8,9] cEF:=lpk (bX0 N) 4071970 (H:=bY7) (Lp:=(cAX N)) (hl:=(aAi (l:=[(65151522,[0,1,5,7,8,9],cEG)]) (by kernel_rfl) ⟨(aAf (cDQ N 1)),trivial⟩))
def cAY:LpS R:=aCc (cAX N) 4071970 (aAx P279_j4 (cAF N 1))
def bXu (k0:Bool->Option R)(b0:Int)(b1:List (Int×Int))(b2 b3:List Int)(b4:Int)(b5:ByteArray)(b6:zt7)(b7:zt1)(b8:zt2)(b9:zt0)(b10:zt7):Option R:=(bX2 N b5 b6 b7 b8 b9 b10 [] [0] (fun y1 y2=>(bif y2 then (k0 false)else (bW6 N k0 b0 b1 b2 b3 b4 b5 b6 b7 b8 b9 b10))))
def P279_j3:SP:=⟨[(0,pI),(1,pL [hI,hI]),(5,.ptr 0 0),(7,pL [hI]),(8,pL [hI]),(9,pI)],[(0,.box zb5)]⟩
def cAE:Nat->P279_j3.den->KS R->Option R:=jS P279_j3 fun k=>bXu N (qS k .ret ⟨[(4,pB)],[]⟩)
theorem cDO:LpG T P279_j3 (cAE N (R:=R)) [0,1,5,7,8,9] cEE:=lpk (bX0 N) 254498 (H:=bY7) (Lp:=(cAY N)) (hl:=(aAi (l:=[(4071970,[0,1,5,7,8,9],cEF)]) (by kernel_rfl) ⟨(aAf (cDP N 1)),trivial⟩))
def cAZ:LpS R:=aCc (cAY N) 254498 (aAx P279_j3 (cAE N 1))
def bXt (k0:Bool->Option R)(b0:Int)(b1:List (Int×Int))(b2:Int)(b3 b4:List Int)(b5:Int)(b6:ByteArray)(b7:zt7)(b8:zt1)(b9:zt2)(b10:zt0)(b11:zt7):Option R:=(bif decide (b2≠0)then (k0 false)else (bXB N b0 (fun y1=>(bYj N b6 b7 b8 b9 b10 b11 [] (ByteArray.mk #[104,97,110,100,115,104,97,107,101]) [((ByteArray.mk #[103,111]),1),((ByteArray.mk #[118,97,108,117,101]),b0)] y1 [(ByteArray.mk #[115,101,110,100]),(ByteArray.mk #[115,121,110,99,48]),(ByteArray.mk #[116,97,107,101]),(ByteArray.mk #[115,121,110,99,49])] [(ByteArray.mk #[98,117,115,121]),(ByteArray.mk #[111,117,116])] (fun y2=>(bif (!y2)then (k0 false)else (bXu N k0 b0 b1 b3 b4 b5 b6 b7 b8 b9 b10 b11)))))))
def P279_j2:SP:=⟨[(0,pI),(1,pL [hI,hI]),(5,.ptr 0 0),(6,pI),(7,pL [hI]),(8,pL [hI]),(9,pI)],[(0,.box zb5)]⟩
def cAD:Nat->P279_j2.den->KS R->Option R:=jS P279_j2 fun k=>bXt N (qS k .ret ⟨[(4,pB)],[]⟩)
theorem cDN:LpG T P279_j2 (cAD N (R:=R)) [0,1,5,6,7,8,9] cED:=lpk (bX0 N) 15906 (H:=bY7) (Lp:=(cAZ N)) (hl:=(aAi (l:=[(254498,[0,1,5,7,8,9],cEE)]) (by kernel_rfl) ⟨(aAf (cDO N 1)),trivial⟩))
def cA0:LpS R:=aCc (cAZ N) 15906 (aAx P279_j2 (cAD N 1))
def bW5 (k0:Bool->Option R)(b0:Int)(b1:List (Int×Int))(b2:Int)(b3 b4:List Int)(b5:Int)(b6:ByteArray)(b7:zt7)(b8:zt1)(b9:zt2)(b10:zt0)(b11:zt7):Option R:=(bXL N b0 (fun y1=>(bif decide (y1≠0)then (bif decide (b2=y1)then (bif decide (b5=y1)then (bX1 N b6 b7 b8 b9 b10 b11 [] (ByteArray.mk #[]) [] [] [] [] [] [] (fun y2=>(bif y2 then (k0 (decide ((w64 (((b3.length:Nat):Int)+((b4.length:Nat):Int)))=0)))else (k0 false))))else (k0 false))else (k0 false))else (bXt N k0 b0 b1 b2 b3 b4 b5 b6 b7 b8 b9 b10 b11))))
def P279_j1:SP:=⟨[(0,pI),(1,pL [hI,hI]),(5,.ptr 0 0),(6,pI),(7,pL [hI]),(8,pL [hI]),(9,pI)],[(0,.box zb5)]⟩
def cAC:Nat->P279_j1.den->KS R->Option R:=jS P279_j1 fun k=>bW5 N (qS k .ret ⟨[(4,pB)],[]⟩)
theorem cDM:LpG T P279_j1 (cAC N (R:=R)) [0,1,5,6,7,8,9] cEC:=lpk (bX0 N) 994 (H:=bY7) (Lp:=(cA0 N)) (hl:=(aAi (l:=[(15906,[0,1,5,6,7,8,9],cED)]) (by kernel_rfl) ⟨(aAf (cDN N 1)),trivial⟩))
def cA1:LpS R:=aCc (cA0 N) 994 (aAx P279_j1 (cAC N 1))
def bW4 (k0:Bool->Option R)(b0:Int)(b1:List (Int×Int))(b2:Int)(b3:ByteArray)(b4:zt7)(b5:zt1)(b6:zt2)(b7:zt0)(b8:zt7):Option R:=(bif aBU (0+b1.length) 16 then (bX5 N b0 b1 (fun y1 y2 y3=>(bW5 N k0 b0 b1 b2 y1 y2 y3 b3 b4 b5 b6 b7 b8)))else none)
def P279_j0:SP:=⟨[(0,pI),(1,pL [hI,hI]),(5,.ptr 0 0),(6,pI)],[(0,.box zb5)]⟩
def cAB:Nat->P279_j0.den->KS R->Option R:=jS P279_j0 fun k=>bW4 N (qS k .ret ⟨[(4,pB)],[]⟩)
theorem cDL:LpG T P279_j0 (cAB N (R:=R)) [0,1,5,6] cEB:=lpk (bX0 N) 62 (H:=bY7) (Lp:=(cA1 N)) (hl:=(aAi (l:=[(994,[0,1,5,6,7,8,9],cEC)]) (by kernel_rfl) ⟨(aAf (cDM N 1)),trivial⟩))
def cC1:LpS R:=aCc (cA1 N) 62 (aAx P279_j0 (cAB N 1))
def bXd (a0:Int)(a1:List (Int×Int))(k0:Bool->Option R):Option R:=(aFB N (fun y1=>(bif (!y1)then (k0 false)else (bif decide (62<((a1.length:Nat):Int))then (k0 true)else (bW7 N a0 (fun y2 y3 y4 y5 y6 y7 y8=>(bW4 N k0 a0 a1 y8 y2 y3 y4 y5 y6 y7)))))))
def cF5:CfS R:=u1 (cF4 N) 6 ⟨[pI,pL [hI,hI]],[]⟩ ⟨[pB],[]⟩ (bXd N)
theorem cC0:FOK (cF5 N:CfS R) (aAo T):=uCk (bX0 N) c6 (H:=bY7) (Lp:=(cC1 N)) (hl:=(aAi (l:=[(62,[0,1,5,6],cEB)]) (by kernel_rfl) ⟨(aAf (cDL N 1)),trivial⟩))
end
def bYd:Prop:=∀ (x0:Int) (x1:List (Int×Int)),okL [hI] x0->okL [.sl [hI,hI]] x1->∃ N,∀ {R:Type} (k:Bool->Option R),bXd N x0 x1 k=k true
end Am
end Go.Proofs.YtkmbhgggpfbffaaGreatDoor
