/- Each function that is reached as a function on plain data, and that the version comes to it. -/
import Derived.Test.YtkmbhgggpfbffaaGreatDoorCAC
set_option linter.unusedVariables false
set_option linter.unusedSimpArgs false
set_option linter.constructorNameAsVariable false
set_option maxRecDepth 100000
namespace Go.Proofs.YtkmbhgggpfbffaaGreatDoor
namespace Am
noncomputable section
variable (N:Nat) {R:Type}
abbrev zt0:Type:=List (ByteArray×Int×(List (Int×Int×Int)))
abbrev zt1:Type:=List (ByteArray×Int×Int×Int×Int)
abbrev zt2:Type:=List (Int×Int×(List Int)×Int)
abbrev zt3:Type:=List (ByteArray×Nat×Bool)
abbrev zt4:Type:=List (ByteArray×Nat×Int)
abbrev zt5:Type:=List (ByteArray×Int×Int)
abbrev zt6:Type:=List (Int×(List Int))
abbrev zt7:Type:=List (ByteArray×Int)
abbrev zt8:Type:=List (Int×Int×Int)
abbrev zs0:List Sh:=[.s,hI,.sl [hI,hI,hI]]
abbrev zs1:List Sh:=[hI,hI,.sl [hI],hI]
abbrev zs2:List Sh:=[.s,hI,hI,hI,hI]
abbrev zs3:List Sh:=[hI,.sl [hI]]
abbrev zs4:List Sh:=[hI,hI,hI]
abbrev zs5:List Sh:=[.s,hI,hI]
abbrev zs6:List Sh:=[.sl [hI]]
abbrev zb0:List PD:=[.p (.ks (ByteArray.mk #[99,111,110,115,116])),.p (.ki .i64 0),.p (.kb true),.p (.fn 299 []),.p (.fn 298 []),.p (.ks (ByteArray.mk #[108,101,97,102])),.p (.ki .i64 0),.p (.kb true),.p (.fn 299 []),.p (.fn 298 []),.p (.ks (ByteArray.mk #[110,111,116])),.p (.ki .i64 1),.p (.kb false),.p (.fn 300 []),.p (.fn 301 []),.p (.ks (ByteArray.mk #[97,110,100])),.p (.ki .i64 2),.p (.kb false),.p (.fn 300 []),.p (.fn 340 [.cp [.fn 304 []]]),.p (.ks (ByteArray.mk #[111,114])),.p (.ki .i64 2),.p (.kb false),.p (.fn 300 []),.p (.fn 340 [.cp [.fn 305 []]]),.p (.ks (ByteArray.mk #[120,111,114])),.p (.ki .i64 2),.p (.kb false),.p (.fn 300 []),.p (.fn 340 [.cp [.fn 306 []]]),.p (.ks (ByteArray.mk #[97,100,100])),.p (.ki .i64 2),.p (.kb false),.p (.fn 300 []),.p (.fn 340 [.cp [.fn 307 []]]),.p (.ks (ByteArray.mk #[115,117,98])),.p (.ki .i64 2),.p (.kb false),.p (.fn 300 []),.p (.fn 340 [.cp [.fn 308 []]]),.p (.ks (ByteArray.mk #[109,117,108])),.p (.ki .i64 2),.p (.kb false),.p (.fn 300 []),.p (.fn 340 [.cp [.fn 309 []]]),.p (.ks (ByteArray.mk #[101,113])),.p (.ki .i64 2),.p (.kb false),.p (.fn 341 []),.p (.fn 342 [.cp [.fn 311 []]]),.p (.ks (ByteArray.mk #[108,116])),.p (.ki .i64 2),.p (.kb false),.p (.fn 341 []),.p (.fn 342 [.cp [.fn 312 []]]),.p (.ks (ByteArray.mk #[115,108,116])),.p (.ki .i64 2),.p (.kb false),.p (.fn 341 []),.p (.fn 342 [.cp [.fn 313 []]]),.p (.ks (ByteArray.mk #[109,117,120])),.p (.ki .i64 3),.p (.kb false),.p (.fn 315 []),.p (.fn 316 []),.p (.ks (ByteArray.mk #[106,111,105,110])),.p (.ki .i64 2),.p (.kb false),.p (.fn 317 []),.p (.fn 318 []),.p (.ks (ByteArray.mk #[115,108,105,99,101])),.p (.ki .i64 1),.p (.kb true),.p (.fn 319 []),.p (.fn 320 []),.p (.ks (ByteArray.mk #[122,101,120,116])),.p (.ki .i64 1),.p (.kb false),.p (.fn 321 []),.p (.fn 322 []),.p (.ks (ByteArray.mk #[115,101,120,116])),.p (.ki .i64 1),.p (.kb false),.p (.fn 321 []),.p (.fn 323 []),.p (.ks (ByteArray.mk #[115,104,108])),.p (.ki .i64 2),.p (.kb false),.p (.fn 324 []),.p (.fn 325 []),.p (.ks (ByteArray.mk #[115,104,114])),.p (.ki .i64 2),.p (.kb false),.p (.fn 324 []),.p (.fn 326 [])]
abbrev zd1:List DS:=[dS (ByteArray.mk #[99,111,110,115,116]),dI 0,dB true,.p (.fn 299 []),.p (.fn 298 []),dS (ByteArray.mk #[108,101,97,102]),dI 0,dB true,.p (.fn 299 []),.p (.fn 298 []),dS (ByteArray.mk #[110,111,116]),dI 1,dB false,.p (.fn 300 []),.p (.fn 301 []),dS (ByteArray.mk #[97,110,100]),dI 2,dB false,.p (.fn 300 []),.p (.fn 340 [.cp [.fn 304 []]]),dS (ByteArray.mk #[111,114]),dI 2,dB false,.p (.fn 300 []),.p (.fn 340 [.cp [.fn 305 []]]),dS (ByteArray.mk #[120,111,114]),dI 2,dB false,.p (.fn 300 []),.p (.fn 340 [.cp [.fn 306 []]]),dS (ByteArray.mk #[97,100,100]),dI 2,dB false,.p (.fn 300 []),.p (.fn 340 [.cp [.fn 307 []]]),dS (ByteArray.mk #[115,117,98]),dI 2,dB false,.p (.fn 300 []),.p (.fn 340 [.cp [.fn 308 []]]),dS (ByteArray.mk #[109,117,108]),dI 2,dB false,.p (.fn 300 []),.p (.fn 340 [.cp [.fn 309 []]]),dS (ByteArray.mk #[101,113]),dI 2,dB false,.p (.fn 341 []),.p (.fn 342 [.cp [.fn 311 []]]),dS (ByteArray.mk #[108,116]),dI 2,dB false,.p (.fn 341 []),.p (.fn 342 [.cp [.fn 312 []]]),dS (ByteArray.mk #[115,108,116]),dI 2,dB false,.p (.fn 341 []),.p (.fn 342 [.cp [.fn 313 []]]),dS (ByteArray.mk #[109,117,120]),dI 3,dB false,.p (.fn 315 []),.p (.fn 316 []),dS (ByteArray.mk #[106,111,105,110]),dI 2,dB false,.p (.fn 317 []),.p (.fn 318 []),dS (ByteArray.mk #[115,108,105,99,101]),dI 1,dB true,.p (.fn 319 []),.p (.fn 320 []),dS (ByteArray.mk #[122,101,120,116]),dI 1,dB false,.p (.fn 321 []),.p (.fn 322 []),dS (ByteArray.mk #[115,101,120,116]),dI 1,dB false,.p (.fn 321 []),.p (.fn 323 []),dS (ByteArray.mk #[115,104,108]),dI 2,dB false,.p (.fn 324 []),.p (.fn 325 []),dS (ByteArray.mk #[115,104,114]),dI 2,dB false,.p (.fn 324 []),.p (.fn 326 [])]
abbrev zb2:List PD:=[pS,pL [.s,hI],pL zs2,pL zs1,pL zs0,pL [.s,hI],pL zs3]
abbrev zb3:List PD:=[.p (.cp [.s .s,.s (.sl [.s,hI]),.s (.sl [.s,hI,hI,hI,hI]),.s (.sl [hI,hI,.sl [hI],hI]),.s (.sl [.s,hI,.sl [hI,hI,hI]]),.s (.sl [.s,hI]),.s (.sl [hI,.sl [hI]]),.s (.sl [hI])])]
abbrev zb4:List PD:=[pS,pL [.s,hI],pL zs2,.own 1,.own 2,.own 3,.own 4,.mp 5]
abbrev zb5:List PD:=[pS,pL [.s,hI],pL zs2,pL zs1,pL zs0,pL [.s,hI],pL zs3,.own 2]
abbrev zb6:List PD:=[pI,pI,pL [hI],pI]
abbrev zb7:List PD:=[pI,pL [hI],pI,pL [hI]]
abbrev zb8:List PD:=[pS,pL [.s,hI],pL zs2,pL zs1,pL zs0,pL [.s,hI],pL zs3,.own 3]
abbrev zb9:List PD:=[pS,pL [.s,hI],.own 1,pL zs1,pL zs0,pL [.s,hI],pL zs3]
abbrev bLn:List PD:=[pS,.own 3,.own 4,.own 5,.own 6,.own 7,.own 8]
abbrev zk0 (X:Type):Type:=ByteArray->zt7->zt1->zt2->zt0->zt7->zt6->X
abbrev zk1 (X:Type):Type:=Int->Int->X
abbrev zk2 (X:Type):Type:=ByteArray->zt7->zt1->zt2->X
abbrev zk3 (X:Type):Type:=Int->List Int->X
abbrev zk4 (X:Type):Type:=Nat->List Int->X
abbrev zk5 (X:Type):Type:=ByteArray->Int->X
abbrev zk6 (X:Type):Type:=ByteArray->zt7->zt2->zt0->zt7->zt6->zt1->ByteArray->zt0->X
abbrev zk7 (X:Type):Type:=Nat->zt3->X
abbrev zk8 (X:Type):Type:=List Int->List Int->X
abbrev zk9 (X:Type):Type:=List Int->Int->X
def F0 (N:Nat){R:Type}:CfS R:=(aXz (aXz (aXz (aXz (aXz (aXz (aXz bTa 129 (aQ0 1 8)) 208 (aQ0 1 8)) 74 (bCn)) 264 (bCl 1 8)) 334 (aSp)) 335 (bE2)) 336 (bPn))
theorem bNa (N:Nat){R:Type}:FOK (F0 N:CfS R) (aAo T):=(aHZ (aHZ (aHZ (aHZ (aHZ (aHZ (aHZ bCI (aN5 (sz:=1) (bytes:=8) rfl rfl)) (aN5 (sz:=1) (bytes:=8) rfl rfl)) (aYh rfl rfl)) (aYk rfl rfl)) (aWP rfl rfl)) (aXT rfl rfl)) (bB7 rfl rfl))
def H1:Nat->Option (List Sh):=fun n=>if n=3000 then some [.s,hI]else if n=7000 then some [.s,hI,hI,hI,hI]else if n=11000 then some [hI]else if n=13000 then some [hI]else if n=16000 then some [hI]else if n=20000 then some [hI,hI,.sl [hI],hI]else if n=23000 then some [hI,hI,hI]else if n=27000 then some [hI,hI,hI]else if n=29000 then some [.s,hI,.sl [hI,hI,hI]]else if n=31000 then some [.s,hI]else none
def bXp (N:Nat)(k0:zk2 (zt0->zt7->Option R)):Option R:=(k0 (ByteArray.mk #[115,119,97,112]) [((ByteArray.mk #[103,111]),1)] [((ByteArray.mk #[120]),0,4,3,0),((ByteArray.mk #[121]),0,4,9,0),((ByteArray.mk #[119]),1,1,0,0)] [(1,1,[],0),(1,4,[],1),(1,4,[],2),(10,1,[1,2],0),(3,1,[0,3],0),(0,4,[],1),(6,4,[1,5],0),(0,1,[],1),(1,1,[],3)] [((ByteArray.mk #[101,120,99,104,97,110,103,101]),4,[(0,7,2),(1,7,1)]),((ByteArray.mk #[99,111,117,110,116]),7,[(0,7,6),(2,7,7)])] [((ByteArray.mk #[98,105,103]),3)])
def F1:CfS R:=u1 (F0 N) 144 ⟨[],[]⟩ ⟨[.agg [pS,pL [.s,hI],pL zs2,pL zs1,pL zs0,pL [.s,hI],.p (.e 2)]],[]⟩ (bXp N)
theorem bN6:FOK (F1 N:CfS R) (aAo T):=uCk (bNa N) cDO (H:=H1)
def aAF (N:Nat)(a0 a1 a2:Int)(k0:Bool->Option R):Option R:=(bif decide (a1<=a0)then (k0 (decide (a0<=a2)))else (k0 false))
def F2:CfS R:=u1 (F1 N) 200 ⟨[pI,pI,pI],[]⟩ ⟨[pB],[]⟩ (aAF N)
theorem bO9:FOK (F2 N:CfS R) (aAo T):=uCk (bN6 N) bMx
def aAj (N:Nat)(a0:Bool)(a1:Int)(k0:Int->Option R):Option R:=(bif a0 then (k0 0)else (k0 a1))
def F3:CfS R:=u1 (F2 N) 199 ⟨[pB,pI],[]⟩ ⟨[pI],[]⟩ (aAj N)
theorem bDe:FOK (F3 N:CfS R) (aAo T):=uCk (bO9 N) bNg
def aBy (N:Nat)(k0:Int->Option R)(k1:Option R):zk4 (zk1 (Int->Option R))
 | 0,_,_,_,_=>none
 | n+1,b0,b1,b2,b3=>(bif decide (b3<b2)then ((at? b0 b3).bind fun x1=>(bif decide (b1=x1)then (k0 b3)else (aBy N k0 k1 n b0 b1 b2 (w64 (b3+1)))))else k1)
def P4_l0:SP:=⟨[(0,pL [hI]),(1,pI),(7,pI),(8,pI)],[]⟩
def bJ9:Nat->P4_l0.den->KS R->Option R:=eS P4_l0 fun k=>aBy N (qS k .ret ⟨[(4,pI)],[]⟩) (qS k (.ex 0) ⟨[],[]⟩)
theorem bMb:LpG T P4_l0 (bJ9 N (R:=R)) [0,1,7,8] aT8:=lpk (bDe N) 26
def bS4:LpS R:=aCc noL 26 (aAx P4_l0 (bJ9 N N))
def aEz (a0:List Int)(a1:Int)(k0:Int->Option R):Option R:=(aBy N k0 (k0 (-1)) N a0 a1 ((a0.length:Nat):Int) 0)
def F4:CfS R:=u1 (F3 N) 182 ⟨[pL [hI],pI],[]⟩ ⟨[pI],[]⟩ (aEz N)
theorem bM3:FOK (F4 N:CfS R) (aAo T):=uCk (bDe N) bL6 (Lp:=(bS4 N)) (hl:=(aAi (l:=[(26,[0,1,7,8],aT8)]) (by kernel_rfl) ⟨(aAf (bMb N N)),trivial⟩))
def aB7 (a0:List Int)(a1:Int)(k0:Bool->Option R):Option R:=(aEz N a0 a1 (fun y1=>(k0 (decide (0<=y1)))))
def F5:CfS R:=u1 (F4 N) 132 ⟨[pL [hI],pI],[]⟩ ⟨[pB],[]⟩ (aB7 N)
theorem bCi:FOK (F5 N:CfS R) (aAo T):=uCk (bM3 N) bOV
def aDQ (N:Nat)(k0:Int->Option R)(k1:Option R):zk4 (zk1 (Option R))
 | 0,_,_,_=>none
 | n+1,b0,b1,b2=>(bif decide (b2<b1)then ((at? b0 b2).bind fun x1=>(bif decide (x1≠0)then (k0 x1)else (aDQ N k0 k1 n b0 b1 (w64 (b2+1)))))else k1)
def P6_l0:SP:=⟨[(5,pL [hI]),(6,pI),(7,pI)],[]⟩
def bGW:Nat->P6_l0.den->KS R->Option R:=eS P6_l0 fun k=>aDQ N (qS k .ret ⟨[(2,pI)],[]⟩) (qS k (.ex 0) ⟨[],[]⟩)
theorem bPE:LpG T P6_l0 (bGW N (R:=R)) [5,6,7] aSm:=lpk (bCi N) 26
def bRn:LpS R:=aCc noL 26 (aAx P6_l0 (bGW N N))
def aAY (a0:List Int)(k0:Int->Option R):Option R:=(aDQ N k0 (k0 0) N a0 ((a0.length:Nat):Int) 0)
def F6:CfS R:=u1 (F5 N) 146 ⟨[pL [hI]],[]⟩ ⟨[pI],[]⟩ (aAY N)
theorem bKT:FOK (F6 N:CfS R) (aAo T):=uCk (bCi N) bLx (Lp:=(bRn N)) (hl:=(aAi (l:=[(26,[5,6,7],aSm)]) (by kernel_rfl) ⟨(aAf (bPE N N)),trivial⟩))
def H7:Nat->Option (List Sh):=fun n=>if n=17000 then some [hI]else none
def aC3 (a0 a1:Int)(a2:ByteArray)(a3:zt7)(a4:zt1)(a5:zt2)(a6:zt0)(a7:zt7)(a8:zt6)(a9:Int)(a10:List Int)(k0:Int->zk0 (zk3 (Option R))):Option R:=(aAF N a1 0 (w64 (((a6.length:Nat):Int)-1)) (fun y1=>(aAj N y1 6 (fun y2=>(bif slP 0 a0 a10.length then (aB7 N (List.take a0.toNat (List.drop 0 a10)) a1 (fun y3=>(aAj N (!y3) 23 (fun y4=>(aAY N [y2,y4] (fun y5=>(k0 y5 a2 a3 a4 a5 a6 a7 a8 a9 a10)))))))else none)))))
def F7:CfS R:=u2 (F6 N) 244 ⟨[pI,pI,.ptr 0 0,.ptr 1 0],[(0,.box zb2),(1,.box [pI,pL [hI]])]⟩ (aC3 N) fun f k=>f (qA k [0,1] ⟨[pI],[(0,.box zb2),(1,.box [pI,pL [hI]])]⟩)
theorem bNQ:FOK (F7 N:CfS R) (aAo T):=uCk (bKT N) bO5 (H:=H7)
def aAu (k0:zk1 (zk0 (zk3 (Option R))))(k1:zk0 (zk3 (Option R))):zk4 (zk1 (zk0 (zk3 (Option R))))
 | 0,_,_,_,_,_,_,_,_,_,_,_,_=>none
 | n+1,b0,b1,b2,b3,b4,b5,b6,b7,b8,b9,b10,b11=>(bif decide (b2<b1)then ((at? b0 b2).bind fun x1=>(aC3 N b2 x1 b3 b4 b5 b6 b7 b8 b9 b10 b11 (fun y2 y3 y4 y5 y6 y7 y8 y9 y10 y11=>(bif decide (y2≠0)then (k0 b2 y2 y3 y4 y5 y6 y7 y8 y9 y10 y11)else (aAu k0 k1 n b0 b1 (w64 (b2+1)) y3 y4 y5 y6 y7 y8 y9 y10 y11)))))else (k1 b3 b4 b5 b6 b7 b8 b9 b10 b11))
def P8_l0:SP:=⟨[(1,.fn 244 [.ptr 0 0,.ptr 1 0]),(9,pL [hI]),(10,pI),(11,pI),(100001,.fn 244 [.ptr 0 0,.ptr 1 0])],[(0,.box zb2),(1,.box [pI,pL [hI]])]⟩
def cC6:Nat->P8_l0.den->KS R->Option R:=eS P8_l0 fun k=>aAu N (qS k .ret ⟨[(4,pI),(5,pI),(100001,.fn 244 [.ptr 0 0,.ptr 1 0])],[(0,.box zb2),(1,.box [pI,pL [hI]])]⟩) (qS k (.ex 0) ⟨[(100001,.fn 244 [.ptr 0 0,.ptr 1 0])],[(0,.box zb2),(1,.box [pI,pL [hI]])]⟩)
theorem cDA:LpG T P8_l0 (cC6 N (R:=R)) [1,9,10,11] aJZ:=lpk (bNQ N) 26
def cEl:LpS R:=aCc noL 26 (aAx P8_l0 (cC6 N N))
def aBS (a0:List Int)(a1:ByteArray)(a2:zt7)(a3:zt1)(a4:zt2)(a5:zt0)(a6:zt7)(a7:zt6)(a8:Int)(a9:List Int)(k0:zk1 (zk0 (zk3 (Option R)))):Option R:=(aAu N k0 (fun z23 z24 z25 z26 z27 z28 z29 z30 z31=>(k0 0 0 z23 z24 z25 z26 z27 z28 z29 z30 z31)) N a0 ((a0.length:Nat):Int) 0 a1 a2 a3 a4 a5 a6 a7 a8 a9)
def F8:CfS R:=u2 (F7 N) 201 ⟨[pL [hI],.fn 244 [.ptr 0 0,.ptr 1 0]],[(0,.box zb2),(1,.box [pI,pL [hI]])]⟩ (aBS N) fun f k=>f (qA k [0,1] ⟨[pI,pI],[(0,.box zb2),(1,.box [pI,pL [hI]])]⟩)
theorem bJv:FOK (F8 N:CfS R) (aAo T):=uCk (bNQ N) bGx (Lp:=(cEl N)) (hl:=(aAi (l:=[(26,[1,9,10,11],aJZ)]) (by kernel_rfl) ⟨(aAf (cDA N N)),trivial⟩))
def H9:Nat->Option (List Sh):=fun n=>if n=22000 then some [hI]else none
def aCF (a0 a1:Int)(a2:List Int)(a3:ByteArray)(a4:zt7)(a5:zt1)(a6:zt2)(a7:zt0)(a8:zt7)(a9:zt6)(k0:Int->zk0 (Option R)):Option R:=(aBS N a2 a3 a4 a5 a6 a7 a8 a9 a1 a2 (fun y1 y2 y3 y4 y5 y6 y7 y8 y9 y10 y11=>(aAF N y10 0 3 (fun y12=>(aAj N y12 15 (fun y13=>(aAF N ((y11.length:Nat):Int) 1 16 (fun y14=>(aAj N y14 10 (fun y15=>(aAY N [y13,y15,y2] (fun y16=>(k0 y16 y3 y4 y5 y6 y7 y8 y9)))))))))))))
def F9:CfS R:=u2 (F8 N) 243 ⟨[pI,.agg [pI,pL [hI]],.ptr 0 0],[(0,.box zb2)]⟩ (aCF N) fun f k=>f (qA k [0] ⟨[pI],[(0,.box zb2)]⟩)
theorem bPa:FOK (F9 N:CfS R) (aAo T):=uCk (bJv N) bPp (H:=H9)
def aAq (k0:zk1 (zk0 (Option R)))(k1:zk0 (Option R)):Nat->zt6->zk1 (zk0 (Option R))
 | 0,_,_,_,_,_,_,_,_,_,_=>none
 | n+1,b0,b1,b2,b3,b4,b5,b6,b7,b8,b9=>(bif decide (b2<b1)then ((at? b0 b2).bind fun x1=>(aCF N b2 x1.1 x1.2 b3 b4 b5 b6 b7 b8 b9 (fun y2 y3 y4 y5 y6 y7 y8 y9=>(bif decide (y2≠0)then (k0 b2 y2 y3 y4 y5 y6 y7 y8 y9)else (aAq k0 k1 n b0 b1 (w64 (b2+1)) y3 y4 y5 y6 y7 y8 y9)))))else (k1 b3 b4 b5 b6 b7 b8 b9))
def P10_l0:SP:=⟨[(1,.fn 243 [.ptr 0 0]),(9,pL zs3),(10,pI),(11,pI),(100001,.fn 243 [.ptr 0 0])],[(0,.box zb2)]⟩
def bZ2:Nat->P10_l0.den->KS R->Option R:=eS P10_l0 fun k=>aAq N (qS k .ret ⟨[(4,pI),(5,pI),(100001,.fn 243 [.ptr 0 0])],[(0,.box zb2)]⟩) (qS k (.ex 0) ⟨[(100001,.fn 243 [.ptr 0 0])],[(0,.box zb2)]⟩)
theorem cCY:LpG T P10_l0 (bZ2 N (R:=R)) [1,9,10,11] aT7:=lpk (bPa N) 26
def cDS:LpS R:=aCc noL 26 (aAx P10_l0 (bZ2 N N))
def aBv (a0:zt6)(a1:ByteArray)(a2:zt7)(a3:zt1)(a4:zt2)(a5:zt0)(a6:zt7)(a7:zt6)(k0:zk1 (zk0 (Option R))):Option R:=(aAq N k0 (fun z19 z20 z21 z22 z23 z24 z25=>(k0 0 0 z19 z20 z21 z22 z23 z24 z25)) N a0 ((a0.length:Nat):Int) 0 a1 a2 a3 a4 a5 a6 a7)
def F10:CfS R:=u2 (F9 N) 242 ⟨[pL zs3,.fn 243 [.ptr 0 0]],[(0,.box zb2)]⟩ (aBv N) fun f k=>f (qA k [0] ⟨[pI,pI],[(0,.box zb2)]⟩)
theorem bKo:FOK (F10 N:CfS R) (aAo T):=uCk (bPa N) bLy (Lp:=(cDS N)) (hl:=(aAi (l:=[(26,[1,9,10,11],aT7)]) (by kernel_rfl) ⟨(aAf (cCY N N)),trivial⟩))
def aEj (a0:ByteArray)(a1:zt7)(a2:zt1)(a3:zt2)(a4:zt0)(a5:zt7)(a6:zt6)(k0:zk1 (zk0 (Option R))):Option R:=(aBv N a6 a0 a1 a2 a3 a4 a5 a6 k0)
def F11:CfS R:=u2 (F10 N) 241 ⟨[.ptr 0 0],[(0,.box zb2)]⟩ (aEj N) fun f k=>f (qA k [0] ⟨[pI,pI],[(0,.box zb2)]⟩)
theorem bAF:FOK (F11 N:CfS R) (aAo T):=uCk (bKo N) bNY
def aEm (a0:ByteArray)(a1:zt7)(a2:zt1)(a3:zt2)(a4:zt0)(a5:zt7)(a6:zt6)(k0:zk1 (zk0 (Option R))):Option R:=(aAj N (decide (((a6.length:Nat):Int)<=16)) 8 (fun y1=>(k0 0 y1 a0 a1 a2 a3 a4 a5 a6)))
def F12:CfS R:=u2 (F11 N) 240 ⟨[.ptr 0 0],[(0,.box zb2)]⟩ (aEm N) fun f k=>f (qA k [0] ⟨[pI,pI],[(0,.box zb2)]⟩)
theorem bIl:FOK (F12 N:CfS R) (aAo T):=uCk (bAF N) bOv
def aB3 (k0:Bool->Option R)(k1:ByteArray->Option R):Nat->ByteArray->zk1 (Option R)
 | 0,_,_,_=>none
 | n+1,b0,b1,b2=>(bif decide (b2<b1)then ((aJd b0 b2).bind fun x1=>(aAF N (w64 x1) 97 122 (fun y2=>(bif y2 then (aB3 k0 k1 n b0 b1 (w64 (b2+1)))else (aAF N (w64 x1) 65 90 (fun y3=>(bif (!y3)then (bif decide (b2=0)then (k0 false)else (bif decide ((w64 x1)≠95)then (aAF N (w64 x1) 48 57 (fun y4=>(bif (!y4)then (k0 false)else (aB3 k0 k1 n b0 b1 (w64 (b2+1))))))else (aB3 k0 k1 n b0 b1 (w64 (b2+1)))))else (aB3 k0 k1 n b0 b1 (w64 (b2+1))))))))))else (k1 b0))
def P13_l0:SP:=⟨[(0,pS),(7,pI),(8,pI)],[]⟩
def cAy:Nat->P13_l0.den->KS R->Option R:=eS P13_l0 fun k=>aB3 N (qS k .ret ⟨[(2,pB)],[]⟩) (qS k (.ex 0) ⟨[(0,pS)],[]⟩)
theorem cCh:LpG T P13_l0 (cAy N (R:=R)) [0,7,8] aWa:=lpk (bIl N) 26
def cDV:LpS R:=aCc noL 26 (aAx P13_l0 (cAy N N))
def aFt (a0:ByteArray)(k0:Bool->Option R):Option R:=(aB3 N k0 (fun z6=>(aAF N ((z6.size:Nat):Int) 1 16 k0)) N a0 ((a0.size:Nat):Int) 0)
def F13:CfS R:=u1 (F12 N) 215 ⟨[pS],[]⟩ ⟨[pB],[]⟩ (aFt N)
theorem bG7:FOK (F13 N:CfS R) (aAo T):=uCk (bIl N) bL2 (Lp:=(cDV N)) (hl:=(aAi (l:=[(26,[0,7,8],aWa)]) (by kernel_rfl) ⟨(aAf (cCh N N)),trivial⟩))
def H14:Nat->Option (List Sh):=fun n=>if n=10000 then some [hI]else none
def aCs (a0:ByteArray)(a1:Nat)(a2:zt3)(k0:Int->zk7 (Option R)):Option R:=(aFt N a0 (fun y1=>(aAj N y1 4 (fun y2=>(aAj N (!(aFh .s a0 a2 false)) 5 (fun y3=>(aAY N [y2,y3] (fun y4=>(k0 y4 (aGp .s a0 a1 a2) (aOS .s a0 true a1 a2))))))))))
def F14:CfS R:=u2 (F13 N) 219 ⟨[.mp 0,pS],[(0,.mp .s .b)]⟩ (aCs N) fun f k=>f (qA k [0] ⟨[pI],[(0,.mp .s .b)]⟩)
theorem aVU:FOK (F14 N:CfS R) (aAo T):=uCk (bG7 N) bNf (H:=H14)
def aEQ (a0:ByteArray)(a1:zt7)(a2:zt1)(a3:zt2)(a4:zt0)(a5:zt7)(a6:zt6)(a7:Int)(k0:Bool->Option R):Option R:=(aAF N a7 0 (w64 (((a3.length:Nat):Int)-1)) k0)
def F15:CfS R:=u1 (F14 N) 239 ⟨[.agg zb2,pI],[]⟩ ⟨[pB],[]⟩ (aEQ N)
theorem bGL:FOK (F15 N:CfS R) (aAo T):=uCk (aVU N) bMM
def H16:Nat->Option (List Sh):=fun n=>if n=12000 then some [hI]else none
def aDR (a0:Int)(a1:ByteArray)(a2:Int)(a3:Nat)(a4:zt3)(a5:ByteArray)(a6:zt7)(a7:zt1)(a8:zt2)(a9:zt0)(a10:zt7)(a11:zt6)(k0:Int->zk7 (zk0 (Option R))):Option R:=(aCs N a1 a3 a4 (fun y1 y2 y3=>(aEQ N a5 a6 a7 a8 a9 a10 a11 a2 (fun y4=>(aAj N y4 9 (fun y5=>(aAY N [y1,y5] (fun y6=>(k0 y6 y2 y3 a5 a6 a7 a8 a9 a10 a11)))))))))
def F16:CfS R:=u2 (F15 N) 238 ⟨[pI,.agg [pS,pI],.ptr 0 0,.ptr 2 0],[(0,.box [.mp 1]),(1,.mp .s .b),(2,.box zb2)]⟩ (aDR N) fun f k=>f (qA k [0,2,1] ⟨[pI],[(0,.box [.mp 1]),(1,.mp .s .b),(2,.box zb2)]⟩)
theorem bGT:FOK (F16 N:CfS R) (aAo T):=uCk (bGL N) bMB (H:=H16)
def aAw (k0:zk1 (zk7 (zk0 (Option R))))(k1:zk7 (zk0 (Option R))):Nat->zt7->zk1 (zk7 (zk0 (Option R)))
 | 0,_,_,_,_,_,_,_,_,_,_,_,_=>none
 | n+1,b0,b1,b2,b3,b4,b5,b6,b7,b8,b9,b10,b11=>(bif decide (b2<b1)then ((at? b0 b2).bind fun x1=>(aDR N b2 x1.1 x1.2 b3 b4 b5 b6 b7 b8 b9 b10 b11 (fun y2 y3 y4 y5 y6 y7 y8 y9 y10 y11=>(bif decide (y2≠0)then (k0 b2 y2 y3 y4 y5 y6 y7 y8 y9 y10 y11)else (aAw k0 k1 n b0 b1 (w64 (b2+1)) y3 y4 y5 y6 y7 y8 y9 y10 y11)))))else (k1 b3 b4 b5 b6 b7 b8 b9 b10 b11))
def P17_l0:SP:=⟨[(1,.fn 238 [.ptr 0 0,.ptr 2 0]),(9,pL [.s,hI]),(10,pI),(11,pI),(100001,.fn 238 [.ptr 0 0,.ptr 2 0]),(100002,.mp 1)],[(0,.box [.mp 1]),(1,.mp .s .b),(2,.box zb2)]⟩
def cAL:Nat->P17_l0.den->KS R->Option R:=eS P17_l0 fun k=>aAw N (qS k .ret ⟨[(4,pI),(5,pI),(100001,.fn 238 [.ptr 0 0,.ptr 2 0]),(100002,.mp 1)],[(0,.box [.mp 1]),(1,.mp .s .b),(2,.box zb2)]⟩) (qS k (.ex 0) ⟨[(100001,.fn 238 [.ptr 0 0,.ptr 2 0]),(100002,.mp 1)],[(0,.box [.mp 1]),(1,.mp .s .b),(2,.box zb2)]⟩)
theorem cCV:LpG T P17_l0 (cAL N (R:=R)) [1,9,10,11] aTT:=lpk (bGT N) 26
def cDo:LpS R:=aCc noL 26 (aAx P17_l0 (cAL N N))
def aBZ (a0:zt7)(a1:Nat)(a2:zt3)(a3:ByteArray)(a4:zt7)(a5:zt1)(a6:zt2)(a7:zt0)(a8:zt7)(a9:zt6)(k0:zk1 (zk7 (zk0 (Option R)))):Option R:=(aAw N k0 (fun z23 z24 z25 z26 z27 z28 z29 z30 z31=>(k0 0 0 z23 z24 z25 z26 z27 z28 z29 z30 z31)) N a0 ((a0.length:Nat):Int) 0 a1 a2 a3 a4 a5 a6 a7 a8 a9)
def F17:CfS R:=u2 (F16 N) 237 ⟨[pL [.s,hI],.fn 238 [.ptr 0 0,.ptr 2 0]],[(0,.box [.mp 1]),(1,.mp .s .b),(2,.box zb2)]⟩ (aBZ N) fun f k=>f (qA k [0,2,1] ⟨[pI,pI],[(0,.box [.mp 1]),(1,.mp .s .b),(2,.box zb2)]⟩)
theorem bAJ:FOK (F17 N:CfS R) (aAo T):=uCk (bGT N) bLR (Lp:=(cDo N)) (hl:=(aAi (l:=[(26,[1,9,10,11],aTT)]) (by kernel_rfl) ⟨(aAf (cCV N N)),trivial⟩))
def aEF (a0:ByteArray)(a1:zt7)(a2:zt1)(a3:zt2)(a4:zt0)(a5:zt7)(a6:zt6)(a7:Nat)(a8:zt3)(k0:zk1 (zk0 (zk7 (Option R)))):Option R:=(aBZ N a5 a7 a8 a0 a1 a2 a3 a4 a5 a6 (fun y1 y2 y3 y4 y5 y6 y7 y8 y9 y10 y11=>(k0 y1 y2 y5 y6 y7 y8 y9 y10 y11 y3 y4)))
def F18:CfS R:=u2 (F17 N) 236 ⟨[.ptr 0 0,.ptr 1 0],[(0,.box zb2),(1,.box [.mp 2]),(2,.mp .s .b)]⟩ (aEF N) fun f k=>f (qA k [0,1,2] ⟨[pI,pI],[(0,.box zb2),(1,.box [.mp 2]),(2,.mp .s .b)]⟩)
theorem bHK:FOK (F18 N:CfS R) (aAo T):=uCk (bAJ N) bMm
def aEC (a0:ByteArray)(a1:zt7)(a2:zt1)(a3:zt2)(a4:zt0)(a5:zt7)(a6:zt6)(k0:zk1 (zk0 (Option R))):Option R:=(aAj N (decide (((a5.length:Nat):Int)<=12)) 8 (fun y1=>(k0 0 y1 a0 a1 a2 a3 a4 a5 a6)))
def F19:CfS R:=u2 (F18 N) 235 ⟨[.ptr 0 0],[(0,.box zb2)]⟩ (aEC N) fun f k=>f (qA k [0] ⟨[pI,pI],[(0,.box zb2)]⟩)
theorem aZE:FOK (F19 N:CfS R) (aAo T):=uCk (bHK N) bOY
def aDv (a0:ByteArray)(a1:zt7)(a2:zt1)(a3:zt2)(a4:zt0)(a5:zt7)(a6:zt6)(a7:Int)(k0:Bool->Option R):Option R:=(aEQ N a0 a1 a2 a3 a4 a5 a6 a7 (fun y1=>(bif y1 then ((at? a3 a7).bind fun x2=>(k0 (decide (x2.2.1=1))))else (k0 false))))
def F20:CfS R:=u1 (F19 N) 231 ⟨[.agg zb2,pI],[]⟩ ⟨[pB],[]⟩ (aDv N)
theorem bJN:FOK (F20 N:CfS R) (aAo T):=uCk (aZE N) bNl
def H21:Nat->Option (List Sh):=fun n=>if n=23000 then some [hI]else none
def aFJ (a0:ByteArray)(a1:zt7)(a2:zt1)(a3:zt2)(a4:zt0)(a5:zt7)(a6:zt6)(a7 a8 a9:Int)(k0:Int->Option R):Option R:=(aAF N a7 0 (w64 (((a2.length:Nat):Int)-1)) (fun y1=>(aAj N y1 6 (fun y2=>(aDv N a0 a1 a2 a3 a4 a5 a6 a8 (fun y3=>(bif y3 then (aEQ N a0 a1 a2 a3 a4 a5 a6 a9 (fun y4=>(aAj N y4 9 (fun y5=>(aAY N [y2,y5] (fun y6=>(bif decide (y6≠0)then (k0 y6)else ((at? a3 a9).bind fun x7=>((at? a2 a7).bind fun x8=>(aAj N (decide (x7.2.1=x8.2.2.1)) 25 k0))))))))))else (aAj N false 9 (fun y10=>(aAY N [y2,y10] (fun y11=>(bif decide (y11≠0)then (k0 y11)else ((at? a3 a9).bind fun x12=>((at? a2 a7).bind fun x13=>(aAj N (decide (x12.2.1=x13.2.2.1)) 25 k0)))))))))))))))
def F21:CfS R:=u1 (F20 N) 234 ⟨[.agg zb2,.agg [pI,pI,pI]],[]⟩ ⟨[pI],[]⟩ (aFJ N)
theorem aZc:FOK (F21 N:CfS R) (aAo T):=uCk (bJN N) bPK (H:=H21)
def aC7 (a0 a1 a2 a3:Int)(a4:ByteArray)(a5:zt7)(a6:zt1)(a7:zt2)(a8:zt0)(a9:zt7)(a10:zt6)(k0:Int->zk0 (Option R)):Option R:=(aFJ N a4 a5 a6 a7 a8 a9 a10 a1 a2 a3 (fun y1=>(k0 y1 a4 a5 a6 a7 a8 a9 a10)))
def F22:CfS R:=u2 (F21 N) 233 ⟨[pI,.agg [pI,pI,pI],.ptr 0 0],[(0,.box zb2)]⟩ (aC7 N) fun f k=>f (qA k [0] ⟨[pI],[(0,.box zb2)]⟩)
theorem bKk:FOK (F22 N:CfS R) (aAo T):=uCk (aZc N) bMP
def aAs (k0:zk1 (zk0 (Option R)))(k1:zk0 (Option R)):Nat->zt8->zk1 (zk0 (Option R))
 | 0,_,_,_,_,_,_,_,_,_,_=>none
 | n+1,b0,b1,b2,b3,b4,b5,b6,b7,b8,b9=>(bif decide (b2<b1)then ((at? b0 b2).bind fun x1=>(aC7 N b2 x1.1 x1.2.1 x1.2.2 b3 b4 b5 b6 b7 b8 b9 (fun y2 y3 y4 y5 y6 y7 y8 y9=>(bif decide (y2≠0)then (k0 b2 y2 y3 y4 y5 y6 y7 y8 y9)else (aAs k0 k1 n b0 b1 (w64 (b2+1)) y3 y4 y5 y6 y7 y8 y9)))))else (k1 b3 b4 b5 b6 b7 b8 b9))
def P23_l0:SP:=⟨[(1,.fn 233 [.ptr 0 0]),(9,pL zs4),(10,pI),(11,pI),(100001,.fn 233 [.ptr 0 0])],[(0,.box zb2)]⟩
def cAP:Nat->P23_l0.den->KS R->Option R:=eS P23_l0 fun k=>aAs N (qS k .ret ⟨[(4,pI),(5,pI),(100001,.fn 233 [.ptr 0 0])],[(0,.box zb2)]⟩) (qS k (.ex 0) ⟨[(100001,.fn 233 [.ptr 0 0])],[(0,.box zb2)]⟩)
theorem cC1:LpG T P23_l0 (cAP N (R:=R)) [1,9,10,11] aS9:=lpk (bKk N) 26
def cDQ:LpS R:=aCc noL 26 (aAx P23_l0 (cAP N N))
def aBI (a0:zt8)(a1:ByteArray)(a2:zt7)(a3:zt1)(a4:zt2)(a5:zt0)(a6:zt7)(a7:zt6)(k0:zk1 (zk0 (Option R))):Option R:=(aAs N k0 (fun z19 z20 z21 z22 z23 z24 z25=>(k0 0 0 z19 z20 z21 z22 z23 z24 z25)) N a0 ((a0.length:Nat):Int) 0 a1 a2 a3 a4 a5 a6 a7)
def F23:CfS R:=u2 (F22 N) 232 ⟨[pL zs4,.fn 233 [.ptr 0 0]],[(0,.box zb2)]⟩ (aBI N) fun f k=>f (qA k [0] ⟨[pI,pI],[(0,.box zb2)]⟩)
theorem bAR:FOK (F23 N:CfS R) (aAo T):=uCk (bKk N) bL5 (Lp:=(cDQ N)) (hl:=(aAi (l:=[(26,[1,9,10,11],aS9)]) (by kernel_rfl) ⟨(aAf (cC1 N N)),trivial⟩))
def H24:Nat->Option (List Sh):=fun n=>if n=17000 then some [hI]else if n=31000 then some [hI]else none
def aCN (a0:Int)(a1:ByteArray)(a2:Int)(a3:zt8)(a4:Nat)(a5:zt3)(a6:ByteArray)(a7:zt7)(a8:zt1)(a9:zt2)(a10:zt0)(a11:zt7)(a12:zt6)(k0:Int->zk7 (zk0 (Option R))):Option R:=(aCs N a1 a4 a5 (fun y1 y2 y3=>(aDv N a6 a7 a8 a9 a10 a11 a12 a2 (fun y4=>(aAj N y4 9 (fun y5=>(aAj N (decide (((a3.length:Nat):Int)<=16)) 8 (fun y6=>(aAY N [y1,y5,y6] (fun y7=>(aBI N a3 a6 a7 a8 a9 a10 a11 a12 (fun y8 y9 y10 y11 y12 y13 y14 y15 y16=>(aAY N [y7,y9] (fun y17=>(k0 y17 y2 y3 y10 y11 y12 y13 y14 y15 y16)))))))))))))))
def F24:CfS R:=u2 (F23 N) 230 ⟨[pI,.agg [pS,pI,pL zs4],.ptr 0 0,.ptr 2 0],[(0,.box [.mp 1]),(1,.mp .s .b),(2,.box zb2)]⟩ (aCN N) fun f k=>f (qA k [0,2,1] ⟨[pI],[(0,.box [.mp 1]),(1,.mp .s .b),(2,.box zb2)]⟩)
theorem bIL:FOK (F24 N:CfS R) (aAo T):=uCk (bAR N) bOP (H:=H24)
def aAA (k0:zk1 (zk7 (zk0 (Option R))))(k1:zk7 (zk0 (Option R))):Nat->zt0->zk1 (zk7 (zk0 (Option R)))
 | 0,_,_,_,_,_,_,_,_,_,_,_,_=>none
 | n+1,b0,b1,b2,b3,b4,b5,b6,b7,b8,b9,b10,b11=>(bif decide (b2<b1)then ((at? b0 b2).bind fun x1=>(aCN N b2 x1.1 x1.2.1 x1.2.2 b3 b4 b5 b6 b7 b8 b9 b10 b11 (fun y2 y3 y4 y5 y6 y7 y8 y9 y10 y11=>(bif decide (y2≠0)then (k0 b2 y2 y3 y4 y5 y6 y7 y8 y9 y10 y11)else (aAA k0 k1 n b0 b1 (w64 (b2+1)) y3 y4 y5 y6 y7 y8 y9 y10 y11)))))else (k1 b3 b4 b5 b6 b7 b8 b9 b10 b11))
def P25_l0:SP:=⟨[(1,.fn 230 [.ptr 0 0,.ptr 2 0]),(9,pL zs0),(10,pI),(11,pI),(100001,.fn 230 [.ptr 0 0,.ptr 2 0]),(100002,.mp 1)],[(0,.box [.mp 1]),(1,.mp .s .b),(2,.box zb2)]⟩
def cAT:Nat->P25_l0.den->KS R->Option R:=eS P25_l0 fun k=>aAA N (qS k .ret ⟨[(4,pI),(5,pI),(100001,.fn 230 [.ptr 0 0,.ptr 2 0]),(100002,.mp 1)],[(0,.box [.mp 1]),(1,.mp .s .b),(2,.box zb2)]⟩) (qS k (.ex 0) ⟨[(100001,.fn 230 [.ptr 0 0,.ptr 2 0]),(100002,.mp 1)],[(0,.box [.mp 1]),(1,.mp .s .b),(2,.box zb2)]⟩)
theorem cCA:LpG T P25_l0 (cAT N (R:=R)) [1,9,10,11] aUQ:=lpk (bIL N) 26
def cDR:LpS R:=aCc noL 26 (aAx P25_l0 (cAT N N))
def aCf (a0:zt0)(a1:Nat)(a2:zt3)(a3:ByteArray)(a4:zt7)(a5:zt1)(a6:zt2)(a7:zt0)(a8:zt7)(a9:zt6)(k0:zk1 (zk7 (zk0 (Option R)))):Option R:=(aAA N k0 (fun z23 z24 z25 z26 z27 z28 z29 z30 z31=>(k0 0 0 z23 z24 z25 z26 z27 z28 z29 z30 z31)) N a0 ((a0.length:Nat):Int) 0 a1 a2 a3 a4 a5 a6 a7 a8 a9)
def F25:CfS R:=u2 (F24 N) 229 ⟨[pL zs0,.fn 230 [.ptr 0 0,.ptr 2 0]],[(0,.box [.mp 1]),(1,.mp .s .b),(2,.box zb2)]⟩ (aCf N) fun f k=>f (qA k [0,2,1] ⟨[pI,pI],[(0,.box [.mp 1]),(1,.mp .s .b),(2,.box zb2)]⟩)
theorem bGI:FOK (F25 N:CfS R) (aAo T):=uCk (bIL N) bLE (Lp:=(cDR N)) (hl:=(aAi (l:=[(26,[1,9,10,11],aUQ)]) (by kernel_rfl) ⟨(aAf (cCA N N)),trivial⟩))
def aED (a0:ByteArray)(a1:zt7)(a2:zt1)(a3:zt2)(a4:zt0)(a5:zt7)(a6:zt6)(a7:Nat)(a8:zt3)(k0:zk1 (zk0 (zk7 (Option R)))):Option R:=(aCf N a4 a7 a8 a0 a1 a2 a3 a4 a5 a6 (fun y1 y2 y3 y4 y5 y6 y7 y8 y9 y10 y11=>(k0 y1 y2 y5 y6 y7 y8 y9 y10 y11 y3 y4)))
def F26:CfS R:=u2 (F25 N) 228 ⟨[.ptr 0 0,.ptr 1 0],[(0,.box zb2),(1,.box [.mp 2]),(2,.mp .s .b)]⟩ (aED N) fun f k=>f (qA k [0,1,2] ⟨[pI,pI],[(0,.box zb2),(1,.box [.mp 2]),(2,.mp .s .b)]⟩)
theorem aZA:FOK (F26 N:CfS R) (aAo T):=uCk (bGI N) bOL
def aEx (a0:ByteArray)(a1:zt7)(a2:zt1)(a3:zt2)(a4:zt0)(a5:zt7)(a6:zt6)(k0:zk1 (zk0 (Option R))):Option R:=(aAj N (decide (((a4.length:Nat):Int)<=16)) 8 (fun y1=>(k0 0 y1 a0 a1 a2 a3 a4 a5 a6)))
def F27:CfS R:=u2 (F26 N) 227 ⟨[.ptr 0 0],[(0,.box zb2)]⟩ (aEx N) fun f k=>f (qA k [0] ⟨[pI,pI],[(0,.box zb2)]⟩)
theorem bKB:FOK (F27 N:CfS R) (aAo T):=uCk (aZA N) bMg
def H28:Nat->Option (List Sh):=fun n=>if n=16000 then some [hI]else if n=33000 then some [hI]else none
def aDl (N:Nat)(k0:zk0 (List Int->Option R)):Nat->zt7->zk1 (zk0 (List Int->Option R))
 | 0,_,_,_,_,_,_,_,_,_,_,_=>none
 | n+1,b0,b1,b2,b3,b4,b5,b6,b7,b8,b9,b10=>(bif decide (b2<b1)then ((at? b0 b2).bind fun x1=>(bif aBU (b10.length+1) 8 then (aDl N k0 n b0 b1 (w64 (b2+1)) b3 b4 b5 b6 b7 b8 b9 (b10++[x1.2]))else none))else (k0 b3 b4 b5 b6 b7 b8 b9 b10))
def P28_l0:SP:=⟨[(1,.ptr 0 0),(3,.own 1),(9,pL [.s,hI]),(10,pI),(11,pI)],[(0,.box zb2),(1,.arr [hI])]⟩
def cAz:Nat->P28_l0.den->KS R->Option R:=eS P28_l0 fun k=>aDl N (qS k (.ex 0) ⟨[(1,.ptr 0 0),(3,.own 1)],[(0,.box zb2),(1,.arr [hI])]⟩)
theorem cDb:LpG T P28_l0 (cAz N (R:=R)) [1,3,9,10,11] aWC:=lpk (bKB N) 58 (H:=H28)
def cCH:LpS R:=aCc noL 58 (aAx P28_l0 (cAz N N))
def aDn (N:Nat)(k0:List Int->Option R):Nat->zt1->zk1 (List Int->Option R)
 | 0,_,_,_,_=>none
 | n+1,b0,b1,b2,b3=>(bif decide (b2<b1)then ((at? b0 b2).bind fun x1=>(bif aBU (b3.length+1) 8 then (aDn N k0 n b0 b1 (w64 (b2+1)) (b3++[x1.2.2.1]))else none))else (k0 b3))
def P28_l1:SP:=⟨[(3,.own 0),(22,pL zs2),(23,pI),(24,pI)],[(0,.arr [hI])]⟩
def cAR:Nat->P28_l1.den->KS R->Option R:=eS P28_l1 fun k=>aDn N (qS k (.ex 2) ⟨[(3,.own 0)],[(0,.arr [hI])]⟩)
theorem cCn:LpG T P28_l1 (cAR N (R:=R)) [3,22,23,24] aV6:=lpk (bKB N) 122 (H:=H28) (Lp:=(cCH N))
def cDT:LpS R:=aCc (cCH N) 122 (aAx P28_l1 (cAR N N))
def aFI (a0:ByteArray)(a1:zt7)(a2:zt1)(a3:zt2)(a4:zt0)(a5:zt7)(a6:zt6)(k0:List Int->Option R):Option R:=(aDl N (fun z2 z3 z4 z5 z6 z7 z8 z9=>(aDn N k0 N z4 ((z4.length:Nat):Int) 0 z9)) N a1 ((a1.length:Nat):Int) 0 a0 a1 a2 a3 a4 a5 a6 [])
def F28:CfS R:=u1 (F27 N) 206 ⟨[.agg zb2],[]⟩ ⟨[pL [hI]],[]⟩ (aFI N)
theorem bJq:FOK (F28 N:CfS R) (aAo T):=uCk (bKB N) bGX (H:=H28) (Lp:=(cDT N)) (hl:=(aAi (l:=[(58,[1,3,9,10,11],aWC),(122,[3,22,23,24],aV6)]) (by kernel_rfl) ⟨(aDL (by decide) (aAf (cDb N N))),(aAf (cCn N N)),trivial⟩))
def aC6 (N:Nat)(a0 a1 a2:Int)(k0:Bool->Option R):Option R:=(bif decide (a1<=a0)then (k0 (decide (a0<=a2)))else (k0 false))
def F29:CfS R:=u1 (F28 N) 274 ⟨[pI,pI,pI],[]⟩ ⟨[pB],[]⟩ (aC6 N)
theorem bJE:FOK (F29 N:CfS R) (aAo T):=uCk (bJq N) bOf
def aFy (a0:Int)(k0:Bool->Option R):Option R:=(aC6 N a0 1 16 k0)
def F30:CfS R:=u1 (F29 N) 270 ⟨[pI],[]⟩ ⟨[pB],[]⟩ (aFy N)
theorem bAh:FOK (F30 N:CfS R) (aAo T):=uCk (bJE N) bOB
def aAy (N:Nat)(a0:Bool)(a1:Int)(k0:Int->Option R):Option R:=(bif a0 then (k0 0)else (k0 a1))
def F31:CfS R:=u1 (F30 N) 259 ⟨[pB,pI],[]⟩ ⟨[pI],[]⟩ (aAy N)
theorem bJP:FOK (F31 N:CfS R) (aAo T):=uCk (bAh N) bQi
def aFj (a0 a1:Int)(k0:Int->Option R):Option R:=(aFy N a1 (fun y1=>(aAy N y1 2 k0)))
def F32:CfS R:=u1 (F31 N) 269 ⟨[pI,pI],[]⟩ ⟨[pI],[]⟩ (aFj N)
theorem bIU:FOK (F32 N:CfS R) (aAo T):=uCk (bJP N) bQb
def aAT (k0:zk1 (Option R))(k1:Option R):zk4 (zk1 (Option R))
 | 0,_,_,_=>none
 | n+1,b0,b1,b2=>(bif decide (b2<b1)then ((at? b0 b2).bind fun x1=>(aFj N b2 x1 (fun y2=>(bif decide (y2≠0)then (k0 b2 y2)else (aAT k0 k1 n b0 b1 (w64 (b2+1)))))))else k1)
def P33_l0:SP:=⟨[(1,.p (.fn 269 [])),(9,pL [hI]),(10,pI),(11,pI)],[]⟩
def cAC:Nat->P33_l0.den->KS R->Option R:=eS P33_l0 fun k=>aAT N (qS k .ret ⟨[(4,pI),(5,pI)],[]⟩) (qS k (.ex 0) ⟨[],[]⟩)
theorem cCz:LpG T P33_l0 (cAC N (R:=R)) [1,9,10,11] aNh:=lpk (bIU N) 26
def cDu:LpS R:=aCc noL 26 (aAx P33_l0 (cAC N N))
def aC4 (a0:List Int)(k0:zk1 (Option R)):Option R:=(aAT N k0 (k0 0 0) N a0 ((a0.length:Nat):Int) 0)
def F33:CfS R:=u1 (F32 N) 260 ⟨[pL [hI],.p (.fn 269 [])],[]⟩ ⟨[pI,pI],[]⟩ (aC4 N)
theorem bHX:FOK (F33 N:CfS R) (aAo T):=uCk (bIU N) bJ3 (Lp:=(cDu N)) (hl:=(aAi (l:=[(26,[1,9,10,11],aNh)]) (by kernel_rfl) ⟨(aAf (cCz N N)),trivial⟩))
def aES (N:Nat)(k0:Option R):Option R:=k0
def F34:CfS R:=u1 (F33 N) 303 ⟨[.p (.ks (ByteArray.mk #[97,110,100])),.p (.fn 304 [])],[]⟩ ⟨[.agg [.p (.ks (ByteArray.mk #[97,110,100])),.p (.ki .i64 2),.p (.kb false),.p (.fn 300 []),.p (.fn 340 [.cp [.fn 304 []]])]],[]⟩ (aES N)
theorem bKF:FOK (F34 N:CfS R) (aAo T):=uCk (bHX N) bAI
def aET (N:Nat)(k0:Option R):Option R:=k0
def F35:CfS R:=u1 (F34 N) 303 ⟨[.p (.ks (ByteArray.mk #[111,114])),.p (.fn 305 [])],[]⟩ ⟨[.agg [.p (.ks (ByteArray.mk #[111,114])),.p (.ki .i64 2),.p (.kb false),.p (.fn 300 []),.p (.fn 340 [.cp [.fn 305 []]])]],[]⟩ (aET N)
theorem bJy:FOK (F35 N:CfS R) (aAo T):=uCk (bKF N) bAI
def aEY (N:Nat)(k0:Option R):Option R:=k0
def F36:CfS R:=u1 (F35 N) 303 ⟨[.p (.ks (ByteArray.mk #[120,111,114])),.p (.fn 306 [])],[]⟩ ⟨[.agg [.p (.ks (ByteArray.mk #[120,111,114])),.p (.ki .i64 2),.p (.kb false),.p (.fn 300 []),.p (.fn 340 [.cp [.fn 306 []]])]],[]⟩ (aEY N)
theorem bAU:FOK (F36 N:CfS R) (aAo T):=uCk (bJy N) bAI
def aEU (N:Nat)(k0:Option R):Option R:=k0
def F37:CfS R:=u1 (F36 N) 303 ⟨[.p (.ks (ByteArray.mk #[97,100,100])),.p (.fn 307 [])],[]⟩ ⟨[.agg [.p (.ks (ByteArray.mk #[97,100,100])),.p (.ki .i64 2),.p (.kb false),.p (.fn 300 []),.p (.fn 340 [.cp [.fn 307 []]])]],[]⟩ (aEU N)
theorem bGU:FOK (F37 N:CfS R) (aAo T):=uCk (bAU N) bAI
def aER (N:Nat)(k0:Option R):Option R:=k0
def F38:CfS R:=u1 (F37 N) 303 ⟨[.p (.ks (ByteArray.mk #[115,117,98])),.p (.fn 308 [])],[]⟩ ⟨[.agg [.p (.ks (ByteArray.mk #[115,117,98])),.p (.ki .i64 2),.p (.kb false),.p (.fn 300 []),.p (.fn 340 [.cp [.fn 308 []]])]],[]⟩ (aER N)
theorem bAz:FOK (F38 N:CfS R) (aAo T):=uCk (bGU N) bAI
def aEX (N:Nat)(k0:Option R):Option R:=k0
def F39:CfS R:=u1 (F38 N) 303 ⟨[.p (.ks (ByteArray.mk #[109,117,108])),.p (.fn 309 [])],[]⟩ ⟨[.agg [.p (.ks (ByteArray.mk #[109,117,108])),.p (.ki .i64 2),.p (.kb false),.p (.fn 300 []),.p (.fn 340 [.cp [.fn 309 []]])]],[]⟩ (aEX N)
theorem bIR:FOK (F39 N:CfS R) (aAo T):=uCk (bAz N) bAI
def aEt (N:Nat)(k0:Option R):Option R:=k0
def F40:CfS R:=u1 (F39 N) 310 ⟨[.p (.ks (ByteArray.mk #[101,113])),.p (.fn 311 [])],[]⟩ ⟨[.agg [.p (.ks (ByteArray.mk #[101,113])),.p (.ki .i64 2),.p (.kb false),.p (.fn 341 []),.p (.fn 342 [.cp [.fn 311 []]])]],[]⟩ (aEt N)
theorem bK3:FOK (F40 N:CfS R) (aAo T):=uCk (bIR N) bHW
def aEf (N:Nat)(k0:Option R):Option R:=k0
def F41:CfS R:=u1 (F40 N) 310 ⟨[.p (.ks (ByteArray.mk #[108,116])),.p (.fn 312 [])],[]⟩ ⟨[.agg [.p (.ks (ByteArray.mk #[108,116])),.p (.ki .i64 2),.p (.kb false),.p (.fn 341 []),.p (.fn 342 [.cp [.fn 312 []]])]],[]⟩ (aEf N)
theorem aVi:FOK (F41 N:CfS R) (aAo T):=uCk (bK3 N) bHW
def aD4 (N:Nat)(k0:Option R):Option R:=k0
def F42:CfS R:=u1 (F41 N) 310 ⟨[.p (.ks (ByteArray.mk #[115,108,116])),.p (.fn 313 [])],[]⟩ ⟨[.agg [.p (.ks (ByteArray.mk #[115,108,116])),.p (.ki .i64 2),.p (.kb false),.p (.fn 341 []),.p (.fn 342 [.cp [.fn 313 []]])]],[]⟩ (aD4 N)
theorem bHc:FOK (F42 N:CfS R) (aAo T):=uCk (aVi N) bHW
def aFg (k0:Option R):Option R:=(aES N (aET N (aEY N (aEU N (aER N (aEX N (aEt N (aEf N (aD4 N k0)))))))))
def P43:AP:=⟨[],[]⟩
def E43 (x:P43.den)(k:KK R):Option R:=aFg N (k [] [.agg zd1] [])
def F43:CfS R:=uC (F42 N) 271 P43 (E43 N)
theorem bJC:FOK (F43 N:CfS R) (aAo T):=uCk (bHc N) bOA
def aEh (N:Nat)(k0:Int->Option R)(k1:Option R):zk4 (zk1 (Option R))
 | 0,_,_,_=>none
 | n+1,b0,b1,b2=>(bif decide (b2<b1)then ((at? b0 b2).bind fun x1=>(bif decide (x1≠0)then (k0 x1)else (aEh N k0 k1 n b0 b1 (w64 (b2+1)))))else k1)
def P44_l0:SP:=⟨[(5,pL [hI]),(6,pI),(7,pI)],[]⟩
def cAb:Nat->P44_l0.den->KS R->Option R:=eS P44_l0 fun k=>aEh N (qS k .ret ⟨[(2,pI)],[]⟩) (qS k (.ex 0) ⟨[],[]⟩)
theorem cCE:LpG T P44_l0 (cAb N (R:=R)) [5,6,7] aWM:=lpk (bJC N) 26
def cDC:LpS R:=aCc noL 26 (aAx P44_l0 (cAb N N))
def aC8 (a0:List Int)(k0:Int->Option R):Option R:=(aEh N k0 (k0 0) N a0 ((a0.length:Nat):Int) 0)
def F44:CfS R:=u1 (F43 N) 257 ⟨[pL [hI]],[]⟩ ⟨[pI],[]⟩ (aC8 N)
theorem bJs:FOK (F44 N:CfS R) (aAo T):=uCk (bJC N) bL3 (Lp:=(cDC N)) (hl:=(aAi (l:=[(26,[5,6,7],aWM)]) (by kernel_rfl) ⟨(aAf (cCE N N)),trivial⟩))
def aEl (a0 a1:Int)(k0:Bool->Int->Option R):Option R:=(aC6 N a0 0 (w64 (a1-1)) (fun y1=>(k0 (!y1) a1)))
def F45:CfS R:=u2 (F44 N) 276 ⟨[pI,.ptr 0 0],[(0,.box [pI])]⟩ (aEl N) fun f k=>f (qA k [0] ⟨[pB],[(0,.box [pI])]⟩)
theorem bKR:FOK (F45 N:CfS R) (aAo T):=uCk (bJs N) bNx
def aAn (k0:zk1 (Option R))(k1:Int->Option R):zk4 (zk1 (Int->Option R))
 | 0,_,_,_,_=>none
 | n+1,b0,b1,b2,b3=>(bif decide (b2<b1)then ((at? b0 b2).bind fun x1=>(aEl N x1 b3 (fun y2 y3=>(bif y2 then (k0 b2 y3)else (aAn k0 k1 n b0 b1 (w64 (b2+1)) y3)))))else (k1 b3))
def P46_l0:SP:=⟨[(0,pL [hI]),(1,.fn 276 [.ptr 0 0]),(7,pI),(8,pI),(100001,.fn 276 [.ptr 0 0])],[(0,.box [pI])]⟩
def cAS:Nat->P46_l0.den->KS R->Option R:=eS P46_l0 fun k=>aAn N (qS k .ret ⟨[(4,pI),(100001,.fn 276 [.ptr 0 0])],[(0,.box [pI])]⟩) (qS k (.ex 0) ⟨[(100001,.fn 276 [.ptr 0 0])],[(0,.box [pI])]⟩)
theorem cCI:LpG T P46_l0 (cAS N (R:=R)) [0,1,7,8] aJF:=lpk (bKR N) 26
def cDG:LpS R:=aCc noL 26 (aAx P46_l0 (cAS N N))
def aBf (a0:List Int)(a1:Int)(k0:zk1 (Option R)):Option R:=(aAn N k0 (fun z6=>(k0 (-1) z6)) N a0 ((a0.length:Nat):Int) 0 a1)
def F46:CfS R:=u2 (F45 N) 327 ⟨[pL [hI],.fn 276 [.ptr 0 0]],[(0,.box [pI])]⟩ (aBf N) fun f k=>f (qA k [0] ⟨[pI],[(0,.box [pI])]⟩)
theorem bBb:FOK (F46 N:CfS R) (aAo T):=uCk (bKR N) bGy (Lp:=(cDG N)) (hl:=(aAi (l:=[(26,[0,1,7,8],aJF)]) (by kernel_rfl) ⟨(aAf (cCI N N)),trivial⟩))
def aAb (a0:List Int)(a1:Int)(k0:Bool->Int->Option R):Option R:=(aBf N a0 a1 (fun y1 y2=>(k0 (decide (0<=y1)) y2)))
def F47:CfS R:=u2 (F46 N) 275 ⟨[pL [hI],.fn 276 [.ptr 0 0]],[(0,.box [pI])]⟩ (aAb N) fun f k=>f (qA k [0] ⟨[pB],[(0,.box [pI])]⟩)
theorem bKa:FOK (F47 N:CfS R) (aAo T):=uCk (bBb N) bHV
def aHu (a0 a1:Int)(k0:Bool->Option R):Option R:=(bif decide (0<=a1)then (bif decide (a1<0)then none else (aC6 N a0 0 (w64 ((aPi .i64 1 a1)-1)) k0))else (k0 false))
def F48:CfS R:=u1 (F47 N) 262 ⟨[pI,pI],[]⟩ ⟨[pB],[]⟩ (aHu N)
theorem bIX:FOK (F48 N:CfS R) (aAo T):=uCk (bKa N) bNN
def aGI (N:Nat)(a0:Int)(a1:List Int)(a2:Int)(k0:Bool->Option R):Option R:=((at? a1 0).bind fun x1=>(k0 (decide (x1=a0))))
def F49:CfS R:=u1 (F48 N) 324 ⟨[pI,pL [hI],pI],[]⟩ ⟨[pB],[]⟩ (aGI N)
theorem bHQ:FOK (F49 N:CfS R) (aAo T):=uCk (bIX N) bNM
def aF9 (N:Nat)(a0:Int)(a1:List Int)(a2:Int)(k0:Bool->Option R):Option R:=((at? a1 0).bind fun x1=>(k0 (decide (x1<=a0))))
def F50:CfS R:=u1 (F49 N) 321 ⟨[pI,pL [hI],pI],[]⟩ ⟨[pB],[]⟩ (aF9 N)
theorem bIs:FOK (F50 N:CfS R) (aAo T):=uCk (bHQ N) bPQ
def aDC (N:Nat)(a0:Int)(a1:List Int)(a2:Int)(k0:Bool->Option R):Option R:=((at? a1 0).bind fun x1=>(k0 (decide ((w64 (a2+a0))<=x1))))
def F51:CfS R:=u1 (F50 N) 319 ⟨[pI,pL [hI],pI],[]⟩ ⟨[pB],[]⟩ (aDC N)
theorem bH6:FOK (F51 N:CfS R) (aAo T):=uCk (bIs N) bNn
def aDF (N:Nat)(a0:Int)(a1:List Int)(a2:Int)(k0:Bool->Option R):Option R:=((at? a1 0).bind fun x1=>((at? a1 1).bind fun x2=>(k0 (decide ((w64 (x1+x2))=a0)))))
def F52:CfS R:=u1 (F51 N) 317 ⟨[pI,pL [hI],pI],[]⟩ ⟨[pB],[]⟩ (aDF N)
theorem bIM:FOK (F52 N:CfS R) (aAo T):=uCk (bH6 N) bPf
def aDE (N:Nat)(a0:Int)(a1:List Int)(a2:Int)(k0:Bool->Option R):Option R:=((at? a1 0).bind fun x1=>(bif decide (x1=1)then ((at? a1 1).bind fun x2=>(bif decide (x2=a0)then ((at? a1 2).bind fun x3=>(k0 (decide (x3=a0))))else (k0 false)))else (k0 false)))
def F53:CfS R:=u1 (F52 N) 315 ⟨[pI,pL [hI],pI],[]⟩ ⟨[pB],[]⟩ (aDE N)
theorem bHo:FOK (F53 N:CfS R) (aAo T):=uCk (bIM N) bOU
def aF5 (N:Nat)(a0:Int)(a1:List Int)(a2:Int)(k0:Bool->Option R):Option R:=(bif decide (a0=1)then ((at? a1 0).bind fun x1=>((at? a1 1).bind fun x2=>(k0 (decide (x1=x2)))))else (k0 false))
def F54:CfS R:=u1 (F53 N) 341 ⟨[pI,pL [hI],pI],[]⟩ ⟨[pB],[]⟩ (aF5 N)
theorem bHI:FOK (F54 N:CfS R) (aAo T):=uCk (bHo N) bOs
def aHN (N:Nat)(a0 a1:Int)(k0:Bool->Int->Option R):Option R:=(k0 (decide (a0≠a1)) a1)
def F55:CfS R:=u2 (F54 N) 339 ⟨[pI,.ptr 0 0],[(0,.box [pI])]⟩ (aHN N) fun f k=>f (qA k [0] ⟨[pB],[(0,.box [pI])]⟩)
theorem bGJ:FOK (F55 N:CfS R) (aAo T):=uCk (bHI N) bN8
def aAD (k0:zk1 (Option R))(k1:Int->Option R):zk4 (zk1 (Int->Option R))
 | 0,_,_,_,_=>none
 | n+1,b0,b1,b2,b3=>(bif decide (b2<b1)then ((at? b0 b2).bind fun x1=>(aHN N x1 b3 (fun y2 y3=>(bif y2 then (k0 b2 y3)else (aAD k0 k1 n b0 b1 (w64 (b2+1)) y3)))))else (k1 b3))
def P56_l0:SP:=⟨[(0,pL [hI]),(1,.fn 339 [.ptr 0 0]),(7,pI),(8,pI),(100001,.fn 339 [.ptr 0 0])],[(0,.box [pI])]⟩
def cAr:Nat->P56_l0.den->KS R->Option R:=eS P56_l0 fun k=>aAD N (qS k .ret ⟨[(4,pI),(100001,.fn 339 [.ptr 0 0])],[(0,.box [pI])]⟩) (qS k (.ex 0) ⟨[(100001,.fn 339 [.ptr 0 0])],[(0,.box [pI])]⟩)
theorem cCs:LpG T P56_l0 (cAr N (R:=R)) [0,1,7,8] aJF:=lpk (bGJ N) 26
def cDD:LpS R:=aCc noL 26 (aAx P56_l0 (cAr N N))
def aCh (a0:List Int)(a1:Int)(k0:zk1 (Option R)):Option R:=(aAD N k0 (fun z6=>(k0 (-1) z6)) N a0 ((a0.length:Nat):Int) 0 a1)
def F56:CfS R:=u2 (F55 N) 327 ⟨[pL [hI],.fn 339 [.ptr 0 0]],[(0,.box [pI])]⟩ (aCh N) fun f k=>f (qA k [0] ⟨[pI],[(0,.box [pI])]⟩)
theorem bJb:FOK (F56 N:CfS R) (aAo T):=uCk (bGJ N) bGy (Lp:=(cDD N)) (hl:=(aAi (l:=[(26,[0,1,7,8],aJF)]) (by kernel_rfl) ⟨(aAf (cCs N N)),trivial⟩))
def aB0 (a0:List Int)(a1:Int)(k0:Bool->Int->Option R):Option R:=(aCh N a0 a1 (fun y1 y2=>(k0 (decide (0<=y1)) y2)))
def F57:CfS R:=u2 (F56 N) 275 ⟨[pL [hI],.fn 339 [.ptr 0 0]],[(0,.box [pI])]⟩ (aB0 N) fun f k=>f (qA k [0] ⟨[pB],[(0,.box [pI])]⟩)
theorem bA7:FOK (F57 N:CfS R) (aAo T):=uCk (bJb N) bHV
def aIh (a0:Int)(a1:List Int)(a2:Int)(k0:Bool->Option R):Option R:=(aB0 N a1 a0 (fun y1 y2=>(k0 (!y1))))
def F58:CfS R:=u1 (F57 N) 300 ⟨[pI,pL [hI],pI],[]⟩ ⟨[pB],[]⟩ (aIh N)
theorem bID:FOK (F58 N:CfS R) (aAo T):=uCk (bA7 N) bMz
def aE8 (a0:List Int)(a1 a2:Int)(a3:List Int)(a4:Int)(a5:ByteArray)(a6:Int)(a7:Bool)(a8 a9:Nat)(a10:List S)(k0:Int->Option R):Option R:=(bif decide (a1=0)then (aHu N a4 a2 (fun y1=>(aAy N y1 2 k0)))else (bif decide (a1=1)then (aC6 N a4 0 (w64 (((a0.length:Nat):Int)-1)) (fun y3=>(bif (!y3)then (k0 6)else ((at? a0 a4).bind fun x4=>(aAy N (decide (x4=a2)) 25 k0)))))else (bif decide (a1=14)then (aC6 N a4 0 15 (fun y6=>(aAy N y6 2 k0)))else (bif a7 then (aAy N true 3 k0)else (aAy N (decide (a4=0)) 3 k0)))))
def F59:CfS R:=u1 (F58 N) 277 ⟨[pL [hI],.agg zb6,.agg [pS,pI,pB,.p (.fv []),.p (.fa)]],[]⟩ ⟨[pI],[]⟩ (aE8 N)
theorem bBt:FOK (F59 N:CfS R) (aAo T):=uCk (bID N) bPu
def aF6 (N:Nat)(a0:Int)(a1:List Int)(a2:Int)(k0:Bool->Option R):Option R:=(k0 true)
def F60:CfS R:=u1 (F59 N) 299 ⟨[pI,pL [hI],pI],[]⟩ ⟨[pB],[]⟩ (aF6 N)
theorem bIO:FOK (F60 N:CfS R) (aAo T):=uCk (bBt N) bMR
def H61:Nat->Option (List Sh):=fun n=>if n=12000 then some [hI]else if n=44000 then some [hI]else if n=66000 then some [hI]else none
def aBp (N:Nat)(k0:zk1 (zk9 (zk5 (Bool->Nat->Nat->List S->zk8 (zt2->Option R))))):zk4 (zk1 (zt2->zk1 (zk9 (zk5 (Bool->Nat->Nat->List S->zk8 (Option R))))))
 | 0,_,_,_,_,_,_,_,_,_,_,_,_,_,_,_,_=>none
 | n+1,b0,b1,b2,b3,b4,b5,b6,b7,b8,b9,b10,b11,b12,b13,b14,b15=>(bif decide (b2<b1)then ((at? b0 b2).bind fun x1=>((at? b3 x1).bind fun x2=>(bif aBU (b14.length+1) 8 then (aBp N k0 n b0 b1 (w64 (b2+1)) b3 b4 b5 b6 b7 b8 b9 b10 b11 b12 b13 (b14++[x2.2.1]) b15)else none)))else (k0 b4 b5 b6 b7 b8 b9 b10 b11 b12 b13 b14 b15 b3))
def P61_l0:SP:=⟨[(4,.ptr 0 0),(6,.ptr 1 0),(9,.ptr 2 0),(12,.own 3),(56,pL [hI]),(57,pI),(58,pI),(100002,.ptr 4 0),(100003,.ptr 5 0),(100004,.ptr 0 0)],[(0,.box [pL zs1]),(1,.box zb6),(2,.box [pS,pI,pB,.p (.fv []),.p (.fa)]),(3,.arr [hI]),(4,.box zb0),(5,.box [pL [hI]])]⟩
def cAF (n:Nat)(x:P61_l0.den)(k:KS R):Option R:=aBp N (fun r0 r1 r2 r3 r4 r5 r6 r7 r8 r9 r10 r11 r12=>k (.ex 0) ⟨[(6,.ptr 0 0),(9,.ptr 1 0),(12,.own 2),(100002,.ptr 3 0),(100003,.ptr 4 0),(100004,.ptr 5 0)],[(0,.box [dI r0,dI r1,dL [hI] r2,dI r3]),(1,.box [dS r4,dI r5,dB r6,.p (.fn r7 []),.p (.fn r8 r9)]),(2,.arr (.t [hI] r10)),(3,.box zd1),(4,.box [dL [hI] r11]),(5,.box [dL zs1 r12])]⟩) n x.1.2.2.2.2.1 x.1.2.2.2.2.2.1 x.1.2.2.2.2.2.2.1 x.2.1.1 x.2.2.1.1 x.2.2.1.2.1 x.2.2.1.2.2.1 x.2.2.1.2.2.2.1 x.2.2.2.1.1 x.2.2.2.1.2.1 x.2.2.2.1.2.2.1 x.2.2.2.1.2.2.2.1.1 x.2.2.2.1.2.2.2.2.1.1 x.2.2.2.1.2.2.2.2.1.2 x.2.2.2.2.1 x.2.2.2.2.2.2.1.1
theorem cCO:LpG T P61_l0 (cAF N (R:=R)) [4,6,9,12,56,57,58] aVL:=lpk (bIO N) 7962 (H:=H61)
def cCe:LpS R:=aCc noL 7962 (aAx P61_l0 (cAF N N))
def aAg (k0:zk3 (zt2->Option R))(b0:Bool)(b1:List Int)(b2:zt2)(b3 b4:Int)(b5:List Int)(b6:Int)(b7:ByteArray)(b8:Int)(b9:Bool)(b10 b11:Nat)(b12:List S):Option R:=(aAy N (decide (((b5.length:Nat):Int)=b8)) 10 (fun y1=>(aAy N (!b0) 9 (fun y2=>(aE8 N b1 b3 b4 b5 b6 b7 b8 b9 b10 b11 b12 (fun y3=>(aC8 N [y1,y2,y3] (fun y4=>(bif decide (y4≠0)then (k0 y4 b1 b2)else (aBp N (fun z5 z6 z7 z8 z9 z10 z11 z12 z13 z14 z15 z16 z17=>(bif decide (z12=299)then (aF6 N z6 z15 z8 (fun y18=>(aAy N y18 25 (fun y19=>(k0 y19 z16 z17)))))else (bif decide (z12=300)then (aIh N z6 z15 z8 (fun y20=>(aAy N y20 25 (fun y21=>(k0 y21 z16 z17)))))else (bif decide (z12=315)then (aDE N z6 z15 z8 (fun y22=>(aAy N y22 25 (fun y23=>(k0 y23 z16 z17)))))else (bif decide (z12=317)then (aDF N z6 z15 z8 (fun y24=>(aAy N y24 25 (fun y25=>(k0 y25 z16 z17)))))else (bif decide (z12=319)then (aDC N z6 z15 z8 (fun y26=>(aAy N y26 25 (fun y27=>(k0 y27 z16 z17)))))else (bif decide (z12=321)then (aF9 N z6 z15 z8 (fun y28=>(aAy N y28 25 (fun y29=>(k0 y29 z16 z17)))))else (bif decide (z12=324)then (aGI N z6 z15 z8 (fun y30=>(aAy N y30 25 (fun y31=>(k0 y31 z16 z17)))))else (bif decide (z12=341)then (aF5 N z6 z15 z8 (fun y32=>(aAy N y32 25 (fun y33=>(k0 y33 z16 z17)))))else none))))))))) N b5 ((b5.length:Nat):Int) 0 b2 b3 b4 b5 b6 b7 b8 b9 b10 b11 b12 [] b1))))))))))
def P61_j0:SP:=⟨[(3,.ptr 0 0),(4,.ptr 1 0),(6,.ptr 2 0),(9,.ptr 3 0),(10,pB),(100002,.ptr 4 0),(100003,.ptr 0 0),(100004,.ptr 1 0)],[(0,.box [pL [hI]]),(1,.box [pL zs1]),(2,.box zb6),(3,.box [pS,pI,pB,.p (.fv []),.p (.fa)]),(4,.box zb0)]⟩
def cAU (n:Nat)(x:P61_j0.den)(k:KS R):Option R:=match n with
 | 0=>none
 | _+1=>aAg N (fun r0 r1 r2=>k .ret ⟨[(7,dI r0),(100002,.ptr 0 0),(100003,.ptr 1 0),(100004,.ptr 2 0)],[(0,.box zd1),(1,.box [dL [hI] r1]),(2,.box [dL zs1 r2])]⟩) x.1.2.2.2.2.1 x.2.1.1 x.2.2.1.1 x.2.2.2.1.1 x.2.2.2.1.2.1 x.2.2.2.1.2.2.1 x.2.2.2.1.2.2.2.1 x.2.2.2.2.1.1 x.2.2.2.2.1.2.1 x.2.2.2.2.1.2.2.1 x.2.2.2.2.1.2.2.2.1.1 x.2.2.2.2.1.2.2.2.2.1.1 x.2.2.2.2.1.2.2.2.2.1.2
theorem cC5:LpG T P61_j0 (cAU N (R:=R)) [3,4,6,9,10] aVJ:=lpk (bIO N) 62 (H:=H61) (Lp:=(cCe N)) (hl:=(aAi (l:=[(7962,[4,6,9,12,56,57,58],aVL)]) (by kernel_rfl) ⟨(aAf (cCO N N)),trivial⟩))
def cDw:LpS R:=aCc (cCe N) 62 (aAx P61_j0 (cAU N 1))
def aDZ (a0 a1 a2:Int)(a3:List Int)(a4:Int)(a5:List Int)(a6:zt2)(k0:zk3 (zt2->Option R)):Option R:=(aC6 N a1 0 18 (fun y1=>(aAy N y1 15 (fun y2=>(aFy N a2 (fun y3=>(aAy N y3 2 (fun y4=>(aC8 N [y2,y4] (fun y5=>(bif decide (y5≠0)then (k0 y5 a5 a6)else (bif decide (a1=18)then (aAb N a3 a0 (fun y6 y7=>(aAg N k0 y6 a5 a6 a1 a2 a3 a4 (ByteArray.mk #[115,104,114]) 2 false 324 326 ([]:List S))))else (bif decide (a1=17)then (aAb N a3 a0 (fun y37 y38=>(aAg N k0 y37 a5 a6 a1 a2 a3 a4 (ByteArray.mk #[115,104,108]) 2 false 324 325 ([]:List S))))else (bif decide (a1=16)then (aAb N a3 a0 (fun y42 y43=>(aAg N k0 y42 a5 a6 a1 a2 a3 a4 (ByteArray.mk #[115,101,120,116]) 1 false 321 323 ([]:List S))))else (bif decide (a1=15)then (aAb N a3 a0 (fun y47 y48=>(aAg N k0 y47 a5 a6 a1 a2 a3 a4 (ByteArray.mk #[122,101,120,116]) 1 false 321 322 ([]:List S))))else (bif decide (a1=14)then (aAb N a3 a0 (fun y52 y53=>(aAg N k0 y52 a5 a6 a1 a2 a3 a4 (ByteArray.mk #[115,108,105,99,101]) 1 true 319 320 ([]:List S))))else (bif decide (a1=13)then (aAb N a3 a0 (fun y57 y58=>(aAg N k0 y57 a5 a6 a1 a2 a3 a4 (ByteArray.mk #[106,111,105,110]) 2 false 317 318 ([]:List S))))else (bif decide (a1=12)then (aAb N a3 a0 (fun y62 y63=>(aAg N k0 y62 a5 a6 a1 a2 a3 a4 (ByteArray.mk #[109,117,120]) 3 false 315 316 ([]:List S))))else (bif decide (a1=11)then (aAb N a3 a0 (fun y67 y68=>(aAg N k0 y67 a5 a6 a1 a2 a3 a4 (ByteArray.mk #[115,108,116]) 2 false 341 342 ([.cp [.fn 313 []]]:List S))))else (bif decide (a1=10)then (aAb N a3 a0 (fun y72 y73=>(aAg N k0 y72 a5 a6 a1 a2 a3 a4 (ByteArray.mk #[108,116]) 2 false 341 342 ([.cp [.fn 312 []]]:List S))))else (bif decide (a1=9)then (aAb N a3 a0 (fun y77 y78=>(aAg N k0 y77 a5 a6 a1 a2 a3 a4 (ByteArray.mk #[101,113]) 2 false 341 342 ([.cp [.fn 311 []]]:List S))))else (bif decide (a1=8)then (aAb N a3 a0 (fun y82 y83=>(aAg N k0 y82 a5 a6 a1 a2 a3 a4 (ByteArray.mk #[109,117,108]) 2 false 300 340 ([.cp [.fn 309 []]]:List S))))else (bif decide (a1=7)then (aAb N a3 a0 (fun y87 y88=>(aAg N k0 y87 a5 a6 a1 a2 a3 a4 (ByteArray.mk #[115,117,98]) 2 false 300 340 ([.cp [.fn 308 []]]:List S))))else (bif decide (a1=6)then (aAb N a3 a0 (fun y92 y93=>(aAg N k0 y92 a5 a6 a1 a2 a3 a4 (ByteArray.mk #[97,100,100]) 2 false 300 340 ([.cp [.fn 307 []]]:List S))))else (bif decide (a1=5)then (aAb N a3 a0 (fun y97 y98=>(aAg N k0 y97 a5 a6 a1 a2 a3 a4 (ByteArray.mk #[120,111,114]) 2 false 300 340 ([.cp [.fn 306 []]]:List S))))else (bif decide (a1=4)then (aAb N a3 a0 (fun y102 y103=>(aAg N k0 y102 a5 a6 a1 a2 a3 a4 (ByteArray.mk #[111,114]) 2 false 300 340 ([.cp [.fn 305 []]]:List S))))else (bif decide (a1=3)then (aAb N a3 a0 (fun y107 y108=>(aAg N k0 y107 a5 a6 a1 a2 a3 a4 (ByteArray.mk #[97,110,100]) 2 false 300 340 ([.cp [.fn 304 []]]:List S))))else (bif decide (a1=2)then (aAb N a3 a0 (fun y112 y113=>(aAg N k0 y112 a5 a6 a1 a2 a3 a4 (ByteArray.mk #[110,111,116]) 1 false 300 301 ([]:List S))))else (bif decide (a1=1)then (aAb N a3 a0 (fun y117 y118=>(aAg N k0 y117 a5 a6 a1 a2 a3 a4 (ByteArray.mk #[108,101,97,102]) 0 true 299 298 ([]:List S))))else (bif decide (a1=0)then (aAb N a3 a0 (fun y122 y123=>(aAg N k0 y122 a5 a6 a1 a2 a3 a4 (ByteArray.mk #[99,111,110,115,116]) 0 true 299 298 ([]:List S))))else none))))))))))))))))))))))))))))))
def P61:AP:=⟨[pI,.agg zb6,.ptr 0 0,.ptr 1 0,.ptr 2 0],[(0,.box zb0),(1,.box [pL [hI]]),(2,.box [pL zs1])]⟩
def E61 (x:P61.den)(k:KK R):Option R:=aDZ N x.1.1 x.1.2.1.1 x.1.2.1.2.1 x.1.2.1.2.2.1 x.1.2.1.2.2.2.1 x.2.2.1.1 x.2.2.2.1.1 (fun r0 r1 r2=>k [0,1,2] [dI r0] [(0,.box zd1),(1,.box [dL [hI] r1]),(2,.box [dL zs1 r2])])
def F61:CfS R:=uC (F60 N) 273 P61 (E61 N)
theorem bK2:FOK (F61 N:CfS R) (aAo T):=uCk (bIO N) bIq (H:=H61) (Lp:=(cDw N)) (hl:=(aAi (l:=[(62,[3,4,6,9,10],aVJ)]) (by kernel_rfl) ⟨(aAf (cC5 N 1)),trivial⟩))
def aCk (k0:zk1 (List Int->zt2->Option R))(k1:List Int->zt2->Option R):Nat->zt2->zk1 (List Int->zt2->Option R)
 | 0,_,_,_,_,_=>none
 | n+1,b0,b1,b2,b3,b4=>(bif decide (b2<b1)then ((at? b0 b2).bind fun x1=>(aDZ N b2 x1.1 x1.2.1 x1.2.2.1 x1.2.2.2 b3 b4 (fun y2 y3 y4=>(bif decide (y2≠0)then (k0 b2 y2 y3 y4)else (aCk k0 k1 n b0 b1 (w64 (b2+1)) y3 y4)))))else (k1 b3 b4))
def P62_l0:SP:=⟨[(1,.fn 273 [.ptr 0 0,.ptr 1 0,.ptr 2 0]),(9,pL zs1),(10,pI),(11,pI),(100001,.fn 273 [.ptr 0 0,.ptr 1 0,.ptr 2 0])],[(0,.box zb0),(1,.box [pL [hI]]),(2,.box [pL zs1])]⟩
def cAW (n:Nat)(x:P62_l0.den)(k:KS R):Option R:=aCk N (fun r0 r1 r2 r3=>k .ret ⟨[(4,dI r0),(5,dI r1),(100001,.fn 273 [.ptr 0 0,.ptr 1 0,.ptr 2 0])],[(0,.box zd1),(1,.box [dL [hI] r2]),(2,.box [dL zs1 r3])]⟩) (fun r0 r1=>k (.ex 0) ⟨[(100001,.fn 273 [.ptr 0 0,.ptr 1 0,.ptr 2 0])],[(0,.box zd1),(1,.box [dL [hI] r0]),(2,.box [dL zs1 r1])]⟩) n x.1.2.1 x.1.2.2.1 x.1.2.2.2.1 x.2.2.1.1 x.2.2.2.1.1
theorem cCL:LpG T P62_l0 (cAW N (R:=R)) [1,9,10,11] aWg:=lpk (bK2 N) 26
def cDP:LpS R:=aCc noL 26 (aAx P62_l0 (cAW N N))
def aG4 (a0:zt2)(a1:List Int)(a2:zt2)(k0:zk1 (List Int->zt2->Option R)):Option R:=(aCk N k0 (fun z9 z10=>(k0 0 0 z9 z10)) N a0 ((a0.length:Nat):Int) 0 a1 a2)
def P62:AP:=⟨[pL zs1,.fn 273 [.ptr 0 0,.ptr 1 0,.ptr 2 0]],[(0,.box zb0),(1,.box [pL [hI]]),(2,.box [pL zs1])]⟩
def E62 (x:P62.den)(k:KK R):Option R:=aG4 N x.1.1 x.2.2.1.1 x.2.2.2.1.1 (fun r0 r1 r2 r3=>k [0,1,2] [dI r0,dI r1] [(0,.box zd1),(1,.box [dL [hI] r2]),(2,.box [dL zs1 r3])])
def F62:CfS R:=uC (F61 N) 272 P62 (E62 N)
theorem bKD:FOK (F62 N:CfS R) (aAo T):=uCk (bK2 N) bLQ (Lp:=(cDP N)) (hl:=(aAi (l:=[(26,[1,9,10,11],aWg)]) (by kernel_rfl) ⟨(aAf (cCL N N)),trivial⟩))
def aD8 (a0:List Int)(a1:zt2)(k0:zk1 (Option R)):Option R:=(bif decide (40<((a0.length:Nat):Int))then (k0 0 8)else (aC4 N a0 (fun y1 y2=>(bif decide (y2≠0)then (k0 y1 y2)else (bif decide (400<((a1.length:Nat):Int))then (k0 0 8)else (aFg N (aG4 N a1 a0 a1 (fun y3 y4 y5 y6=>(k0 y3 y4)))))))))
def F63:CfS R:=u1 (F62 N) 226 ⟨[pL [hI],pL zs1],[]⟩ ⟨[pI,pI],[]⟩ (aD8 N)
theorem bKj:FOK (F63 N:CfS R) (aAo T):=uCk (bKD N) bNv
def aEy (a0:ByteArray)(a1:zt7)(a2:zt1)(a3:zt2)(a4:zt0)(a5:zt7)(a6:zt6)(k0:zk1 (zk0 (Option R))):Option R:=(aFI N a0 a1 a2 a3 a4 a5 a6 (fun y1=>(aD8 N y1 a3 (fun y2 y3=>(k0 y2 y3 a0 a1 a2 a3 a4 a5 a6)))))
def F64:CfS R:=u2 (F63 N) 225 ⟨[.ptr 0 0],[(0,.box zb2)]⟩ (aEy N) fun f k=>f (qA k [0] ⟨[pI,pI],[(0,.box zb2)]⟩)
theorem bKr:FOK (F64 N:CfS R) (aAo T):=uCk (bKj N) bMG
def aFc (a0:Int)(k0:Bool->Option R):Option R:=(aAF N a0 1 16 k0)
def F65:CfS R:=u1 (F64 N) 220 ⟨[pI],[]⟩ ⟨[pB],[]⟩ (aFc N)
theorem bGQ:FOK (F65 N:CfS R) (aAo T):=uCk (bKr N) bPz
def aF4 (a0 a1:Int)(k0:Bool->Option R):Option R:=(bif decide (0<=a1)then (bif decide (a1<0)then none else (aAF N a0 0 (w64 ((aPi .i64 1 a1)-1)) k0))else (k0 false))
def F66:CfS R:=u1 (F65 N) 203 ⟨[pI,pI],[]⟩ ⟨[pB],[]⟩ (aF4 N)
theorem bHC:FOK (F66 N:CfS R) (aAo T):=uCk (bGQ N) bPD
def H67:Nat->Option (List Sh):=fun n=>if n=15000 then some [hI]else none
def aCO (a0:Int)(a1:ByteArray)(a2 a3 a4 a5:Int)(a6:Nat)(a7:zt3)(k0:Int->zk7 (Option R)):Option R:=(aCs N a1 a6 a7 (fun y1 y2 y3=>(aAF N a2 0 1 (fun y4=>(aAj N y4 15 (fun y5=>(aFc N a3 (fun y6=>(aAj N y6 2 (fun y7=>(aAY N [y1,y5,y7] (fun y8=>(bif decide (y8≠0)then (k0 y8 y2 y3)else (aF4 N a4 a3 (fun y9=>(bif y9 then (aAF N a5 0 3 (fun y10=>(aAj N y10 2 (fun y11=>(k0 y11 y2 y3)))))else (aAj N false 2 (fun y12=>(k0 y12 y2 y3)))))))))))))))))))
def F67:CfS R:=u2 (F66 N) 224 ⟨[pI,.agg [pS,pI,pI,pI,pI],.ptr 0 0],[(0,.box [.mp 1]),(1,.mp .s .b)]⟩ (aCO N) fun f k=>f (qA k [0,1] ⟨[pI],[(0,.box [.mp 1]),(1,.mp .s .b)]⟩)
theorem bHO:FOK (F67 N:CfS R) (aAo T):=uCk (bHC N) bOp (H:=H67)
def aAt (k0:zk1 (zk7 (Option R)))(k1:zk7 (Option R)):Nat->zt1->zk1 (zk7 (Option R))
 | 0,_,_,_,_,_=>none
 | n+1,b0,b1,b2,b3,b4=>(bif decide (b2<b1)then ((at? b0 b2).bind fun x1=>(aCO N b2 x1.1 x1.2.1 x1.2.2.1 x1.2.2.2.1 x1.2.2.2.2 b3 b4 (fun y2 y3 y4=>(bif decide (y2≠0)then (k0 b2 y2 y3 y4)else (aAt k0 k1 n b0 b1 (w64 (b2+1)) y3 y4)))))else (k1 b3 b4))
def P68_l0:SP:=⟨[(1,.fn 224 [.ptr 0 0]),(9,pL zs2),(10,pI),(11,pI),(100001,.fn 224 [.ptr 0 0]),(100002,.mp 1)],[(0,.box [.mp 1]),(1,.mp .s .b)]⟩
def cAh:Nat->P68_l0.den->KS R->Option R:=eS P68_l0 fun k=>aAt N (qS k .ret ⟨[(4,pI),(5,pI),(100001,.fn 224 [.ptr 0 0]),(100002,.mp 1)],[(0,.box [.mp 1]),(1,.mp .s .b)]⟩) (qS k (.ex 0) ⟨[(100001,.fn 224 [.ptr 0 0]),(100002,.mp 1)],[(0,.box [.mp 1]),(1,.mp .s .b)]⟩)
theorem cDc:LpG T P68_l0 (cAh N (R:=R)) [1,9,10,11] aTt:=lpk (bHO N) 26
def cDN:LpS R:=aCc noL 26 (aAx P68_l0 (cAh N N))
def aBT (a0:zt1)(a1:Nat)(a2:zt3)(k0:zk1 (zk7 (Option R))):Option R:=(aAt N k0 (fun z9 z10=>(k0 0 0 z9 z10)) N a0 ((a0.length:Nat):Int) 0 a1 a2)
def F68:CfS R:=u2 (F67 N) 223 ⟨[pL zs2,.fn 224 [.ptr 0 0]],[(0,.box [.mp 1]),(1,.mp .s .b)]⟩ (aBT N) fun f k=>f (qA k [0,1] ⟨[pI,pI],[(0,.box [.mp 1]),(1,.mp .s .b)]⟩)
theorem bIc:FOK (F68 N:CfS R) (aAo T):=uCk (bHO N) bLq (Lp:=(cDN N)) (hl:=(aAi (l:=[(26,[1,9,10,11],aTt)]) (by kernel_rfl) ⟨(aAf (cDc N N)),trivial⟩))
def aEE (a0:ByteArray)(a1:zt7)(a2:zt1)(a3:zt2)(a4:zt0)(a5:zt7)(a6:zt6)(a7:Nat)(a8:zt3)(k0:zk1 (zk0 (zk7 (Option R)))):Option R:=(aBT N a2 a7 a8 (fun y1 y2 y3 y4=>(k0 y1 y2 a0 a1 a2 a3 a4 a5 a6 y3 y4)))
def F69:CfS R:=u2 (F68 N) 222 ⟨[.ptr 0 0,.ptr 1 0],[(0,.box zb2),(1,.box [.mp 2]),(2,.mp .s .b)]⟩ (aEE N) fun f k=>f (qA k [0,1,2] ⟨[pI,pI],[(0,.box zb2),(1,.box [.mp 2]),(2,.mp .s .b)]⟩)
theorem bBf:FOK (F69 N:CfS R) (aAo T):=uCk (bIc N) bO1
def aEK (a0:ByteArray)(a1:zt7)(a2:zt1)(a3:zt2)(a4:zt0)(a5:zt7)(a6:zt6)(k0:zk1 (zk0 (Option R))):Option R:=(aAj N (decide ((w64 (((a1.length:Nat):Int)+((a2.length:Nat):Int)))<=40)) 8 (fun y1=>(k0 0 y1 a0 a1 a2 a3 a4 a5 a6)))
def F70:CfS R:=u2 (F69 N) 221 ⟨[.ptr 0 0],[(0,.box zb2)]⟩ (aEK N) fun f k=>f (qA k [0] ⟨[pI,pI],[(0,.box zb2)]⟩)
theorem bI7:FOK (F70 N:CfS R) (aAo T):=uCk (bBf N) bL8
def H71:Nat->Option (List Sh):=fun n=>if n=15000 then some [hI]else none
def aDS (a0:Int)(a1:ByteArray)(a2:Int)(a3:Nat)(a4:zt3)(a5:Nat)(a6:zt3)(k0:Int->zk7 (zk7 (Option R))):Option R:=(aCs N a1 a3 a4 (fun y1 y2 y3=>(aCs N a1 a5 a6 (fun y4 y5 y6=>(aFc N a2 (fun y7=>(aAj N y7 2 (fun y8=>(aAY N [y1,y4,y8] (fun y9=>(k0 y9 y2 y3 y5 y6)))))))))))
def F71:CfS R:=u2 (F70 N) 218 ⟨[pI,.agg [pS,pI],.ptr 0 0,.ptr 2 0],[(0,.box [.mp 1]),(1,.mp .s .b),(2,.box [.mp 3]),(3,.mp .s .b)]⟩ (aDS N) fun f k=>f (qA k [0,2,1,3] ⟨[pI],[(0,.box [.mp 1]),(1,.mp .s .b),(2,.box [.mp 3]),(3,.mp .s .b)]⟩)
theorem bJQ:FOK (F71 N:CfS R) (aAo T):=uCk (bI7 N) bQd (H:=H71)
def aAB (k0:zk1 (zk7 (zk7 (Option R))))(k1:zk7 (zk7 (Option R))):Nat->zt7->zk1 (zk7 (zk7 (Option R)))
 | 0,_,_,_,_,_,_,_=>none
 | n+1,b0,b1,b2,b3,b4,b5,b6=>(bif decide (b2<b1)then ((at? b0 b2).bind fun x1=>(aDS N b2 x1.1 x1.2 b3 b4 b5 b6 (fun y2 y3 y4 y5 y6=>(bif decide (y2≠0)then (k0 b2 y2 y3 y4 y5 y6)else (aAB k0 k1 n b0 b1 (w64 (b2+1)) y3 y4 y5 y6)))))else (k1 b3 b4 b5 b6))
def P72_l0:SP:=⟨[(1,.fn 218 [.ptr 0 0,.ptr 2 0]),(9,pL [.s,hI]),(10,pI),(11,pI),(100001,.fn 218 [.ptr 0 0,.ptr 2 0]),(100002,.mp 1),(100003,.mp 3)],[(0,.box [.mp 1]),(1,.mp .s .b),(2,.box [.mp 3]),(3,.mp .s .b)]⟩
def bZ1:Nat->P72_l0.den->KS R->Option R:=eS P72_l0 fun k=>aAB N (qS k .ret ⟨[(4,pI),(5,pI),(100001,.fn 218 [.ptr 0 0,.ptr 2 0]),(100002,.mp 1),(100003,.mp 3)],[(0,.box [.mp 1]),(1,.mp .s .b),(2,.box [.mp 3]),(3,.mp .s .b)]⟩) (qS k (.ex 0) ⟨[(100001,.fn 218 [.ptr 0 0,.ptr 2 0]),(100002,.mp 1),(100003,.mp 3)],[(0,.box [.mp 1]),(1,.mp .s .b),(2,.box [.mp 3]),(3,.mp .s .b)]⟩)
theorem cCp:LpG T P72_l0 (bZ1 N (R:=R)) [1,9,10,11] aV0:=lpk (bJQ N) 26
def cDq:LpS R:=aCc noL 26 (aAx P72_l0 (bZ1 N N))
def aCe (a0:zt7)(a1:Nat)(a2:zt3)(a3:Nat)(a4:zt3)(k0:zk1 (zk7 (zk7 (Option R)))):Option R:=(aAB N k0 (fun z13 z14 z15 z16=>(k0 0 0 z13 z14 z15 z16)) N a0 ((a0.length:Nat):Int) 0 a1 a2 a3 a4)
def F72:CfS R:=u2 (F71 N) 217 ⟨[pL [.s,hI],.fn 218 [.ptr 0 0,.ptr 2 0]],[(0,.box [.mp 1]),(1,.mp .s .b),(2,.box [.mp 3]),(3,.mp .s .b)]⟩ (aCe N) fun f k=>f (qA k [0,2,1,3] ⟨[pI,pI],[(0,.box [.mp 1]),(1,.mp .s .b),(2,.box [.mp 3]),(3,.mp .s .b)]⟩)
theorem bJ0:FOK (F72 N:CfS R) (aAo T):=uCk (bJQ N) bLU (Lp:=(cDq N)) (hl:=(aAi (l:=[(26,[1,9,10,11],aV0)]) (by kernel_rfl) ⟨(aAf (cCp N N)),trivial⟩))
def aEH (a0:ByteArray)(a1:zt7)(a2:zt1)(a3:zt2)(a4:zt0)(a5:zt7)(a6:zt6)(a7:Nat)(a8:zt3)(a9:Nat)(a10:zt3)(k0:zk1 (zk0 (zk7 (zk7 (Option R))))):Option R:=(aCe N a1 a7 a8 a9 a10 (fun y1 y2 y3 y4 y5 y6=>(k0 y1 y2 a0 a1 a2 a3 a4 a5 a6 y3 y4 y5 y6)))
def F73:CfS R:=u2 (F72 N) 216 ⟨[.ptr 0 0,.ptr 1 0,.ptr 3 0],[(0,.box zb2),(1,.box [.mp 2]),(2,.mp .s .b),(3,.box [.mp 4]),(4,.mp .s .b)]⟩ (aEH N) fun f k=>f (qA k [0,1,3,2,4] ⟨[pI,pI],[(0,.box zb2),(1,.box [.mp 2]),(2,.mp .s .b),(3,.box [.mp 4]),(4,.mp .s .b)]⟩)
theorem bIS:FOK (F73 N:CfS R) (aAo T):=uCk (bJ0 N) bPo
def H74:Nat->Option (List Sh):=fun n=>if n=12000 then some [hI]else none
def aEv (a0:ByteArray)(a1:zt7)(a2:zt1)(a3:zt2)(a4:zt0)(a5:zt7)(a6:zt6)(k0:zk1 (zk0 (Option R))):Option R:=(aFt N a0 (fun y1=>(aAj N y1 4 (fun y2=>(aAj N (decide (((a1.length:Nat):Int)<=12)) 8 (fun y3=>(aAY N [y2,y3] (fun y4=>(k0 0 y4 a0 a1 a2 a3 a4 a5 a6)))))))))
def F74:CfS R:=u2 (F73 N) 214 ⟨[.ptr 0 0],[(0,.box zb2)]⟩ (aEv N) fun f k=>f (qA k [0] ⟨[pI,pI],[(0,.box zb2)]⟩)
theorem aWQ:FOK (F74 N:CfS R) (aAo T):=uCk (bIS N) bPc (H:=H74)
def H75:Nat->Option (List Sh):=fun n=>if n=4000 then some [.s,.b]else if n=7000 then some [.s,.b]else if n=8000 then some [.s,.b]else if n=9000 then some [.s,.b]else none
def aAa (k0:zk1 (Option R))(k1:Option R):Nat->Int->zk0 (zk7 (zk7 (zk7 (zk7 (Option R)))))
 | 0,_,_,_,_,_,_,_,_,_,_,_,_,_,_,_,_=>none
 | n+1,b0,b1,b2,b3,b4,b5,b6,b7,b8,b9,b10,b11,b12,b13,b14,b15=>(bif decide (b0<11)then (bif decide (b0=10)then (aEj N b1 b2 b3 b4 b5 b6 b7 (fun y1 y2 y3 y4 y5 y6 y7 y8 y9=>(bif decide (y2≠0)then (k0 y1 y2)else (aAa k0 k1 n (w64 (b0+1)) y3 y4 y5 y6 y7 y8 y9 b8 b9 b10 b11 b12 b13 b14 b15))))else (bif decide (b0=9)then (aEm N b1 b2 b3 b4 b5 b6 b7 (fun y10 y11 y12 y13 y14 y15 y16 y17 y18=>(bif decide (y11≠0)then (k0 y10 y11)else (aAa k0 k1 n (w64 (b0+1)) y12 y13 y14 y15 y16 y17 y18 b8 b9 b10 b11 b12 b13 b14 b15))))else (bif decide (b0=8)then (aEF N b1 b2 b3 b4 b5 b6 b7 b14 b15 (fun y19 y20 y21 y22 y23 y24 y25 y26 y27 y28 y29=>(bif decide (y20≠0)then (k0 y19 y20)else (aAa k0 k1 n (w64 (b0+1)) y21 y22 y23 y24 y25 y26 y27 b8 b9 b10 b11 b12 b13 y28 y29))))else (bif decide (b0=7)then (aEC N b1 b2 b3 b4 b5 b6 b7 (fun y30 y31 y32 y33 y34 y35 y36 y37 y38=>(bif decide (y31≠0)then (k0 y30 y31)else (aAa k0 k1 n (w64 (b0+1)) y32 y33 y34 y35 y36 y37 y38 b8 b9 b10 b11 b12 b13 b14 b15))))else (bif decide (b0=6)then (aED N b1 b2 b3 b4 b5 b6 b7 b12 b13 (fun y39 y40 y41 y42 y43 y44 y45 y46 y47 y48 y49=>(bif decide (y40≠0)then (k0 y39 y40)else (aAa k0 k1 n (w64 (b0+1)) y41 y42 y43 y44 y45 y46 y47 b8 b9 b10 b11 y48 y49 b14 b15))))else (bif decide (b0=5)then (aEx N b1 b2 b3 b4 b5 b6 b7 (fun y50 y51 y52 y53 y54 y55 y56 y57 y58=>(bif decide (y51≠0)then (k0 y50 y51)else (aAa k0 k1 n (w64 (b0+1)) y52 y53 y54 y55 y56 y57 y58 b8 b9 b10 b11 b12 b13 b14 b15))))else (bif decide (b0=4)then (aEy N b1 b2 b3 b4 b5 b6 b7 (fun y59 y60 y61 y62 y63 y64 y65 y66 y67=>(bif decide (y60≠0)then (k0 y59 y60)else (aAa k0 k1 n (w64 (b0+1)) y61 y62 y63 y64 y65 y66 y67 b8 b9 b10 b11 b12 b13 b14 b15))))else (bif decide (b0=3)then (aEE N b1 b2 b3 b4 b5 b6 b7 b8 b9 (fun y68 y69 y70 y71 y72 y73 y74 y75 y76 y77 y78=>(bif decide (y69≠0)then (k0 y68 y69)else (aAa k0 k1 n (w64 (b0+1)) y70 y71 y72 y73 y74 y75 y76 y77 y78 b10 b11 b12 b13 b14 b15))))else (bif decide (b0=2)then (aEK N b1 b2 b3 b4 b5 b6 b7 (fun y79 y80 y81 y82 y83 y84 y85 y86 y87=>(bif decide (y80≠0)then (k0 y79 y80)else (aAa k0 k1 n (w64 (b0+1)) y81 y82 y83 y84 y85 y86 y87 b8 b9 b10 b11 b12 b13 b14 b15))))else (bif decide (b0=1)then (aEH N b1 b2 b3 b4 b5 b6 b7 b8 b9 b10 b11 (fun y88 y89 y90 y91 y92 y93 y94 y95 y96 y97 y98 y99 y100=>(bif decide (y89≠0)then (k0 y88 y89)else (aAa k0 k1 n (w64 (b0+1)) y90 y91 y92 y93 y94 y95 y96 y97 y98 y99 y100 b12 b13 b14 b15))))else (bif decide (b0=0)then (aEv N b1 b2 b3 b4 b5 b6 b7 (fun y101 y102 y103 y104 y105 y106 y107 y108 y109=>(bif decide (y102≠0)then (k0 y101 y102)else (aAa k0 k1 n (w64 (b0+1)) y103 y104 y105 y106 y107 y108 y109 b8 b9 b10 b11 b12 b13 b14 b15))))else none)))))))))))else k1)
def P75_l0:SP:=⟨[(29,.agg [.fn 214 [.ptr 0 0],.fn 216 [.ptr 0 0,.ptr 1 0,.ptr 3 0],.fn 221 [.ptr 0 0],.fn 222 [.ptr 0 0,.ptr 1 0],.fn 225 [.ptr 0 0],.fn 227 [.ptr 0 0],.fn 228 [.ptr 0 0,.ptr 5 0],.fn 235 [.ptr 0 0],.fn 236 [.ptr 0 0,.ptr 7 0],.fn 240 [.ptr 0 0],.fn 241 [.ptr 0 0]]),(30,pI)],[(0,.box zb2),(1,.box [.mp 2]),(2,.mp .s .b),(3,.box [.mp 4]),(4,.mp .s .b),(5,.box [.mp 6]),(6,.mp .s .b),(7,.box [.mp 8]),(8,.mp .s .b)]⟩
def aZZ:Nat->P75_l0.den->KS R->Option R:=eS P75_l0 fun k=>aAa N (qS k .ret ⟨[(2,pI),(3,pI)],[]⟩) (qS k (.ex 0) ⟨[],[]⟩)
theorem bJr:LpG T P75_l0 (aZZ N (R:=R)) [29,30] aR8:=lpk (aWQ N) 250 (H:=H75)
def bKe:LpS R:=aCc noL 250 (aAx P75_l0 (aZZ N N))
def aDr (a0:ByteArray)(a1:zt7)(a2:zt1)(a3:zt2)(a4:zt0)(a5:zt7)(a6:zt6)(k0:zk1 (Option R)):Option R:=(aAa N k0 (k0 0 0) N 0 a0 a1 a2 a3 a4 a5 a6 0 [] 0 [] 0 [] 0 [])
def F75:CfS R:=u1 (F74 N) 162 ⟨[.agg zb2],[]⟩ ⟨[pI,pI],[]⟩ (aDr N)
theorem bAG:FOK (F75 N:CfS R) (aAo T):=uCk (aWQ N) bLf (H:=H75) (Lp:=(bKe N)) (hl:=(aAi (l:=[(250,[29,30],aR8)]) (by kernel_rfl) ⟨(aAf (bJr N N)),trivial⟩))
def aIF (a0:ByteArray)(a1:zt7)(a2:zt1)(a3:zt2)(a4:zt0)(a5:zt7)(a6:zt6)(k0:zk0 (Int->Option R)):Option R:=(aDr N a0 a1 a2 a3 a4 a5 a6 (fun y1 y2=>(k0 a0 a1 a2 a3 a4 a5 a6 y2)))
def F76:CfS R:=u1 (F75 N) 145 ⟨[.agg zb2],[]⟩ ⟨[.agg zb2,pI],[]⟩ (aIF N)
theorem bHY:FOK (F76 N:CfS R) (aAo T):=uCk (bAG N) bOb
def aFR (a0:ByteArray)(a1:zt7)(a2:zt1)(a3:zt2)(a4:zt0)(a5:zt7)(a6:zt6)(a7:Int)(k0:Int->Option R):Option R:=(aAF N a7 0 (w64 (((a4.length:Nat):Int)-1)) (fun y1=>(aAj N y1 6 k0)))
def F77:CfS R:=u1 (F76 N) 147 ⟨[.agg zb2,pI],[]⟩ ⟨[pI],[]⟩ (aFR N)
theorem bJa:FOK (F77 N:CfS R) (aAo T):=uCk (bHY N) bPS
def aEB (a0 a1:Int)(a2:ByteArray)(a3:zt7)(a4:zt1)(a5:zt2)(a6:zt0)(a7:zt7)(a8:zt6)(k0:Int->zk0 (Option R)):Option R:=((at? a3 a0).bind fun x1=>(aF4 N a1 x1.2 (fun y2=>(aAj N y2 2 (fun y3=>(k0 y3 a2 a3 a4 a5 a6 a7 a8))))))
def F78:CfS R:=u2 (F77 N) 202 ⟨[pI,pI,.ptr 0 0],[(0,.box zb2)]⟩ (aEB N) fun f k=>f (qA k [0] ⟨[pI],[(0,.box zb2)]⟩)
theorem bKI:FOK (F78 N:CfS R) (aAo T):=uCk (bJa N) bP0
def aBE (k0:zk1 (zk0 (Option R)))(k1:zk0 (Option R)):zk4 (zk1 (zk0 (Option R)))
 | 0,_,_,_,_,_,_,_,_,_,_=>none
 | n+1,b0,b1,b2,b3,b4,b5,b6,b7,b8,b9=>(bif decide (b2<b1)then ((at? b0 b2).bind fun x1=>(aEB N b2 x1 b3 b4 b5 b6 b7 b8 b9 (fun y2 y3 y4 y5 y6 y7 y8 y9=>(bif decide (y2≠0)then (k0 b2 y2 y3 y4 y5 y6 y7 y8 y9)else (aBE k0 k1 n b0 b1 (w64 (b2+1)) y3 y4 y5 y6 y7 y8 y9)))))else (k1 b3 b4 b5 b6 b7 b8 b9))
def P79_l0:SP:=⟨[(1,.fn 202 [.ptr 0 0]),(9,pL [hI]),(10,pI),(11,pI),(100001,.fn 202 [.ptr 0 0])],[(0,.box zb2)]⟩
def cAV:Nat->P79_l0.den->KS R->Option R:=eS P79_l0 fun k=>aBE N (qS k .ret ⟨[(4,pI),(5,pI),(100001,.fn 202 [.ptr 0 0])],[(0,.box zb2)]⟩) (qS k (.ex 0) ⟨[(100001,.fn 202 [.ptr 0 0])],[(0,.box zb2)]⟩)
theorem cCt:LpG T P79_l0 (cAV N (R:=R)) [1,9,10,11] aJZ:=lpk (bKI N) 26
def cDp:LpS R:=aCc noL 26 (aAx P79_l0 (cAV N N))
def aC5 (a0:List Int)(a1:ByteArray)(a2:zt7)(a3:zt1)(a4:zt2)(a5:zt0)(a6:zt7)(a7:zt6)(k0:zk1 (zk0 (Option R))):Option R:=(aBE N k0 (fun z19 z20 z21 z22 z23 z24 z25=>(k0 0 0 z19 z20 z21 z22 z23 z24 z25)) N a0 ((a0.length:Nat):Int) 0 a1 a2 a3 a4 a5 a6 a7)
def F79:CfS R:=u2 (F78 N) 201 ⟨[pL [hI],.fn 202 [.ptr 0 0]],[(0,.box zb2)]⟩ (aC5 N) fun f k=>f (qA k [0] ⟨[pI,pI],[(0,.box zb2)]⟩)
theorem bKW:FOK (F79 N:CfS R) (aAo T):=uCk (bKI N) bGx (Lp:=(cDp N)) (hl:=(aAi (l:=[(26,[1,9,10,11],aJZ)]) (by kernel_rfl) ⟨(aAf (cCt N N)),trivial⟩))
def aFq (a0:ByteArray)(a1:zt7)(a2:zt1)(a3:zt2)(a4:zt0)(a5:zt7)(a6:zt6)(a7:List Int)(k0:Int->Option R):Option R:=(bif decide (((a7.length:Nat):Int)≠((a1.length:Nat):Int))then (k0 10)else (aC5 N a7 a0 a1 a2 a3 a4 a5 a6 (fun y1 y2 y3 y4 y5 y6 y7 y8 y9=>(k0 y2))))
def F80:CfS R:=u1 (F79 N) 148 ⟨[.agg zb2,pL [hI]],[]⟩ ⟨[pI],[]⟩ (aFq N)
theorem bIt:FOK (F80 N:CfS R) (aAo T):=uCk (bKW N) bMJ
def aEV (a0 a1:Int)(a2:ByteArray)(a3:zt7)(a4:zt1)(a5:zt2)(a6:zt0)(a7:zt7)(a8:zt6)(k0:Int->zk0 (Option R)):Option R:=((at? a4 a0).bind fun x1=>(aF4 N a1 x1.2.2.1 (fun y2=>(aAj N y2 2 (fun y3=>(k0 y3 a2 a3 a4 a5 a6 a7 a8))))))
def F81:CfS R:=u2 (F80 N) 204 ⟨[pI,pI,.ptr 0 0],[(0,.box zb2)]⟩ (aEV N) fun f k=>f (qA k [0] ⟨[pI],[(0,.box zb2)]⟩)
theorem aZf:FOK (F81 N:CfS R) (aAo T):=uCk (bIt N) bNd
def aBL (k0:zk1 (zk0 (Option R)))(k1:zk0 (Option R)):zk4 (zk1 (zk0 (Option R)))
 | 0,_,_,_,_,_,_,_,_,_,_=>none
 | n+1,b0,b1,b2,b3,b4,b5,b6,b7,b8,b9=>(bif decide (b2<b1)then ((at? b0 b2).bind fun x1=>(aEV N b2 x1 b3 b4 b5 b6 b7 b8 b9 (fun y2 y3 y4 y5 y6 y7 y8 y9=>(bif decide (y2≠0)then (k0 b2 y2 y3 y4 y5 y6 y7 y8 y9)else (aBL k0 k1 n b0 b1 (w64 (b2+1)) y3 y4 y5 y6 y7 y8 y9)))))else (k1 b3 b4 b5 b6 b7 b8 b9))
def P82_l0:SP:=⟨[(1,.fn 204 [.ptr 0 0]),(9,pL [hI]),(10,pI),(11,pI),(100001,.fn 204 [.ptr 0 0])],[(0,.box zb2)]⟩
def bAy:Nat->P82_l0.den->KS R->Option R:=eS P82_l0 fun k=>aBL N (qS k .ret ⟨[(4,pI),(5,pI),(100001,.fn 204 [.ptr 0 0])],[(0,.box zb2)]⟩) (qS k (.ex 0) ⟨[(100001,.fn 204 [.ptr 0 0])],[(0,.box zb2)]⟩)
theorem bJM:LpG T P82_l0 (bAy N (R:=R)) [1,9,10,11] aJZ:=lpk (aZf N) 26
def bOr:LpS R:=aCc noL 26 (aAx P82_l0 (bAy N N))
def aC9 (a0:List Int)(a1:ByteArray)(a2:zt7)(a3:zt1)(a4:zt2)(a5:zt0)(a6:zt7)(a7:zt6)(k0:zk1 (zk0 (Option R))):Option R:=(aBL N k0 (fun z19 z20 z21 z22 z23 z24 z25=>(k0 0 0 z19 z20 z21 z22 z23 z24 z25)) N a0 ((a0.length:Nat):Int) 0 a1 a2 a3 a4 a5 a6 a7)
def F82:CfS R:=u2 (F81 N) 201 ⟨[pL [hI],.fn 204 [.ptr 0 0]],[(0,.box zb2)]⟩ (aC9 N) fun f k=>f (qA k [0] ⟨[pI,pI],[(0,.box zb2)]⟩)
theorem bI3:FOK (F82 N:CfS R) (aAo T):=uCk (aZf N) bGx (Lp:=(bOr N)) (hl:=(aAi (l:=[(26,[1,9,10,11],aJZ)]) (by kernel_rfl) ⟨(aAf (bJM N N)),trivial⟩))
def aFL (a0:ByteArray)(a1:zt7)(a2:zt1)(a3:zt2)(a4:zt0)(a5:zt7)(a6:zt6)(a7:List Int)(k0:Int->Option R):Option R:=(bif decide (((a7.length:Nat):Int)≠((a2.length:Nat):Int))then (k0 10)else (aC9 N a7 a0 a1 a2 a3 a4 a5 a6 (fun y1 y2 y3 y4 y5 y6 y7 y8 y9=>(k0 y2))))
def F83:CfS R:=u1 (F82 N) 149 ⟨[.agg zb2,pL [hI]],[]⟩ ⟨[pI],[]⟩ (aFL N)
theorem bH1:FOK (F83 N:CfS R) (aAo T):=uCk (bI3 N) bMr
def aDi (N:Nat)(k0:List (List Int)->Int->Option R):Nat->List (List Int)->Int->List (List Int)->zk1 (Option R)
 | 0,_,_,_,_,_=>none
 | n+1,b0,b1,b2,b3,b4=>(bif decide (b4<b3)then ((at? b2 b4).bind fun x1=>(bif decide ((w64 (b1+((x1.length:Nat):Int)))<0)then none else (aDi N k0 n b0 (w64 (b1+((x1.length:Nat):Int))) b2 b3 (w64 (b4+1)))))else (k0 b0 b1))
def P84_l0:SP:=⟨[(0,pL zs6),(3,pI),(9,pL zs6),(10,pI),(11,pI)],[]⟩
def cAX:Nat->P84_l0.den->KS R->Option R:=eS P84_l0 fun k=>aDi N (qS k (.ex 0) ⟨[(0,pL zs6),(3,pI)],[]⟩)
theorem cCT:LpG T P84_l0 (cAX N (R:=R)) [0,3,9,10,11] aWi:=lpk (bH1 N) 58
def cCX:LpS R:=aCc noL 58 (aAx P84_l0 (cAX N N))
def aDh (N:Nat)(k0:List Int->Option R):Nat->List (List Int)->zk1 (List Int->Option R)
 | 0,_,_,_,_=>none
 | n+1,b0,b1,b2,b3=>(bif decide (b2<b1)then ((at? b0 b2).bind fun x1=>(bif aBU (b3.length+x1.length) 8 then (aDh N k0 n b0 b1 (w64 (b2+1)) (b3++x1))else none))else (k0 b3))
def P84_l1:SP:=⟨[(6,.own 0),(25,pL zs6),(26,pI),(27,pI)],[(0,.arr [hI])]⟩
def cAJ:Nat->P84_l1.den->KS R->Option R:=eS P84_l1 fun k=>aDh N (qS k (.ex 2) ⟨[(6,.own 0)],[(0,.arr [hI])]⟩)
theorem cC4:LpG T P84_l1 (cAJ N (R:=R)) [6,25,26,27] aS7:=lpk (bH1 N) 250 (Lp:=(cCX N))
def cDs:LpS R:=aCc (cCX N) 250 (aAx P84_l1 (cAJ N N))
def aFE (a0:List (List Int))(k0:List Int->Option R):Option R:=(aDi N (fun z2 z3=>(bif aX8 8 z3 then (aDh N k0 N z2 ((z2.length:Nat):Int) 0 [])else none)) N a0 0 a0 ((a0.length:Nat):Int) 0)
def F84:CfS R:=u1 (F83 N) 207 ⟨[pL zs6],[]⟩ ⟨[pL [hI]],[]⟩ (aFE N)
theorem bGK:FOK (F84 N:CfS R) (aAo T):=uCk (bH1 N) bHv (Lp:=(cDs N)) (hl:=(aAi (l:=[(58,[0,3,9,10,11],aWi),(250,[6,25,26,27],aS7)]) (by kernel_rfl) ⟨(aDL (by decide) (aAf (cCT N N))),(aAf (cC4 N N)),trivial⟩))
def aGa (a0:List Int)(a1:zt2)(k0:Int->Option R):Option R:=(aD8 N a0 a1 (fun y1 y2=>(k0 y2)))
def F85:CfS R:=u1 (F84 N) 258 ⟨[pL [hI],pL zs1],[]⟩ ⟨[pI],[]⟩ (aGa N)
theorem bAr:FOK (F85 N:CfS R) (aAo T):=uCk (bGK N) bN2
def aHx (a0 a1:Int)(a2:List Int)(k0:zk3 (Option R)):Option R:=((at? a2 a0).bind fun x1=>(aHu N a1 x1 (fun y2=>(aAy N y2 2 (fun y3=>(k0 y3 a2))))))
def F86:CfS R:=u2 (F85 N) 261 ⟨[pI,pI,.ptr 0 0],[(0,.box [pL [hI]])]⟩ (aHx N) fun f k=>f (qA k [0] ⟨[pI],[(0,.box [pL [hI]])]⟩)
theorem bJ6:FOK (F86 N:CfS R) (aAo T):=uCk (bAr N) bNO
def aCT (k0:zk1 (List Int->Option R))(k1:List Int->Option R):zk4 (zk1 (List Int->Option R))
 | 0,_,_,_,_=>none
 | n+1,b0,b1,b2,b3=>(bif decide (b2<b1)then ((at? b0 b2).bind fun x1=>(aHx N b2 x1 b3 (fun y2 y3=>(bif decide (y2≠0)then (k0 b2 y2 y3)else (aCT k0 k1 n b0 b1 (w64 (b2+1)) y3)))))else (k1 b3))
def P87_l0:SP:=⟨[(1,.fn 261 [.ptr 0 0]),(9,pL [hI]),(10,pI),(11,pI),(100001,.fn 261 [.ptr 0 0])],[(0,.box [pL [hI]])]⟩
def cAe:Nat->P87_l0.den->KS R->Option R:=eS P87_l0 fun k=>aCT N (qS k .ret ⟨[(4,pI),(5,pI),(100001,.fn 261 [.ptr 0 0])],[(0,.box [pL [hI]])]⟩) (qS k (.ex 0) ⟨[(100001,.fn 261 [.ptr 0 0])],[(0,.box [pL [hI]])]⟩)
theorem cCw:LpG T P87_l0 (cAe N (R:=R)) [1,9,10,11] aNh:=lpk (bJ6 N) 26
def cDM:LpS R:=aCc noL 26 (aAx P87_l0 (cAe N N))
def aEW (a0 a1:List Int)(k0:zk1 (List Int->Option R)):Option R:=(aCT N k0 (fun z7=>(k0 0 0 z7)) N a0 ((a0.length:Nat):Int) 0 a1)
def F87:CfS R:=u2 (F86 N) 260 ⟨[pL [hI],.fn 261 [.ptr 0 0]],[(0,.box [pL [hI]])]⟩ (aEW N) fun f k=>f (qA k [0] ⟨[pI,pI],[(0,.box [pL [hI]])]⟩)
theorem bJT:FOK (F87 N:CfS R) (aAo T):=uCk (bJ6 N) bJ3 (Lp:=(cDM N)) (hl:=(aAi (l:=[(26,[1,9,10,11],aNh)]) (by kernel_rfl) ⟨(aAf (cCw N N)),trivial⟩))
def aGB (N:Nat)(a0 a1:Int)(a2:List Int)(a3:Int)(a4 a5:List Int)(k0:Int->Option R):Option R:=((at? a5 0).bind fun x1=>((at? a5 1).bind fun x2=>(bif decide ((min x2 a1)<0)then none else (k0 (aLT .i64 x1 (min x2 a1))))))
def F88:CfS R:=u1 (F87 N) 326 ⟨[.agg zb6,pL [hI],pL [hI]],[]⟩ ⟨[pI],[]⟩ (aGB N)
theorem aZ6:FOK (F88 N:CfS R) (aAo T):=uCk (bJT N) bNh
def aDP (N:Nat)(a0 a1:Int)(k0:Int->Option R):Option R:=(bif decide (a1<0)then none else (k0 (bLe .i64 a0 (w64 ((aPi .i64 1 a1)-1)))))
def F89:CfS R:=u1 (F88 N) 302 ⟨[pI,pI],[]⟩ ⟨[pI],[]⟩ (aDP N)
theorem bH0:FOK (F89 N:CfS R) (aAo T):=uCk (aZ6 N) bPb
def aGC (a0 a1:Int)(a2:List Int)(a3:Int)(a4 a5:List Int)(k0:Int->Option R):Option R:=((at? a5 0).bind fun x1=>((at? a5 1).bind fun x2=>(bif decide ((min x2 a1)<0)then none else (aDP N (aPi .i64 x1 (min x2 a1)) a1 k0))))
def F90:CfS R:=u1 (F89 N) 325 ⟨[.agg zb6,pL [hI],pL [hI]],[]⟩ ⟨[pI],[]⟩ (aGC N)
theorem bIw:FOK (F90 N:CfS R) (aAo T):=uCk (bH0 N) bPl
def aHj (N:Nat)(a0 a1:Int)(k0:Int->Option R):Option R:=(bif decide ((w64 (a1-1))<0)then none else (bif decide ((bLe .i64 (aLT .i64 a0 (w64 (a1-1))) 1)=1)then (bif decide (a1<0)then none else (k0 (w64 (a0-(aPi .i64 1 a1)))))else (k0 a0)))
def F91:CfS R:=u1 (F90 N) 314 ⟨[pI,pI],[]⟩ ⟨[pI],[]⟩ (aHj N)
theorem bGO:FOK (F91 N:CfS R) (aAo T):=uCk (bIw N) bM2
def aGE (a0 a1:Int)(a2:List Int)(a3:Int)(a4 a5:List Int)(k0:Int->Option R):Option R:=((at? a5 0).bind fun x1=>((at? a4 0).bind fun x2=>(aHj N x1 x2 (fun y3=>(aDP N y3 a1 k0)))))
def F92:CfS R:=u1 (F91 N) 323 ⟨[.agg zb6,pL [hI],pL [hI]],[]⟩ ⟨[pI],[]⟩ (aGE N)
theorem aZV:FOK (F92 N:CfS R) (aAo T):=uCk (bGO N) bPe
def aGv (N:Nat)(a0 a1:Int)(a2:List Int)(a3:Int)(a4 a5:List Int)(k0:Int->Option R):Option R:=((at? a5 0).bind fun x1=>(k0 x1))
def F93:CfS R:=u1 (F92 N) 322 ⟨[.agg zb6,pL [hI],pL [hI]],[]⟩ ⟨[pI],[]⟩ (aGv N)
theorem bGS:FOK (F93 N:CfS R) (aAo T):=uCk (aZV N) bPY
def aGw (a0 a1:Int)(a2:List Int)(a3:Int)(a4 a5:List Int)(k0:Int->Option R):Option R:=((at? a5 0).bind fun x1=>(bif decide (a3<0)then none else (aDP N (aLT .i64 x1 a3) a1 k0)))
def F94:CfS R:=u1 (F93 N) 320 ⟨[.agg zb6,pL [hI],pL [hI]],[]⟩ ⟨[pI],[]⟩ (aGw N)
theorem bJz:FOK (F94 N:CfS R) (aAo T):=uCk (bGS N) bML
def aGu (N:Nat)(a0 a1:Int)(a2:List Int)(a3:Int)(a4 a5:List Int)(k0:Int->Option R):Option R:=((at? a5 0).bind fun x1=>((at? a4 1).bind fun x2=>(bif decide (x2<0)then none else ((at? a5 1).bind fun x3=>(k0 (orI .i64 (aPi .i64 x1 x2) x3))))))
def F95:CfS R:=u1 (F94 N) 318 ⟨[.agg zb6,pL [hI],pL [hI]],[]⟩ ⟨[pI],[]⟩ (aGu N)
theorem bBh:FOK (F95 N:CfS R) (aAo T):=uCk (bJz N) bQg
def aGx (N:Nat)(a0 a1:Int)(a2:List Int)(a3:Int)(a4 a5:List Int)(k0:Int->Option R):Option R:=((at? a5 0).bind fun x1=>(bif decide (x1=1)then ((at? a5 1).bind fun x2=>(k0 x2))else ((at? a5 2).bind fun x3=>(k0 x3))))
def F96:CfS R:=u1 (F95 N) 316 ⟨[.agg zb6,pL [hI],pL [hI]],[]⟩ ⟨[pI],[]⟩ (aGx N)
theorem aV1:FOK (F96 N:CfS R) (aAo T):=uCk (bBh N) bL9
def aGy (a0 a1 a2:Int)(k0:Bool->Option R):Option R:=(aHj N a0 a2 (fun y1=>(aHj N a1 a2 (fun y2=>(k0 (decide (y1<y2)))))))
def F97:CfS R:=u1 (F96 N) 313 ⟨[pI,pI,pI],[]⟩ ⟨[pB],[]⟩ (aGy N)
theorem bHZ:FOK (F97 N:CfS R) (aAo T):=uCk (aV1 N) bMi
def aHK (N:Nat)(a0:Bool)(k0:Int->Option R):Option R:=(bif a0 then (k0 1)else (k0 0))
def F98:CfS R:=u1 (F97 N) 343 ⟨[pB],[]⟩ ⟨[pI],[]⟩ (aHK N)
theorem bIk:FOK (F98 N:CfS R) (aAo T):=uCk (bHZ N) bNy
def aDB (a0 a1:Int)(a2:List Int)(a3:Int)(a4 a5:List Int)(k0:Int->Option R):Option R:=((at? a5 0).bind fun x1=>((at? a5 1).bind fun x2=>((at? a4 0).bind fun x3=>(aGy N x1 x2 x3 (fun y4=>(aHK N y4 k0))))))
def F99:CfS R:=u1 (F98 N) 342 ⟨[.agg zb6,pL [hI],pL [hI],.p (.cp [.fn 313 []])],[]⟩ ⟨[pI],[]⟩ (aDB N)
theorem aZq:FOK (F99 N:CfS R) (aAo T):=uCk (bIk N) bJ2
def aGz (N:Nat)(a0 a1 a2:Int)(k0:Bool->Option R):Option R:=(k0 (decide (a0<a1)))
def bSf:CfS R:=u1 (F99 N) 312 ⟨[pI,pI,pI],[]⟩ ⟨[pB],[]⟩ (aGz N)
theorem bB1:FOK (bSf N:CfS R) (aAo T):=uCk (aZq N) bOm
def aDA (a0 a1:Int)(a2:List Int)(a3:Int)(a4 a5:List Int)(k0:Int->Option R):Option R:=((at? a5 0).bind fun x1=>((at? a5 1).bind fun x2=>((at? a4 0).bind fun x3=>(aGz N x1 x2 x3 (fun y4=>(aHK N y4 k0))))))
def bS7:CfS R:=u1 (bSf N) 342 ⟨[.agg zb6,pL [hI],pL [hI],.p (.cp [.fn 312 []])],[]⟩ ⟨[pI],[]⟩ (aDA N)
theorem aPA:FOK (bS7 N:CfS R) (aAo T):=uCk (bB1 N) bJ2
def aGW (N:Nat)(a0 a1 a2:Int)(k0:Bool->Option R):Option R:=(k0 (decide (a0=a1)))
def bQM:CfS R:=u1 (bS7 N) 311 ⟨[pI,pI,pI],[]⟩ ⟨[pB],[]⟩ (aGW N)
theorem bBz:FOK (bQM N:CfS R) (aAo T):=uCk (aPA N) bMq
def aDM (a0 a1:Int)(a2:List Int)(a3:Int)(a4 a5:List Int)(k0:Int->Option R):Option R:=((at? a5 0).bind fun x1=>((at? a5 1).bind fun x2=>((at? a4 0).bind fun x3=>(aGW N x1 x2 x3 (fun y4=>(aHK N y4 k0))))))
def bRh:CfS R:=u1 (bQM N) 342 ⟨[.agg zb6,pL [hI],pL [hI],.p (.cp [.fn 311 []])],[]⟩ ⟨[pI],[]⟩ (aDM N)
theorem bE9:FOK (bRh N:CfS R) (aAo T):=uCk (bBz N) bJ2
def aGS (N:Nat)(a0 a1:Int)(k0:Int->Option R):Option R:=(k0 (w64 (a0*a1)))
def bSv:CfS R:=u1 (bRh N) 309 ⟨[pI,pI],[]⟩ ⟨[pI],[]⟩ (aGS N)
theorem bBX:FOK (bSv N:CfS R) (aAo T):=uCk (bE9 N) bNI
def aD6 (a0 a1:Int)(a2:List Int)(a3:Int)(a4 a5:List Int)(k0:Int->Option R):Option R:=((at? a5 0).bind fun x1=>((at? a5 1).bind fun x2=>(aGS N x1 x2 (fun y3=>(aDP N y3 a1 k0)))))
def bQv:CfS R:=u1 (bSv N) 340 ⟨[.agg zb6,pL [hI],pL [hI],.p (.cp [.fn 309 []])],[]⟩ ⟨[pI],[]⟩ (aD6 N)
theorem bCu:FOK (bQv N:CfS R) (aAo T):=uCk (bBX N) bAV
def aGU (N:Nat)(a0 a1:Int)(k0:Int->Option R):Option R:=(k0 (w64 (a0-a1)))
def bRr:CfS R:=u1 (bQv N) 308 ⟨[pI,pI],[]⟩ ⟨[pI],[]⟩ (aGU N)
theorem aU8:FOK (bRr N:CfS R) (aAo T):=uCk (bCu N) bP9
def aD7 (a0 a1:Int)(a2:List Int)(a3:Int)(a4 a5:List Int)(k0:Int->Option R):Option R:=((at? a5 0).bind fun x1=>((at? a5 1).bind fun x2=>(aGU N x1 x2 (fun y3=>(aDP N y3 a1 k0)))))
def bRs:CfS R:=u1 (bRr N) 340 ⟨[.agg zb6,pL [hI],pL [hI],.p (.cp [.fn 308 []])],[]⟩ ⟨[pI],[]⟩ (aD7 N)
theorem bCd:FOK (bRs N:CfS R) (aAo T):=uCk (aU8 N) bAV
def aGN (N:Nat)(a0 a1:Int)(k0:Int->Option R):Option R:=(k0 (w64 (a0+a1)))
def bQQ:CfS R:=u1 (bRs N) 307 ⟨[pI,pI],[]⟩ ⟨[pI],[]⟩ (aGN N)
theorem aSb:FOK (bQQ N:CfS R) (aAo T):=uCk (bCd N) bOt
def aEb (a0 a1:Int)(a2:List Int)(a3:Int)(a4 a5:List Int)(k0:Int->Option R):Option R:=((at? a5 0).bind fun x1=>((at? a5 1).bind fun x2=>(aGN N x1 x2 (fun y3=>(aDP N y3 a1 k0)))))
def bQk:CfS R:=u1 (bQQ N) 340 ⟨[.agg zb6,pL [hI],pL [hI],.p (.cp [.fn 307 []])],[]⟩ ⟨[pI],[]⟩ (aEb N)
theorem bDh:FOK (bQk N:CfS R) (aAo T):=uCk (aSb N) bAV
def aG8 (N:Nat)(a0 a1:Int)(k0:Int->Option R):Option R:=(k0 (bQA .i64 a0 a1))
def bQ1:CfS R:=u1 (bQk N) 306 ⟨[pI,pI],[]⟩ ⟨[pI],[]⟩ (aG8 N)
theorem bDu:FOK (bQ1 N:CfS R) (aAo T):=uCk (bDh N) bOS
def aD9 (a0 a1:Int)(a2:List Int)(a3:Int)(a4 a5:List Int)(k0:Int->Option R):Option R:=((at? a5 0).bind fun x1=>((at? a5 1).bind fun x2=>(aG8 N x1 x2 (fun y3=>(aDP N y3 a1 k0)))))
def bSS:CfS R:=u1 (bQ1 N) 340 ⟨[.agg zb6,pL [hI],pL [hI],.p (.cp [.fn 306 []])],[]⟩ ⟨[pI],[]⟩ (aD9 N)
theorem bDT:FOK (bSS N:CfS R) (aAo T):=uCk (bDu N) bAV
def aGV (N:Nat)(a0 a1:Int)(k0:Int->Option R):Option R:=(k0 (orI .i64 a0 a1))
def bTq:CfS R:=u1 (bSS N) 305 ⟨[pI,pI],[]⟩ ⟨[pI],[]⟩ (aGV N)
theorem aUN:FOK (bTq N:CfS R) (aAo T):=uCk (bDT N) bPI
def aEd (a0 a1:Int)(a2:List Int)(a3:Int)(a4 a5:List Int)(k0:Int->Option R):Option R:=((at? a5 0).bind fun x1=>((at? a5 1).bind fun x2=>(aGV N x1 x2 (fun y3=>(aDP N y3 a1 k0)))))
def bQH:CfS R:=u1 (bTq N) 340 ⟨[.agg zb6,pL [hI],pL [hI],.p (.cp [.fn 305 []])],[]⟩ ⟨[pI],[]⟩ (aEd N)
theorem bCH:FOK (bQH N:CfS R) (aAo T):=uCk (aUN N) bAV
def aHd (N:Nat)(a0 a1:Int)(k0:Int->Option R):Option R:=(k0 (bLe .i64 a0 a1))
def bR0:CfS R:=u1 (bQH N) 304 ⟨[pI,pI],[]⟩ ⟨[pI],[]⟩ (aHd N)
theorem aWT:FOK (bR0 N:CfS R) (aAo T):=uCk (bCH N) bNw
def aEa (a0 a1:Int)(a2:List Int)(a3:Int)(a4 a5:List Int)(k0:Int->Option R):Option R:=((at? a5 0).bind fun x1=>((at? a5 1).bind fun x2=>(aHd N x1 x2 (fun y3=>(aDP N y3 a1 k0)))))
def bRQ:CfS R:=u1 (bR0 N) 340 ⟨[.agg zb6,pL [hI],pL [hI],.p (.cp [.fn 304 []])],[]⟩ ⟨[pI],[]⟩ (aEa N)
theorem aPV:FOK (bRQ N:CfS R) (aAo T):=uCk (aWT N) bAV
def aGM (a0 a1:Int)(a2:List Int)(a3:Int)(a4 a5:List Int)(k0:Int->Option R):Option R:=((at? a5 0).bind fun x1=>(aDP N (bQN .i64 x1) a1 k0))
def bQ4:CfS R:=u1 (bRQ N) 301 ⟨[.agg zb6,pL [hI],pL [hI]],[]⟩ ⟨[pI],[]⟩ (aGM N)
theorem bF3:FOK (bQ4 N:CfS R) (aAo T):=uCk (aPV N) bOw
def aFk (N:Nat)(a0 a1:Int)(a2:List Int)(a3:Int)(a4 a5:List Int)(k0:Int->Option R):Option R:=(k0 a3)
def bRA:CfS R:=u1 (bQ4 N) 298 ⟨[.agg zb6,pL [hI],pL [hI]],[]⟩ ⟨[pI],[]⟩ (aFk N)
theorem bFo:FOK (bRA N:CfS R) (aAo T):=uCk (bF3 N) bMw
def cDX:Nat->Option (List Sh):=fun n=>if n=19000 then some [hI]else if n=26000 then some [hI]else none
def aGs (N:Nat)(k0:zk1 (List Int->zk3 (List Int->Option R))):Nat->zt2->zk8 (zk1 (zk1 (List Int->zk3 (List Int->Option R))))
 | 0,_,_,_,_,_,_,_,_,_,_,_=>none
 | n+1,b0,b1,b2,b3,b4,b5,b6,b7,b8,b9,b10=>(bif decide (b4<b3)then ((at? b2 b4).bind fun x1=>((at? b0 x1).bind fun x2=>(bif aBU (b9.length+1) 8 then ((at? b1 x1).bind fun x3=>(bif aBU (b10.length+1) 8 then (aGs N k0 n b0 b1 b2 b3 (w64 (b4+1)) b5 b6 b7 b8 (b9++[x2.2.1]) (b10++[x3]))else none))else none)))else (k0 b5 b6 b7 b8 b9 b10))
def P118_l0:SP:=⟨[(0,.p (.cp [.ks (ByteArray.mk #[99,111,110,115,116]),.ki .i64 0,.kb true,.fn 299 [],.fn 298 [],.ks (ByteArray.mk #[108,101,97,102]),.ki .i64 0,.kb true,.fn 299 [],.fn 298 [],.ks (ByteArray.mk #[110,111,116]),.ki .i64 1,.kb false,.fn 300 [],.fn 301 [],.ks (ByteArray.mk #[97,110,100]),.ki .i64 2,.kb false,.fn 300 [],.fn 340 [.cp [.fn 304 []]],.ks (ByteArray.mk #[111,114]),.ki .i64 2,.kb false,.fn 300 [],.fn 340 [.cp [.fn 305 []]],.ks (ByteArray.mk #[120,111,114]),.ki .i64 2,.kb false,.fn 300 [],.fn 340 [.cp [.fn 306 []]],.ks (ByteArray.mk #[97,100,100]),.ki .i64 2,.kb false,.fn 300 [],.fn 340 [.cp [.fn 307 []]],.ks (ByteArray.mk #[115,117,98]),.ki .i64 2,.kb false,.fn 300 [],.fn 340 [.cp [.fn 308 []]],.ks (ByteArray.mk #[109,117,108]),.ki .i64 2,.kb false,.fn 300 [],.fn 340 [.cp [.fn 309 []]],.ks (ByteArray.mk #[101,113]),.ki .i64 2,.kb false,.fn 341 [],.fn 342 [.cp [.fn 311 []]],.ks (ByteArray.mk #[108,116]),.ki .i64 2,.kb false,.fn 341 [],.fn 342 [.cp [.fn 312 []]],.ks (ByteArray.mk #[115,108,116]),.ki .i64 2,.kb false,.fn 341 [],.fn 342 [.cp [.fn 313 []]],.ks (ByteArray.mk #[109,117,120]),.ki .i64 3,.kb false,.fn 315 [],.fn 316 [],.ks (ByteArray.mk #[106,111,105,110]),.ki .i64 2,.kb false,.fn 317 [],.fn 318 [],.ks (ByteArray.mk #[115,108,105,99,101]),.ki .i64 1,.kb true,.fn 319 [],.fn 320 [],.ks (ByteArray.mk #[122,101,120,116]),.ki .i64 1,.kb false,.fn 321 [],.fn 322 [],.ks (ByteArray.mk #[115,101,120,116]),.ki .i64 1,.kb false,.fn 321 [],.fn 323 [],.ks (ByteArray.mk #[115,104,108]),.ki .i64 2,.kb false,.fn 324 [],.fn 325 [],.ks (ByteArray.mk #[115,104,114]),.ki .i64 2,.kb false,.fn 324 [],.fn 326 []])),(1,pL zs1),(3,pL [hI]),(6,.ptr 0 0),(9,.own 1),(10,.own 2),(14,pL [hI]),(15,pI),(16,pI)],[(0,.box zb6),(1,.arr [hI]),(2,.arr [hI])]⟩
def bY7 (n:Nat)(x:P118_l0.den)(k:KS R):Option R:=aGs N (fun r0 r1 r2 r3 r4 r5=>k (.ex 0) ⟨[(0,.p (.cp [.s (ByteArray.mk #[99,111,110,115,116]),.i .i64 0,.b true,.fn 299 [],.fn 298 [],.s (ByteArray.mk #[108,101,97,102]),.i .i64 0,.b true,.fn 299 [],.fn 298 [],.s (ByteArray.mk #[110,111,116]),.i .i64 1,.b false,.fn 300 [],.fn 301 [],.s (ByteArray.mk #[97,110,100]),.i .i64 2,.b false,.fn 300 [],.fn 340 [.cp [.fn 304 []]],.s (ByteArray.mk #[111,114]),.i .i64 2,.b false,.fn 300 [],.fn 340 [.cp [.fn 305 []]],.s (ByteArray.mk #[120,111,114]),.i .i64 2,.b false,.fn 300 [],.fn 340 [.cp [.fn 306 []]],.s (ByteArray.mk #[97,100,100]),.i .i64 2,.b false,.fn 300 [],.fn 340 [.cp [.fn 307 []]],.s (ByteArray.mk #[115,117,98]),.i .i64 2,.b false,.fn 300 [],.fn 340 [.cp [.fn 308 []]],.s (ByteArray.mk #[109,117,108]),.i .i64 2,.b false,.fn 300 [],.fn 340 [.cp [.fn 309 []]],.s (ByteArray.mk #[101,113]),.i .i64 2,.b false,.fn 341 [],.fn 342 [.cp [.fn 311 []]],.s (ByteArray.mk #[108,116]),.i .i64 2,.b false,.fn 341 [],.fn 342 [.cp [.fn 312 []]],.s (ByteArray.mk #[115,108,116]),.i .i64 2,.b false,.fn 341 [],.fn 342 [.cp [.fn 313 []]],.s (ByteArray.mk #[109,117,120]),.i .i64 3,.b false,.fn 315 [],.fn 316 [],.s (ByteArray.mk #[106,111,105,110]),.i .i64 2,.b false,.fn 317 [],.fn 318 [],.s (ByteArray.mk #[115,108,105,99,101]),.i .i64 1,.b true,.fn 319 [],.fn 320 [],.s (ByteArray.mk #[122,101,120,116]),.i .i64 1,.b false,.fn 321 [],.fn 322 [],.s (ByteArray.mk #[115,101,120,116]),.i .i64 1,.b false,.fn 321 [],.fn 323 [],.s (ByteArray.mk #[115,104,108]),.i .i64 2,.b false,.fn 324 [],.fn 325 [],.s (ByteArray.mk #[115,104,114]),.i .i64 2,.b false,.fn 324 [],.fn 326 []])),(6,.ptr 0 0),(9,.own 1),(10,.own 2)],[(0,.box [dI r0,dI r1,dL [hI] r2,dI r3]),(1,.arr (.t [hI] r4)),(2,.arr (.t [hI] r5))]⟩) n x.1.2.1 x.1.2.2.1 x.1.2.2.2.2.2.2.1 x.1.2.2.2.2.2.2.2.1 x.1.2.2.2.2.2.2.2.2.1 x.2.1.1 x.2.1.2.1 x.2.1.2.2.1 x.2.1.2.2.2.1 x.2.2.1 x.2.2.2.1
theorem cBv:LpG T P118_l0 (bY7 N (R:=R)) [0,1,3,6,9,10,14,15,16] aUW:=lpk (bFo N) 58 (H:=cDX)
def cCi:LpS R:=aCc noL 58 (aAx P118_l0 (bY7 N N))
def aJA (a0:zt2)(a1 a2:Int)(a3:List Int)(a4:Int)(a5:List Int)(k0:Int->Option R):Option R:=(aGs N (fun z4 z5 z6 z7 z8 z9=>(bif decide (z4=18)then (aGB N z4 z5 z6 z7 z8 z9 k0)else (bif decide (z4=17)then (aGC N z4 z5 z6 z7 z8 z9 k0)else (bif decide (z4=16)then (aGE N z4 z5 z6 z7 z8 z9 k0)else (bif decide (z4=15)then (aGv N z4 z5 z6 z7 z8 z9 k0)else (bif decide (z4=14)then (aGw N z4 z5 z6 z7 z8 z9 k0)else (bif decide (z4=13)then (aGu N z4 z5 z6 z7 z8 z9 k0)else (bif decide (z4=12)then (aGx N z4 z5 z6 z7 z8 z9 k0)else (bif decide (z4=11)then (aDB N z4 z5 z6 z7 z8 z9 k0)else (bif decide (z4=10)then (aDA N z4 z5 z6 z7 z8 z9 k0)else (bif decide (z4=9)then (aDM N z4 z5 z6 z7 z8 z9 k0)else (bif decide (z4=8)then (aD6 N z4 z5 z6 z7 z8 z9 k0)else (bif decide (z4=7)then (aD7 N z4 z5 z6 z7 z8 z9 k0)else (bif decide (z4=6)then (aEb N z4 z5 z6 z7 z8 z9 k0)else (bif decide (z4=5)then (aD9 N z4 z5 z6 z7 z8 z9 k0)else (bif decide (z4=4)then (aEd N z4 z5 z6 z7 z8 z9 k0)else (bif decide (z4=3)then (aEa N z4 z5 z6 z7 z8 z9 k0)else (bif decide (z4=2)then (aGM N z4 z5 z6 z7 z8 z9 k0)else (bif decide (z4=1)then (aFk N z4 z5 z6 z7 z8 z9 k0)else (bif decide (z4=0)then (aFk N z4 z5 z6 z7 z8 z9 k0)else none)))))))))))))))))))) N a0 a5 a3 ((a3.length:Nat):Int) 0 a1 a2 a3 a4 [] [])
def P118:AP:=⟨[.p (.cp [.ks (ByteArray.mk #[99,111,110,115,116]),.ki .i64 0,.kb true,.fn 299 [],.fn 298 [],.ks (ByteArray.mk #[108,101,97,102]),.ki .i64 0,.kb true,.fn 299 [],.fn 298 [],.ks (ByteArray.mk #[110,111,116]),.ki .i64 1,.kb false,.fn 300 [],.fn 301 [],.ks (ByteArray.mk #[97,110,100]),.ki .i64 2,.kb false,.fn 300 [],.fn 340 [.cp [.fn 304 []]],.ks (ByteArray.mk #[111,114]),.ki .i64 2,.kb false,.fn 300 [],.fn 340 [.cp [.fn 305 []]],.ks (ByteArray.mk #[120,111,114]),.ki .i64 2,.kb false,.fn 300 [],.fn 340 [.cp [.fn 306 []]],.ks (ByteArray.mk #[97,100,100]),.ki .i64 2,.kb false,.fn 300 [],.fn 340 [.cp [.fn 307 []]],.ks (ByteArray.mk #[115,117,98]),.ki .i64 2,.kb false,.fn 300 [],.fn 340 [.cp [.fn 308 []]],.ks (ByteArray.mk #[109,117,108]),.ki .i64 2,.kb false,.fn 300 [],.fn 340 [.cp [.fn 309 []]],.ks (ByteArray.mk #[101,113]),.ki .i64 2,.kb false,.fn 341 [],.fn 342 [.cp [.fn 311 []]],.ks (ByteArray.mk #[108,116]),.ki .i64 2,.kb false,.fn 341 [],.fn 342 [.cp [.fn 312 []]],.ks (ByteArray.mk #[115,108,116]),.ki .i64 2,.kb false,.fn 341 [],.fn 342 [.cp [.fn 313 []]],.ks (ByteArray.mk #[109,117,120]),.ki .i64 3,.kb false,.fn 315 [],.fn 316 [],.ks (ByteArray.mk #[106,111,105,110]),.ki .i64 2,.kb false,.fn 317 [],.fn 318 [],.ks (ByteArray.mk #[115,108,105,99,101]),.ki .i64 1,.kb true,.fn 319 [],.fn 320 [],.ks (ByteArray.mk #[122,101,120,116]),.ki .i64 1,.kb false,.fn 321 [],.fn 322 [],.ks (ByteArray.mk #[115,101,120,116]),.ki .i64 1,.kb false,.fn 321 [],.fn 323 [],.ks (ByteArray.mk #[115,104,108]),.ki .i64 2,.kb false,.fn 324 [],.fn 325 [],.ks (ByteArray.mk #[115,104,114]),.ki .i64 2,.kb false,.fn 324 [],.fn 326 []]),pL zs1,.agg zb6,pL [hI]],[]⟩
def cEh (x:P118.den)(k:KK R):Option R:=aJA N x.1.2.1 x.1.2.2.1.1 x.1.2.2.1.2.1 x.1.2.2.1.2.2.1 x.1.2.2.1.2.2.2.1 x.1.2.2.2.1 (fun r0=>k [] [dI r0] [])
def bSs:CfS R:=uC (bRA N) 293 P118 (cEh N)
theorem bFR:FOK (bSs N:CfS R) (aAo T):=uCk (bFo N) bK7 (H:=cDX) (Lp:=(cCi N)) (hl:=(aAi (l:=[(58,[0,1,3,6,9,10,14,15,16],aUW)]) (by kernel_rfl) ⟨(aAf (cBv N N)),trivial⟩))
def cDY:Nat->Option (List Sh):=fun n=>if n=23000 then some [hI]else if n=33000 then some [hI]else none
def aFC (k0:List Int->Option R):Nat->zt2->List Int->zt2->zk1 (List Int->Option R)
 | 0,_,_,_,_,_,_=>none
 | n+1,b0,b1,b2,b3,b4,b5=>(bif decide (b4<b3)then ((at? b2 b4).bind fun x1=>(bif decide (x1.1=1)then ((at? b1 x1.2.2.2).bind fun x2=>(bif aBU (b5.length+1) 8 then (aFC k0 n b0 b1 b2 b3 (w64 (b4+1)) (b5++[x2]))else none))else (aJA N b0 x1.1 x1.2.1 x1.2.2.1 x1.2.2.2 b5 (fun y3=>(bif aBU (b5.length+1) 8 then (aFC k0 n b0 b1 b2 b3 (w64 (b4+1)) (b5++[y3]))else none)))))else (k0 b5))
def P119_l0:SP:=⟨[(0,pL zs1),(1,pL [hI]),(5,.ptr 0 0),(6,.own 1),(11,pL zs1),(12,pI),(13,pI)],[(0,.box zb0),(1,.arr [hI])]⟩
def bYo (n:Nat)(x:P119_l0.den)(k:KS R):Option R:=aFC N (fun r0=>k (.ex 0) ⟨[(6,.own 0)],[(0,.arr (.t [hI] r0))]⟩) n x.1.1 x.1.2.1 x.1.2.2.2.2.1 x.1.2.2.2.2.2.1 x.1.2.2.2.2.2.2.1 x.2.2.1
theorem cBX:LpG T P119_l0 (bYo N (R:=R)) [0,1,5,6,11,12,13] aSZ:=lpk (bFR N) 122 (H:=cDY)
def cCK:LpS R:=aCc noL 122 (aAx P119_l0 (bYo N N))
def aKm (a0:zt2)(a1:List Int)(k0:List Int->Option R):Option R:=(aFg N (aFC N k0 N a0 a1 a0 ((a0.length:Nat):Int) 0 []))
def bRY:CfS R:=u1 (bSs N) 263 ⟨[pL zs1,pL [hI]],[]⟩ ⟨[pL [hI]],[]⟩ (aKm N)
theorem aP8:FOK (bRY N:CfS R) (aAo T):=uCk (bFR N) bK6 (H:=cDY) (Lp:=(cCK N)) (hl:=(aAi (l:=[(122,[0,1,5,6,11,12,13],aSZ)]) (by kernel_rfl) ⟨(aAf (cBX N N)),trivial⟩))
def cEo:Nat->Option (List Sh):=fun n=>if n=13000 then some [hI]else none
def aIv (a0:List Int)(a1:zt2)(a2:List Int)(k0:zk9 (Option R)):Option R:=(aGa N a0 a1 (fun y1=>(aAy N (decide (((a2.length:Nat):Int)=((a0.length:Nat):Int))) 10 (fun y2=>(aC8 N [y1,y2] (fun y3=>(bif decide (y3≠0)then (k0 [] y3)else (aEW N a2 a0 (fun y4 y5 y6=>(bif decide (y5≠0)then (k0 [] y5)else (aKm N a1 a2 (fun y7=>(k0 y7 0)))))))))))))
def bSD:CfS R:=u1 (bRY N) 205 ⟨[pL [hI],pL zs1,pL [hI]],[]⟩ ⟨[pL [hI],pI],[]⟩ (aIv N)
theorem aUk:FOK (bSD N:CfS R) (aAo T):=uCk (aP8 N) bPX (H:=cEo) (rp:=[⟨[pL [hI],pI],[]⟩])
def cD9:Nat->Option (List Sh):=fun n=>if n=11000 then some [.sl [hI]]else none
def aGh (a0:ByteArray)(a1:zt7)(a2:zt1)(a3:zt2)(a4:zt0)(a5:zt7)(a6:zt6)(a7 a8:List Int)(k0:List Int->Option R):Option R:=(aFI N a0 a1 a2 a3 a4 a5 a6 (fun y1=>(aFE N [a7,a8] (fun y2=>(aIv N y1 a3 y2 (fun y3 y4=>(k0 y3)))))))
def bSt:CfS R:=u1 (bSD N) 150 ⟨[.agg zb2,pL [hI],pL [hI]],[]⟩ ⟨[pL [hI]],[]⟩ (aGh N)
theorem bBD:FOK (bSt N:CfS R) (aAo T):=uCk (aUk N) bN1 (H:=cD9)
def aFm (N:Nat)(a0:ByteArray)(a1:zt7)(a2:zt1)(a3:zt2)(a4:zt0)(a5:zt7)(a6:zt6)(a7:Int)(a8:List Int)(k0:Bool->Option R):Option R:=((at? a4 a7).bind fun x1=>((at? a8 x1.2.1).bind fun x2=>(k0 (decide (x2=1)))))
def bQG:CfS R:=u1 (bSt N) 151 ⟨[.agg zb2,pI,pL [hI]],[]⟩ ⟨[pB],[]⟩ (aFm N)
theorem aTu:FOK (bQG N:CfS R) (aAo T):=uCk (bBD N) bMZ
def aCu (N:Nat)(k0:List Int->Option R):zk4 (zt8->zk1 (List Int->Option R))
 | 0,_,_,_,_,_=>none
 | n+1,b0,b1,b2,b3,b4=>(bif decide (b3<b2)then ((at? b1 b3).bind fun x1=>((at? b0 x1.2.1).bind fun x2=>(bif decide (x2=1)then ((at? b0 x1.2.2).bind fun x3=>(bif inR x1.1 b4.length then ((b4[x1.1.toNat]?).bind fun x4=>(aCu N k0 n b0 b1 b2 (w64 (b3+1)) (List.set b4 x1.1.toNat x3)))else none))else (aCu N k0 n b0 b1 b2 (w64 (b3+1)) b4))))else (k0 b4))
def P123_l0:SP:=⟨[(2,pL [hI]),(9,.own 0),(20,pL zs4),(21,pI),(22,pI)],[(0,.arr [hI])]⟩
def aSK:Nat->P123_l0.den->KS R->Option R:=eS P123_l0 fun k=>aCu N (qS k (.ex 0) ⟨[(9,.own 0)],[(0,.arr [hI])]⟩)
theorem bDd:LpG T P123_l0 (aSK N (R:=R)) [2,9,20,21,22] aV7:=lpk (aTu N) 58
def bHu:LpS R:=aCc noL 58 (aAx P123_l0 (aSK N N))
def aFv (a0:ByteArray)(a1:zt7)(a2:zt1)(a3:zt2)(a4:zt0)(a5:zt7)(a6:zt6)(a7:Int)(a8 a9:List Int)(k0:List Int->Option R):Option R:=(bif aBU a9.length 8 then ((at? a4 a7).bind fun x1=>(aCu N k0 N a8 x1.2.2 ((x1.2.2.length:Nat):Int) 0 a9))else none)
def bSj:CfS R:=u1 (bQG N) 152 ⟨[.agg zb2,pI,pL [hI],pL [hI]],[]⟩ ⟨[.own 0],[(0,.arr [hI])]⟩ (aFv N)
theorem bBL:FOK (bSj N:CfS R) (aAo T):=uCk (aTu N) bLP (Lp:=(bHu N)) (hl:=(aAi (l:=[(58,[2,9,20,21,22],aV7)]) (by kernel_rfl) ⟨(aAf (bDd N N)),trivial⟩))
def cD7:Nat->List SP:=fun p=>if p=1925 then [⟨[(8,.own 0),(9,pI)],[(0,.arr [hI])]⟩]else if p=7733 then [⟨[(8,.own 0),(9,pI)],[(0,.arr [hI])]⟩]else []
def cD2:Nat->Option (List Sh):=fun n=>if n=23000 then some [hI]else none
def aFz (k0:Int->Option R)(k1:zk3 (Option R))(b0:Int)(b1 b2:List Int)(b3:Int)(b4:ByteArray)(b5:zt7)(b6:zt1)(b7:zt2)(b8:zt0)(b9:zt7)(b10:zt6):Option R:=(bif decide (b3≠0)then (k1 b3 [])else (aGh N b4 b5 b6 b7 b8 b9 b10 b1 b2 (fun y1=>(aFm N b4 b5 b6 b7 b8 b9 b10 b0 y1 (fun y2=>(bif (!y2)then (k1 24 [])else (aFv N b4 b5 b6 b7 b8 b9 b10 b0 y1 b2 (fun y3=>(k1 0 y3)))))))))
def P124_j0:SP:=⟨[(1,pI),(2,pL [hI]),(3,pL [hI]),(10,.ptr 0 0),(11,pI)],[(0,.box zb2)]⟩
def bYF:Nat->P124_j0.den->KS R->Option R:=jS P124_j0 fun k=>aFz N (qS k .ret ⟨[(8,.own 0),(9,pI)],[(0,.em 1)]⟩) (qS k .ret ⟨[(8,.own 0),(9,pI)],[(0,.arr [hI])]⟩)
theorem cBJ:LpG T P124_j0 (bYF N (R:=R)) [1,2,3,10,11] aZ0:=lpk (bBL N) 30 (H:=cD2) (X:=cD7)
def cCP:LpS R:=aCc noL 30 (aAx P124_j0 (bYF N 1))
def aH3 (a0:ByteArray)(a1:zt7)(a2:zt1)(a3:zt2)(a4:zt0)(a5:zt7)(a6:zt6)(a7:Int)(a8 a9:List Int)(k0:zk3 (Option R)):Option R:=(aIF N a0 a1 a2 a3 a4 a5 a6 (fun y1 y2 y3 y4 y5 y6 y7 y8=>(bif decide (y8=0)then (aFR N y1 y2 y3 y4 y5 y6 y7 a7 (fun y9=>(aFq N y1 y2 y3 y4 y5 y6 y7 a8 (fun y10=>(aFL N y1 y2 y3 y4 y5 y6 y7 a9 (fun y11=>(aAY N [y9,y10,y11] (fun y12=>(aFz N (fun z13=>(k0 z13 [])) k0 a7 a8 a9 y12 y1 y2 y3 y4 y5 y6 y7)))))))))else (aFz N (fun z16=>(k0 z16 [])) k0 a7 a8 a9 y8 y1 y2 y3 y4 y5 y6 y7))))
def bTj:CfS R:=u1 (bSj N) 71 ⟨[.agg zb2,pI,pL [hI],pL [hI]],[]⟩ ⟨[.own 0,pI],[(0,.arr [hI])]⟩ (aH3 N)
theorem bFJ:FOK (bTj N:CfS R) (aAo T):=uCk (bBL N) c71 (H:=cD2) (Lp:=(cCP N)) (X:=cD7) (rp:=[⟨[.own 0,pI],[(0,.arr [hI])]⟩]) (hl:=(aAi (l:=[(30,[1,2,3,10,11],aZ0)]) (by kernel_rfl) ⟨(aAf (cBJ N 1)),trivial⟩))
def aCm (N:Nat)(a0 a1 a2:Int)(k0:Bool->Option R):Option R:=(bif decide (a1<=a0)then (k0 (decide (a0<=a2)))else (k0 false))
def bSP:CfS R:=u1 (bTj N) 72 ⟨[pI,pI,pI],[]⟩ ⟨[pB],[]⟩ (aCm N)
theorem bEh:FOK (bSP N:CfS R) (aAo T):=uCk (bFJ N) c72
def aEI (N:Nat)(a0:ByteArray)(a1 a2:Int)(k0:ByteArray->zk1 (zk1 (Option R))):Option R:=(k0 a0 0 a1 0 a2)
def bRu:CfS R:=u1 (bSP N) 73 ⟨[pS,pI,pI],[]⟩ ⟨[.agg [pS,pI,pI,pI,pI]],[]⟩ (aEI N)
theorem aSE:FOK (bRu N:CfS R) (aAo T):=uCk (bEh N) c73
def cEd:Nat->Option (List Sh):=fun n=>if n=10000 then some [hI,hI,.sl [hI],hI]else none
def aFX (N:Nat)(a0 a1:Int)(a2:List Int)(a3:Int)(a4:ByteArray)(a5:zt7)(a6:zt1)(a7:zt2)(a8:Nat)(a9:zt4)(k0:Int->zk2 (Nat->zt4->Option R)):Option R:=(bif aBU (a7.length+1) 48 then (k0 (w64 ((((a7++[(a0,a1,a2,a3)]).length:Nat):Int)-1)) a4 a5 a6 (a7++[(a0,a1,a2,a3)]) a8 a9)else none)
def bSG:CfS R:=u2 (bRu N) 100 ⟨[.ptr 0 0,.agg zb6],[(0,.box zb4),(1,.arr zs1),(2,.em 3),(3,.em 2),(4,.em 2),(5,.mp .s hI)]⟩ (aFX N) fun f k=>f (qA k [0,5] ⟨[pI],[(0,.box zb4),(1,.arr zs1),(2,.em 3),(3,.em 2),(4,.em 2),(5,.mp .s hI)]⟩)
theorem bDv:FOK (bSG N:CfS R) (aAo T):=uCk (aSE N) bLL (H:=cEd)
def cDB:Nat->Option (List Sh):=fun n=>if n=6000 then some [.s,hI]else if n=25000 then some [.s,hI]else if n=30000 then some [.s,hI]else none
def aG1 (N:Nat)(k0:zt7->ByteArray->zt7->zt1->Nat->zt4->zt7->Option R):Nat->zt7->zt1->zk1 (ByteArray->zt7->zt1->Nat->zt4->zt7->Option R)
 | 0,_,_,_,_,_,_,_,_,_,_=>none
 | n+1,b0,b1,b2,b3,b4,b5,b6,b7,b8,b9=>(bif decide (b3<b2)then ((at? b1 b3).bind fun x1=>(bif aBU (b9.length+1) 24 then (aG1 N k0 n b0 b1 b2 (w64 (b3+1)) b4 b5 b6 b7 b8 (b9++[(x1.1,x1.2.2.1)]))else none))else (k0 b0 b4 b5 b6 b7 b8 b9))
def P128_l0:SP:=⟨[(1,pL [.s,hI]),(7,.ptr 0 0),(8,.own 6),(20,pL zs2),(21,pI),(22,pI)],[(0,.box zb4),(1,.em 4),(2,.em 3),(3,.em 2),(4,.em 2),(5,.mp .s hI),(6,.arr [.s,hI])]⟩
def bZF:Nat->P128_l0.den->KS R->Option R:=eS P128_l0 fun k=>aG1 N (qS k (.ex 0) ⟨[(1,pL [.s,hI]),(7,.ptr 0 0),(8,.own 6)],[(0,.box zb4),(1,.em 4),(2,.em 3),(3,.em 2),(4,.em 2),(5,.mp .s hI),(6,.arr [.s,hI])]⟩)
theorem cA1:LpG T P128_l0 (bZF N (R:=R)) [1,7,8,20,21,22] bAn:=lpk (bDv N) 122 (H:=cDB)
def bZ9:LpS R:=aCc noL 122 (aAx P128_l0 (bZF N N))
def aG3 (k0:zk2 (Nat->zt4->Option R)):Nat->zk1 (zk2 (Nat->zt4->zt7->Option R))
 | 0,_,_,_,_,_,_,_,_,_=>none
 | n+1,b0,b1,b2,b3,b4,b5,b6,b7,b8=>(bif decide (b1<b0)then (bif inR b1 b8.length then ((b8[b1.toNat]?).bind fun x1=>(aFX N 1 x1.2 [] b1 b2 b3 b4 b5 b6 b7 (fun y2 y3 y4 y5 y6 y7 y8=>(bif aGH .s hI b6 b7 .s hI y7 y8 then (aG3 k0 n b0 (w64 (b1+1)) y3 y4 y5 y6 (aGp .s x1.1 b6 b7) (aOS .s x1.1 y2 b6 b7) b8)else none))))else none)else (k0 b2 b3 b4 b5 b6 b7))
def P128_l1:SP:=⟨[(7,.ptr 0 0),(39,.own 6),(40,pI),(41,pI)],[(0,.box zb4),(1,.arr zs1),(2,.em 3),(3,.em 2),(4,.em 2),(5,.mp .s hI),(6,.arr [.s,hI])]⟩
def bZD:Nat->P128_l1.den->KS R->Option R:=eS P128_l1 fun k=>aG3 N (qS k (.ex 2) ⟨[(7,.ptr 0 0)],[(0,.box zb4),(1,.arr zs1),(2,.em 3),(3,.em 2),(4,.em 2),(5,.mp .s hI)]⟩)
theorem cA9:LpG T P128_l1 (bZD N (R:=R)) [7,39,40,41] bBk:=lpk (bDv N) 250 (H:=cDB) (Lp:=(bZ9 N))
def cCD:LpS R:=aCc (bZ9 N) 250 (aAx P128_l1 (bZD N N))
def aH5 (a0:ByteArray)(a1:zt7)(a2:zt1)(k0:zk2 (Nat->zt4->Option R)):Option R:=(aG1 N (fun z2 z3 z4 z5 z6 z7 z8=>(bif aBU (0+z2.length) 24 then (bif aBU (z2.length+z8.length) 24 then (aG3 N k0 N (((z2++z8).length:Nat):Int) 0 z3 z4 z5 [] z6 z7 (z2++z8))else none)else none)) N a1 a2 ((a2.length:Nat):Int) 0 a0 a1 a2 0 [] [])
def bQX:CfS R:=u1 (bSG N) 75 ⟨[pS,pL [.s,hI],pL zs2],[]⟩ ⟨[.ptr 0 0],[(0,.box zb4),(1,.arr zs1),(2,.em 3),(3,.em 2),(4,.em 2),(5,.mp .s hI)]⟩ (aH5 N)
theorem bCj:FOK (bQX N:CfS R) (aAo T):=uCk (bDv N) c75 (H:=cDB) (Lp:=(cCD N)) (hl:=(aAi (l:=[(122,[1,7,8,20,21,22],bAn),(250,[7,39,40,41],bBk)]) (by kernel_rfl) ⟨(aDL (by decide) (aAf (cA1 N N))),(aAf (cA9 N N)),trivial⟩))
def aGk (a0 a1:Int)(a2:ByteArray)(a3:zt7)(a4:zt1)(a5:zt2)(a6:Nat)(a7:zt4)(k0:Int->zk2 (Nat->zt4->Option R)):Option R:=(aFX N 0 a0 [] a1 a2 a3 a4 a5 a6 a7 (fun y1 y2 y3 y4 y5 y6 y7=>(bif aGH .s hI a6 a7 .s hI y6 y7 then (k0 y1 y2 y3 y4 y5 a6 a7)else none)))
def bSi:CfS R:=u2 (bQX N) 76 ⟨[.ptr 0 0,pI,pI],[(0,.box zb4),(1,.arr zs1),(2,.em 3),(3,.em 2),(4,.em 2),(5,.mp .s hI)]⟩ (aGk N) fun f k=>f (qA k [0,5] ⟨[pI],[(0,.box zb4),(1,.arr zs1),(2,.em 3),(3,.em 2),(4,.em 2),(5,.mp .s hI)]⟩)
theorem aVK:FOK (bSi N:CfS R) (aAo T):=uCk (bCj N) c76
def cDF:Nat->Option (List Sh):=fun n=>if n=38000 then some [hI,hI,hI]else if n=51000 then some [.s,hI,.sl [hI,hI,hI]]else none
def aE3 (N:Nat)(k0:Int->zt5->zk1 (zk2 (zt0->Nat->zt4->zk5 (zt8->ByteArray->zk1 (Option R))))):Nat->Int->zt5->zk1 (zk2 (zt0->Nat->zt4->zk5 (zt8->ByteArray->zk1 (Option R))))
 | 0,_,_,_,_,_,_,_,_,_,_,_,_,_,_,_,_,_=>none
 | n+1,b0,b1,b2,b3,b4,b5,b6,b7,b8,b9,b10,b11,b12,b13,b14,b15,b16=>((at? b6 b0).bind fun x1=>(bif decide (x1.1≠b14)then (aE3 N k0 n (w64 (b0+1)) b1 b2 b3 b4 b5 b6 b7 b8 b9 b10 b11 b12 b13 b14 b15 b16)else (k0 b0 b1 b2 b3 b4 b5 b6 b7 b8 b9 b10 b11 b12 b13 b14 b15 b16)))
def P130_l1:SP:=⟨[(0,.ptr 0 0),(8,.ptr 6 0),(10,.ptr 8 0),(11,pI),(15,pL zs5),(16,pI),(17,pI),(100000,.ptr 0 0),(100004,.mp 5)],[(0,.box zb4),(1,.arr zs1),(2,.arr zs0),(3,.em 2),(4,.em 2),(5,.mp .s hI),(6,.box [pS,pI,.own 7]),(7,.arr zs4),(8,.box [pS,pI,pI])]⟩
def bZy:Nat->P130_l1.den->KS R->Option R:=eS P130_l1 fun k=>aE3 N (qS k (.ex 2) ⟨[(0,.ptr 0 0),(8,.ptr 6 0),(10,.ptr 8 0),(11,pI),(15,pL zs5),(16,pI),(17,pI),(100000,.ptr 0 0),(100004,.mp 5)],[(0,.box zb4),(1,.arr zs1),(2,.arr zs0),(3,.em 2),(4,.em 2),(5,.mp .s hI),(6,.box [pS,pI,.own 7]),(7,.arr zs4),(8,.box [pS,pI,pI])]⟩)
theorem cBZ:LpG T P130_l1 (bZy N (R:=R)) [0,8,10,11,15,16,17] aZa:=lpk (aVK N) 13516 (H:=cDF)
def bHg:LpS R:=aCc noL 13516 (aAx P130_l1 (bZy N N))
def aE0 (k0:zk2 (zt0->Nat->zt4->zk5 (zt8->Option R))):Nat->zt5->zk1 (zk2 (zt0->Nat->zt4->zk5 (zt8->Option R)))
 | 0,_,_,_,_,_,_,_,_,_,_,_,_,_=>none
 | n+1,b0,b1,b2,b3,b4,b5,b6,b7,b8,b9,b10,b11,b12=>(bif decide (b2<b1)then ((at? b0 b2).bind fun x1=>(aE3 N (fun z2 z3 z4 z5 z6 z7 z8 z9 z10 z11 z12 z13 z14 z15 z16 z17 z18=>(bif aBU (z15.length+1) 24 then (aE0 k0 n z3 z4 (w64 (z5+1)) z6 z7 z8 z9 z10 z11 z12 z13 z14 (z15++[(z2,z18,z17)]))else none)) N 0 b0 b1 b2 b3 b4 b5 b6 b7 b8 b9 b10 b11 b12 x1.1 x1.2.1 x1.2.2))else (k0 b3 b4 b5 b6 b7 b8 b9 b10 b11 b12))
def P130_l0:SP:=⟨[(0,.ptr 0 0),(8,.ptr 6 0),(15,pL zs5),(16,pI),(17,pI),(100000,.ptr 0 0),(100004,.mp 5)],[(0,.box zb4),(1,.arr zs1),(2,.arr zs0),(3,.em 2),(4,.em 2),(5,.mp .s hI),(6,.box [pS,pI,.own 7]),(7,.arr zs4)]⟩
def aSP:Nat->P130_l0.den->KS R->Option R:=eS P130_l0 fun k=>aE0 N (qS k (.ex 0) ⟨[(0,.ptr 0 0),(8,.ptr 6 0),(100000,.ptr 0 0),(100004,.mp 5)],[(0,.box zb4),(1,.arr zs1),(2,.arr zs0),(3,.em 2),(4,.em 2),(5,.mp .s hI),(6,.box [pS,pI,.own 7]),(7,.arr zs4)]⟩)
theorem bFn:LpG T P130_l0 (aSP N (R:=R)) [0,8,15,16,17] aZF:=lpk (aVK N) 26 (H:=cDF) (Lp:=(bHg N)) (hl:=(aAi (l:=[(13516,[0,8,10,11,15,16,17],aZa)]) (by kernel_rfl) ⟨(aAf (cBZ N N)),trivial⟩))
def cC0:LpS R:=aCc (bHg N) 26 (aAx P130_l0 (aSP N N))
def aDO (a0:ByteArray)(a1:Int)(a2:zt5)(a3:ByteArray)(a4:zt7)(a5:zt1)(a6:zt2)(a7:zt0)(a8:Nat)(a9:zt4)(k0:zk2 (zt0->Nat->zt4->Option R)):Option R:=(aE0 N (fun z19 z20 z21 z22 z23 z24 z25 z26 z27 z28=>(bif aBU (z23.length+1) 48 then (k0 z19 z20 z21 z22 (z23++[(z26,z27,z28)]) z24 z25)else none)) N a2 ((a2.length:Nat):Int) 0 a3 a4 a5 a6 a7 a8 a9 a0 a1 [])
def bQ3:CfS R:=u2 (bSi N) 77 ⟨[.ptr 0 0,pS,pI,pL zs5],[(0,.box zb4),(1,.arr zs1),(2,.arr zs0),(3,.em 2),(4,.em 2),(5,.mp .s hI)]⟩ (aDO N) fun f k=>f (qA k [0,5] ⟨[],[(0,.box zb4),(1,.arr zs1),(2,.arr zs0),(3,.em 2),(4,.em 2),(5,.mp .s hI)]⟩)
theorem bFU:FOK (bQ3 N:CfS R) (aAo T):=uCk (aVK N) c77 (H:=cDF) (Lp:=(cC0 N)) (hl:=(aAi (l:=[(26,[0,8,15,16,17],aZF)]) (by kernel_rfl) ⟨(aAf (bFn N N)),trivial⟩))
def cD0:Nat->Option (List Sh):=fun n=>if n=26000 then some [.s,hI,hI]else none
def aEw (N:Nat)(k0:zk5 (zk2 (zt0->Nat->zt4->zt5->Option R))):Nat->zk5 (List ByteArray->zk1 (zk2 (zt0->Nat->zt4->zt5->Option R)))
 | 0,_,_,_,_,_,_,_,_,_,_,_,_,_=>none
 | n+1,b0,b1,b2,b3,b4,b5,b6,b7,b8,b9,b10,b11,b12=>(bif decide (b4<b3)then ((at? b2 b4).bind fun x1=>((at? b2 (w64 (b4+1))).bind fun x2=>(bif aBU (b12.length+1) 32 then (aEw N k0 n b0 b1 b2 b3 (w64 (b4+1)) b5 b6 b7 b8 b9 b10 b11 (b12++[(x1,(aFh .s x2 b11 0),b1)]))else none)))else (k0 b0 b1 b5 b6 b7 b8 b9 b10 b11 b12))
def P131_l0:SP:=⟨[(0,.ptr 0 0),(1,pS),(2,pI),(3,pL [.s]),(8,.own 6),(12,pI),(13,pI),(100000,.ptr 0 0),(100004,.mp 5)],[(0,.box zb4),(1,.arr zs1),(2,.arr zs0),(3,.em 2),(4,.em 2),(5,.mp .s hI),(6,.arr zs5)]⟩
def bYv:Nat->P131_l0.den->KS R->Option R:=eS P131_l0 fun k=>aEw N (qS k (.ex 0) ⟨[(0,.ptr 0 0),(1,pS),(2,pI),(8,.own 6),(100000,.ptr 0 0),(100004,.mp 5)],[(0,.box zb4),(1,.arr zs1),(2,.arr zs0),(3,.em 2),(4,.em 2),(5,.mp .s hI),(6,.arr zs5)]⟩)
theorem cBY:LpG T P131_l0 (bYv N (R:=R)) [0,1,2,3,8,12,13] aZj:=lpk (bFU N) 26 (H:=cD0)
def cCq:LpS R:=aCc noL 26 (aAx P131_l0 (bYv N N))
def aEn (a0:ByteArray)(a1:Int)(a2:List ByteArray)(a3:ByteArray)(a4:zt7)(a5:zt1)(a6:zt2)(a7:zt0)(a8:Nat)(a9:zt4)(k0:zk2 (zt0->Nat->zt4->Option R)):Option R:=(aEw N (fun z3 z4 z5 z6 z7 z8 z9 z10 z11 z12=>(aDO N z3 z4 z12 z5 z6 z7 z8 z9 z10 z11 (fun y13 y14 y15 y16 y17 y18 y19=>(bif aGH .s hI z10 z11 .s hI y18 y19 then (k0 y13 y14 y15 y16 y17 z10 z11)else none)))) N a0 a1 a2 (w64 (((a2.length:Nat):Int)-1)) 0 a3 a4 a5 a6 a7 a8 a9 [])
def bRm:CfS R:=u2 (bQ3 N) 78 ⟨[.ptr 0 0,pS,pI,pL [.s]],[(0,.box zb4),(1,.arr zs1),(2,.arr zs0),(3,.em 2),(4,.em 2),(5,.mp .s hI)]⟩ (aEn N) fun f k=>f (qA k [0,5] ⟨[],[(0,.box zb4),(1,.arr zs1),(2,.arr zs0),(3,.em 2),(4,.em 2),(5,.mp .s hI)]⟩)
theorem aR4:FOK (bRm N:CfS R) (aAo T):=uCk (bFU N) c78 (H:=cD0) (Lp:=(cCq N)) (hl:=(aAi (l:=[(26,[0,1,2,3,8,12,13],aZj)]) (by kernel_rfl) ⟨(aAf (cBY N N)),trivial⟩))
def cEk:Nat->Option (List Sh):=fun n=>if n=10000 then some [.s,hI]else none
def aG6 (N:Nat)(a0:ByteArray)(a1:Int)(a2:ByteArray)(a3:zt7)(a4:zt1)(a5:zt2)(a6:zt0)(a7:Nat)(a8:zt4)(k0:zk2 (zt0->zt7->Nat->zt4->Option R)):Option R:=(k0 a2 a3 a4 a5 a6 [(a0,a1)] a7 a8)
def bSR:CfS R:=u2 (bRm N) 79 ⟨[.ptr 0 0,pS,pI],[(0,.box zb4),(1,.arr zs1),(2,.arr zs0),(3,.em 2),(4,.em 2),(5,.mp .s hI)]⟩ (aG6 N) fun f k=>f (qA k [0,5] ⟨[],[(0,.box zb4),(1,.arr zs1),(2,.arr zs0),(3,.arr [.s,hI]),(4,.em 2),(5,.mp .s hI)]⟩)
theorem bDb:FOK (bSR N:CfS R) (aAo T):=uCk (aR4 N) c79 (H:=cEk)
def bVw:Nat->Option (List Sh):=fun n=>if n=10000 then some [.s,hI,hI,hI,hI]else if n=12000 then some [.s]else if n=27000 then some [.s,hI,hI,hI,hI]else if n=31000 then some [.s]else if n=38000 then some [.s,hI]else if n=54000 then some [.s,hI,hI]else none
def aF0 (k0:ByteArray->zt1->List ByteArray->Option R):Nat->zk1 (ByteArray->zt1->List ByteArray->Option R)
 | 0,_,_,_,_,_=>none
 | n+1,b0,b1,b2,b3,b4=>(bif decide (b1<b0)then (bif decide (-9223372036854775808<=(w64 (b1+1))∧(w64 (b1+1))<=9223372036854775807)then (bif decide (((((ByteArray.mk #[115]).size+(aP6 (w64 (b1+1))).size:Nat)):Int)>9223372036854775807)then none else (aEI N ((ByteArray.mk #[115])++(aP6 (w64 (b1+1)))) 1 1 (fun y1 y2 y3 y4 y5=>(bif aBU (b3.length+1) 48 then (bif aBU (1+b4.length) 16 then (aF0 k0 n b0 (w64 (b1+1)) b2 (b3++[(y1,y2,y3,y4,y5)]) ([((ByteArray.mk #[115])++(aP6 (w64 (b1+1))))]++b4))else none)else none))))else none)else (k0 b2 b3 b4))
def P133_l0:SP:=⟨[(2,.ptr 0 0),(4,.own 7),(5,.own 8),(17,pI),(18,pI)],[(0,.box [pS,.own 1,.own 2,.own 3,.own 4,.own 5,.own 6]),(1,.em 2),(2,.em 5),(3,.em 4),(4,.em 3),(5,.em 2),(6,.em 2),(7,.arr zs2),(8,.arr [.s])]⟩
def bZH:Nat->P133_l0.den->KS R->Option R:=eS P133_l0 fun k=>aF0 N (qS k (.ex 0) ⟨[(2,.ptr 0 0),(4,.own 7),(5,.own 8)],[(0,.box [pS,.own 1,.own 2,.own 3,.own 4,.own 5,.own 6]),(1,.em 2),(2,.em 5),(3,.em 4),(4,.em 3),(5,.em 2),(6,.em 2),(7,.arr zs2),(8,.arr [.s])]⟩)
theorem cBt:LpG T P133_l0 (bZH N (R:=R)) [2,4,5,17,18] bAe:=lpk (bDb N) 250 (H:=bVw)
def cC7:LpS R:=aCc noL 250 (aAx P133_l0 (bZH N N))
def aIy (a0:Int)(k0:zk2 (zt0->zt7->Int->Option R)):Option R:=(aCm N a0 2 4 (fun y1=>(bif (!y1)then (k0 (ByteArray.mk #[]) [] [] [] [] [] 2)else (aEI N (ByteArray.mk #[115,114,99]) 1 0 (fun y2 y3 y4 y5 y6=>(aF0 N (fun z7 z8 z9=>(aH5 N (ByteArray.mk #[102,108,111,112,115]) [((ByteArray.mk #[100]),1)] z8 (fun y10 y11 y12 y13 y14 y15=>(aGk N 1 1 y10 y11 y12 y13 y14 y15 (fun y16 y17 y18 y19 y20 y21 y22=>(bif aGH .s hI y14 y15 .s hI y21 y22 then (aDO N (ByteArray.mk #[108,111,97,100]) y16 [((ByteArray.mk #[115,114,99]),(aFh .s (ByteArray.mk #[100]) y15 0),y16)] y17 y18 y19 y20 [] y14 y15 (fun y23 y24 y25 y26 y27 y28 y29=>(bif aGH .s hI y14 y15 .s hI y28 y29 then (aEn N (ByteArray.mk #[115,104,105,102,116]) y16 z9 y23 y24 y25 y26 y27 y14 y15 (fun y30 y31 y32 y33 y34 y35 y36=>(bif aGH .s hI y14 y15 .s hI y35 y36 then (bif inR 0 z9.length then ((z9[0]?).bind fun x37=>(aG6 N (ByteArray.mk #[113]) (aFh .s x37 y15 0) y30 y31 y32 y33 y34 y14 y15 (fun y38 y39 y40 y41 y42 y43 y44 y45=>(bif aGH .s hI y14 y15 .s hI y44 y45 then (k0 y38 y39 y40 y41 y42 y43 0)else none))))else none)else none)))else none)))else none)))))) N a0 0 (ByteArray.mk #[]) [(y2,y3,y4,y5,y6)] [(ByteArray.mk #[115,114,99])]))))))
def bQU:CfS R:=u1 (bSR N) 13 ⟨[pI],[]⟩ ⟨[.agg [pS,pL [.s,hI],pL zs2,pL zs1,pL zs0,pL [.s,hI],.p (.e 2)],pI],[]⟩ (aIy N)
theorem bCF:FOK (bQU N:CfS R) (aAo T):=uCk (bDb N) c13 (H:=bVw) (Lp:=(cC7 N)) (rp:=[⟨[.agg [pS,pL [.s,hI],pL zs2,pL zs1,pL zs0,pL [.s,hI],.p (.e 2)],pI],[]⟩]) (hl:=(aAi (l:=[(250,[2,4,5,17,18],bAe)]) (by kernel_rfl) ⟨(aAf (cBt N N)),trivial⟩))
def aCA (N:Nat)(k0:Bool->Option R)(k1:Option R):zk4 (zk9 (Option R))
 | 0,_,_,_=>none
 | n+1,b0,b1,b2=>(bif decide (b2<((b0.length:Nat):Int))then ((at? b0 b2).bind fun x1=>((at? b1 b2).bind fun x2=>(bif decide (x1≠x2)then (k0 false)else (aCA N k0 k1 n b0 b1 (w64 (b2+1))))))else k1)
def P134_l0:SP:=⟨[(0,pL [hI]),(1,pL [hI]),(5,pI)],[]⟩
def bZS:Nat->P134_l0.den->KS R->Option R:=eS P134_l0 fun k=>aCA N (qS k .ret ⟨[(4,pB)],[]⟩) (qS k (.ex 0) ⟨[],[]⟩)
theorem cBl:LpG T P134_l0 (bZS N (R:=R)) [0,1,5] aZh:=lpk (bCF N) 58
def cCr:LpS R:=aCc noL 58 (aAx P134_l0 (bZS N N))
def aCr (a0 a1:List Int)(k0:Bool->Option R):Option R:=(bif decide (((a0.length:Nat):Int)≠((a1.length:Nat):Int))then (k0 false)else (aCA N k0 (k0 true) N a0 a1 0))
def bQO:CfS R:=u1 (bQU N) 23 ⟨[pL [hI],pL [hI]],[]⟩ ⟨[pB],[]⟩ (aCr N)
theorem aSB:FOK (bQO N:CfS R) (aAo T):=uCk (bCF N) c23 (Lp:=(cCr N)) (hl:=(aAi (l:=[(58,[0,1,5],aZh)]) (by kernel_rfl) ⟨(aAf (cBl N N)),trivial⟩))
def aA8 (N:Nat)(a0:Bool)(a1:Int)(k0:Int->Option R):Option R:=(bif a0 then (k0 0)else (k0 a1))
def bRb:CfS R:=u1 (bQO N) 141 ⟨[pB,pI],[]⟩ ⟨[pI],[]⟩ (aA8 N)
theorem bFj:FOK (bRb N:CfS R) (aAo T):=uCk (aSB N) bMT
def aCY (N:Nat)(a0:Int)(a1:ByteArray)(a2:zt7)(a3:zt1)(a4:zt2)(a5:zt0)(a6:zt7)(a7:zt6)(a8:List Int)(k0:Int->zk0 (List Int->Option R)):Option R:=((at? a3 a0).bind fun x1=>(k0 x1.2.2.2.2 a1 a2 a3 a4 a5 a6 a7 a8))
def bQY:CfS R:=u2 (bRb N) 166 ⟨[.ptr 0 0,pI],[(0,.box [pS,pL [.s,hI],pL zs2,pL zs1,pL zs0,pL [.s,hI],pL zs3,.own 1]),(1,.arr [hI])]⟩ (aCY N) fun f k=>f (qA k [0] ⟨[pI],[(0,.box [pS,pL [.s,hI],pL zs2,pL zs1,pL zs0,pL [.s,hI],pL zs3,.own 1]),(1,.arr [hI])]⟩)
theorem bDp:FOK (bQY N:CfS R) (aAo T):=uCk (bFj N) bLB
def aFl (a0 a1 a2:Int)(a3:ByteArray)(a4:zt7)(a5:zt1)(a6:zt2)(a7:zt0)(a8:zt7)(a9:zt6)(a10:List Int)(a11:ByteArray)(a12:Int)(a13:zt8)(k0:Bool->zk0 (List Int->zk5 (zt8->Option R))):Option R:=(aCY N a0 a3 a4 a5 a6 a7 a8 a9 a10 (fun y1 y2 y3 y4 y5 y6 y7 y8 y9=>((at? a13 0).bind fun x10=>(aCY N x10.1 y2 y3 y4 y5 y6 y7 y8 y9 (fun y11 y12 y13 y14 y15 y16 y17 y18 y19=>(k0 (decide (y1≠y11)) y12 y13 y14 y15 y16 y17 y18 y19 a11 a12 a13))))))
def bQr:CfS R:=u2 (bQY N) 165 ⟨[.agg [pI,pI,pI],.ptr 0 0,.ptr 3 0],[(0,.box [.ptr 1 0]),(1,.box zb5),(2,.arr [hI]),(3,.box [pS,pI,pL zs4])]⟩ (aFl N) fun f k=>f (qA k [0,3,1] ⟨[pB],[(0,.box [.ptr 1 0]),(1,.box zb5),(2,.arr [hI]),(3,.box [pS,pI,pL zs4])]⟩)
theorem aUl:FOK (bQr N:CfS R) (aAo T):=uCk (bDp N) bN0
def aAk (k0:Int->zk0 (List Int->zk5 (zt8->Option R)))(k1:zk0 (List Int->zk5 (zt8->Option R))):Nat->zt8->zk1 (zk0 (List Int->zk5 (zt8->Option R)))
 | 0,_,_,_,_,_,_,_,_,_,_,_,_,_,_=>none
 | n+1,b0,b1,b2,b3,b4,b5,b6,b7,b8,b9,b10,b11,b12,b13=>(bif decide (b2<b1)then ((at? b0 b2).bind fun x1=>(aFl N x1.1 x1.2.1 x1.2.2 b3 b4 b5 b6 b7 b8 b9 b10 b11 b12 b13 (fun y2 y3 y4 y5 y6 y7 y8 y9 y10 y11 y12 y13=>(bif y2 then (k0 b2 y3 y4 y5 y6 y7 y8 y9 y10 y11 y12 y13)else (aAk k0 k1 n b0 b1 (w64 (b2+1)) y3 y4 y5 y6 y7 y8 y9 y10 y11 y12 y13)))))else (k1 b3 b4 b5 b6 b7 b8 b9 b10 b11 b12 b13))
def P138_l0:SP:=⟨[(0,pL zs4),(1,.fn 165 [.ptr 0 0,.ptr 3 0]),(7,pI),(8,pI),(100001,.fn 165 [.ptr 0 0,.ptr 3 0]),(100002,.ptr 1 0)],[(0,.box [.ptr 1 0]),(1,.box zb5),(2,.arr [hI]),(3,.box [pS,pI,pL zs4])]⟩
def aVV:Nat->P138_l0.den->KS R->Option R:=eS P138_l0 fun k=>aAk N (qS k .ret ⟨[(4,pI),(100001,.fn 165 [.ptr 0 0,.ptr 3 0]),(100002,.ptr 1 0)],[(0,.box [.ptr 1 0]),(1,.box zb5),(2,.arr [hI]),(3,.box [pS,pI,pL zs4])]⟩) (qS k (.ex 0) ⟨[(100001,.fn 165 [.ptr 0 0,.ptr 3 0]),(100002,.ptr 1 0)],[(0,.box [.ptr 1 0]),(1,.box zb5),(2,.arr [hI]),(3,.box [pS,pI,pL zs4])]⟩)
theorem bEJ:LpG T P138_l0 (aVV N (R:=R)) [0,1,7,8] aWI:=lpk (aUl N) 26
def bKd:LpS R:=aCc noL 26 (aAx P138_l0 (aVV N N))
def aBn (a0:zt8)(a1:ByteArray)(a2:zt7)(a3:zt1)(a4:zt2)(a5:zt0)(a6:zt7)(a7:zt6)(a8:List Int)(a9:ByteArray)(a10:Int)(a11:zt8)(k0:Int->zk0 (List Int->zk5 (zt8->Option R))):Option R:=(aAk N k0 (fun z26 z27 z28 z29 z30 z31 z32 z33 z34 z35 z36=>(k0 (-1) z26 z27 z28 z29 z30 z31 z32 z33 z34 z35 z36)) N a0 ((a0.length:Nat):Int) 0 a1 a2 a3 a4 a5 a6 a7 a8 a9 a10 a11)
def bSq:CfS R:=u2 (bQr N) 245 ⟨[pL zs4,.fn 165 [.ptr 0 0,.ptr 3 0]],[(0,.box [.ptr 1 0]),(1,.box zb5),(2,.arr [hI]),(3,.box [pS,pI,pL zs4])]⟩ (aBn N) fun f k=>f (qA k [0,3,1] ⟨[pI],[(0,.box [.ptr 1 0]),(1,.box zb5),(2,.arr [hI]),(3,.box [pS,pI,pL zs4])]⟩)
theorem bEp:FOK (bSq N:CfS R) (aAo T):=uCk (aUl N) bLF (Lp:=(bKd N)) (hl:=(aAi (l:=[(26,[0,1,7,8],aWI)]) (by kernel_rfl) ⟨(aAf (bEJ N N)),trivial⟩))
def aAO (a0:zt8)(a1:ByteArray)(a2:zt7)(a3:zt1)(a4:zt2)(a5:zt0)(a6:zt7)(a7:zt6)(a8:List Int)(a9:ByteArray)(a10:Int)(a11:zt8)(k0:Bool->zk0 (List Int->zk5 (zt8->Option R))):Option R:=(aBn N a0 a1 a2 a3 a4 a5 a6 a7 a8 a9 a10 a11 (fun y1 y2 y3 y4 y5 y6 y7 y8 y9 y10 y11 y12=>(k0 (decide (0<=y1)) y2 y3 y4 y5 y6 y7 y8 y9 y10 y11 y12)))
def bQ5:CfS R:=u2 (bSq N) 167 ⟨[pL zs4,.fn 165 [.ptr 0 0,.ptr 3 0]],[(0,.box [.ptr 1 0]),(1,.box zb5),(2,.arr [hI]),(3,.box [pS,pI,pL zs4])]⟩ (aAO N) fun f k=>f (qA k [0,3,1] ⟨[pB],[(0,.box [.ptr 1 0]),(1,.box zb5),(2,.arr [hI]),(3,.box [pS,pI,pL zs4])]⟩)
theorem bFQ:FOK (bQ5 N:CfS R) (aAo T):=uCk (bEp N) bMo
def aFe (a0:Int)(a1:ByteArray)(a2:Int)(a3:zt8)(a4:ByteArray)(a5:zt7)(a6:zt1)(a7:zt2)(a8:zt0)(a9:zt7)(a10:zt6)(a11:List Int)(k0:Int->zk0 (List Int->Option R)):Option R:=(aAO N a3 a4 a5 a6 a7 a8 a9 a10 a11 a1 a2 a3 (fun y1 y2 y3 y4 y5 y6 y7 y8 y9 y10 y11 y12=>(aA8 N (!y1) 30 (fun y13=>(k0 y13 y2 y3 y4 y5 y6 y7 y8 y9)))))
def bRf:CfS R:=u2 (bQ5 N) 164 ⟨[pI,.agg [pS,pI,pL zs4],.ptr 0 0],[(0,.box [.ptr 1 0]),(1,.box zb5),(2,.arr [hI])]⟩ (aFe N) fun f k=>f (qA k [0,1] ⟨[pI],[(0,.box [.ptr 1 0]),(1,.box zb5),(2,.arr [hI])]⟩)
theorem aUr:FOK (bRf N:CfS R) (aAo T):=uCk (bFQ N) bM8
def aA2 (k0:Int->zk0 (List Int->Option R))(k1:zk0 (List Int->Option R)):Nat->zt0->zk1 (zk0 (List Int->Option R))
 | 0,_,_,_,_,_,_,_,_,_,_,_=>none
 | n+1,b0,b1,b2,b3,b4,b5,b6,b7,b8,b9,b10=>(bif decide (b2<b1)then ((at? b0 b2).bind fun x1=>(aFe N b2 x1.1 x1.2.1 x1.2.2 b3 b4 b5 b6 b7 b8 b9 b10 (fun y2 y3 y4 y5 y6 y7 y8 y9 y10=>(bif decide (y2≠0)then (k0 y2 y3 y4 y5 y6 y7 y8 y9 y10)else (aA2 k0 k1 n b0 b1 (w64 (b2+1)) y3 y4 y5 y6 y7 y8 y9 y10)))))else (k1 b3 b4 b5 b6 b7 b8 b9 b10))
def P141_l0:SP:=⟨[(1,.fn 164 [.ptr 0 0]),(8,pL zs0),(9,pI),(10,pI),(100001,.fn 164 [.ptr 0 0]),(100002,.ptr 1 0)],[(0,.box [.ptr 1 0]),(1,.box zb5),(2,.arr [hI])]⟩
def aWz:Nat->P141_l0.den->KS R->Option R:=eS P141_l0 fun k=>aA2 N (qS k .ret ⟨[(4,pI),(100001,.fn 164 [.ptr 0 0]),(100002,.ptr 1 0)],[(0,.box [.ptr 1 0]),(1,.box zb5),(2,.arr [hI])]⟩) (qS k (.ex 0) ⟨[(100001,.fn 164 [.ptr 0 0]),(100002,.ptr 1 0)],[(0,.box [.ptr 1 0]),(1,.box zb5),(2,.arr [hI])]⟩)
theorem bCE:LpG T P141_l0 (aWz N (R:=R)) [1,8,9,10] aXr:=lpk (aUr N) 26
def bI4:LpS R:=aCc noL 26 (aAx P141_l0 (aWz N N))
def aCv (a0:zt0)(a1:ByteArray)(a2:zt7)(a3:zt1)(a4:zt2)(a5:zt0)(a6:zt7)(a7:zt6)(a8:List Int)(k0:Int->zk0 (List Int->Option R)):Option R:=(aA2 N k0 (fun z20 z21 z22 z23 z24 z25 z26 z27=>(k0 0 z20 z21 z22 z23 z24 z25 z26 z27)) N a0 ((a0.length:Nat):Int) 0 a1 a2 a3 a4 a5 a6 a7 a8)
def bSz:CfS R:=u2 (bRf N) 163 ⟨[pL zs0,.fn 164 [.ptr 0 0]],[(0,.box [.ptr 1 0]),(1,.box zb5),(2,.arr [hI])]⟩ (aCv N) fun f k=>f (qA k [0,1] ⟨[pI],[(0,.box [.ptr 1 0]),(1,.box zb5),(2,.arr [hI])]⟩)
theorem bCe:FOK (bSz N:CfS R) (aAo T):=uCk (aUr N) bLk (Lp:=(bI4 N)) (hl:=(aAi (l:=[(26,[1,8,9,10],aXr)]) (by kernel_rfl) ⟨(aAf (bCE N N)),trivial⟩))
def cDU:Nat->Option (List Sh):=fun n=>if n=37000 then some [hI]else if n=60000 then some [hI]else none
def aCV (N:Nat)(k0:zk0 (zk0 (List Int->Option R))):Nat->zt7->zk1 (zk0 (zk0 (List Int->Option R)))
 | 0,_,_,_,_,_,_,_,_,_,_,_,_,_,_,_,_,_,_=>none
 | n+1,b0,b1,b2,b3,b4,b5,b6,b7,b8,b9,b10,b11,b12,b13,b14,b15,b16,b17=>(bif decide (b2<b1)then ((at? b0 b2).bind fun x1=>(bif aBU (b17.length+1) 8 then (aCV N k0 n b0 b1 (w64 (b2+1)) b3 b4 b5 b6 b7 b8 b9 b10 b11 b12 b13 b14 b15 b16 (b17++[x1.2]))else none))else (k0 b3 b4 b5 b6 b7 b8 b9 b10 b11 b12 b13 b14 b15 b16 b17))
def P142_l0:SP:=⟨[(1,.ptr 0 0),(6,.ptr 1 0),(24,pL [.s,hI]),(25,pI),(26,pI)],[(0,.box zb2),(1,.box [.ptr 2 0]),(2,.box zb8),(3,.arr [hI])]⟩
def bYE:Nat->P142_l0.den->KS R->Option R:=eS P142_l0 fun k=>aCV N (qS k (.ex 0) ⟨[(1,.ptr 0 0),(6,.ptr 1 0)],[(0,.box zb2),(1,.box [.ptr 2 0]),(2,.box zb8),(3,.arr [hI])]⟩)
theorem cAY:LpG T P142_l0 (bYE N (R:=R)) [1,6,24,25,26] aWk:=lpk (bCe N) 122 (H:=cDU)
def cAn:LpS R:=aCc noL 122 (aAx P142_l0 (bYE N N))
def aCW (N:Nat)(k0:zk0 (zk0 (List Int->Option R))):Nat->zt1->zk1 (zk0 (zk0 (List Int->Option R)))
 | 0,_,_,_,_,_,_,_,_,_,_,_,_,_,_,_,_,_,_=>none
 | n+1,b0,b1,b2,b3,b4,b5,b6,b7,b8,b9,b10,b11,b12,b13,b14,b15,b16,b17=>(bif decide (b2<b1)then ((at? b0 b2).bind fun x1=>(bif aBU (b17.length+1) 8 then (aCW N k0 n b0 b1 (w64 (b2+1)) b3 b4 b5 b6 b7 b8 b9 b10 b11 b12 b13 b14 b15 b16 (b17++[x1.2.2.1]))else none))else (k0 b3 b4 b5 b6 b7 b8 b9 b10 b11 b12 b13 b14 b15 b16 b17))
def P142_l1:SP:=⟨[(1,.ptr 0 0),(6,.ptr 1 0),(43,pL zs2),(44,pI),(45,pI)],[(0,.box zb2),(1,.box [.ptr 2 0]),(2,.box zb8),(3,.arr [hI])]⟩
def bYK:Nat->P142_l1.den->KS R->Option R:=eS P142_l1 fun k=>aCW N (qS k (.ex 2) ⟨[(1,.ptr 0 0),(6,.ptr 1 0)],[(0,.box zb2),(1,.box [.ptr 2 0]),(2,.box zb8),(3,.arr [hI])]⟩)
theorem cA7:LpG T P142_l1 (bYK N (R:=R)) [1,6,43,44,45] aVt:=lpk (bCe N) 250 (H:=cDU) (Lp:=(cAn N))
def cCR:LpS R:=aCc (cAn N) 250 (aAx P142_l1 (bYK N N))
def aDo (a0:ByteArray)(a1:zt7)(a2:zt1)(a3:zt2)(a4:zt0)(a5:zt7)(a6:zt6)(k0:Int->Option R)(k1:zk0 (zk9 (Option R))):Option R:=(aDr N a0 a1 a2 a3 a4 a5 a6 (fun y1 y2=>(bif decide (y2≠0)then (k0 y2)else (aCV N (fun z3 z4 z5 z6 z7 z8 z9 z10 z11 z12 z13 z14 z15 z16 z17=>(aCW N (fun z18 z19 z20 z21 z22 z23 z24 z25 z26 z27 z28 z29 z30 z31 z32=>(aCv N z22 z25 z26 z27 z28 z29 z30 z31 z32 (fun y33 y34 y35 y36 y37 y38 y39 y40 y41=>(k1 y34 y35 y36 y37 y38 y39 y40 y41 y33)))) N z5 ((z5.length:Nat):Int) 0 z3 z4 z5 z6 z7 z8 z9 z10 z11 z12 z13 z14 z15 z16 z17)) N a1 ((a1.length:Nat):Int) 0 a0 a1 a2 a3 a4 a5 a6 a0 a1 a2 a3 a4 a5 a6 []))))
def bQT:CfS R:=u2 (bSz N) 113 ⟨[.agg zb2],[]⟩ (aDo N) fun f k=>f (qA k [] ⟨[.p (.nl 0),pI],[]⟩) (qA k [] ⟨[.p (.cp [.s .s,.s (.sl [.s,hI]),.s (.sl [.s,hI,hI,hI,hI]),.s (.sl [hI,hI,.sl [hI],hI]),.s (.sl [.s,hI,.sl [hI,hI,hI]]),.s (.sl [.s,hI]),.s (.sl [hI,.sl [hI]]),.s (.sl [hI])]),pI],[]⟩)
theorem bDN:FOK (bQT N:CfS R) (aAo T):=uCk (bCe N) bHl (H:=cDU) (Lp:=(cCR N)) (hl:=(aAi (l:=[(122,[1,6,24,25,26],aWk),(250,[1,6,43,44,45],aVt)]) (by kernel_rfl) ⟨(aDL (by decide) (aAf (cAY N N))),(aAf (cA7 N N)),trivial⟩))
def aAQ (N:Nat)(a0:ByteArray)(a1:zt7)(a2:zt1)(a3:zt2)(a4:zt0)(a5:zt7)(a6:zt6)(a7:List Int)(a8:Int)(k0:Int->Option R):Option R:=((at? a2 a8).bind fun x1=>(k0 x1.2.2.2.2))
def bQV:CfS R:=u1 (bQT N) 166 ⟨[.p (.cp [.s .s,.s (.sl [.s,hI]),.s (.sl [.s,hI,hI,hI,hI]),.s (.sl [hI,hI,.sl [hI],hI]),.s (.sl [.s,hI,.sl [hI,hI,hI]]),.s (.sl [.s,hI]),.s (.sl [hI,.sl [hI]]),.s (.sl [hI])]),pI],[]⟩ ⟨[pI],[]⟩ (aAQ N)
theorem aSv:FOK (bQV N:CfS R) (aAo T):=uCk (bDN N) bLB
def aDk (a0:ByteArray)(a1:zt7)(a2:zt1)(a3:zt2)(a4:zt0)(a5:zt7)(a6:zt6)(a7:List Int)(a8:ByteArray)(a9:Int)(a10:zt8)(k0:Int->Option R):Option R:=(bif decide (((a10.length:Nat):Int)=0)then (k0 (-1))else ((at? a10 0).bind fun x1=>(aAQ N a0 a1 a2 a3 a4 a5 a6 a7 x1.1 k0)))
def bSd:CfS R:=u1 (bQV N) 114 ⟨[.p (.cp [.s .s,.s (.sl [.s,hI]),.s (.sl [.s,hI,hI,hI,hI]),.s (.sl [hI,hI,.sl [hI],hI]),.s (.sl [.s,hI,.sl [hI,hI,hI]]),.s (.sl [.s,hI]),.s (.sl [hI,.sl [hI]]),.s (.sl [hI])]),.agg [pS,pI,pL zs4]],[]⟩ ⟨[pI],[]⟩ (aDk N)
theorem bEV:FOK (bSd N:CfS R) (aAo T):=uCk (aSv N) bOW
def cD3:Nat->List SP:=fun p=>if p=117 then [⟨[(2,.own 0),(3,pI)],[(0,.arr [hI])]⟩]else []
def cD4:Nat->Option (List Sh):=fun n=>if n=30000 then some [hI]else none
def aCy (k0:List Int->Option R):Nat->zk0 (List Int->zt0->zk1 (List Int->Option R))
 | 0,_,_,_,_,_,_,_,_,_,_,_,_=>none
 | n+1,b0,b1,b2,b3,b4,b5,b6,b7,b8,b9,b10,b11=>(bif decide (b10<b9)then ((at? b8 b10).bind fun x1=>(aDk N b0 b1 b2 b3 b4 b5 b6 b7 x1.1 x1.2.1 x1.2.2 (fun y2=>(bif aBU (b11.length+1) 8 then (aCy k0 n b0 b1 b2 b3 b4 b5 b6 b7 b8 b9 (w64 (b10+1)) (b11++[y2]))else none))))else (k0 b11))
def P145_l0:SP:=⟨[(4,.p (.cp [.s .s,.s (.sl [.s,hI]),.s (.sl [.s,hI,hI,hI,hI]),.s (.sl [hI,hI,.sl [hI],hI]),.s (.sl [.s,hI,.sl [hI,hI,hI]]),.s (.sl [.s,hI]),.s (.sl [hI,.sl [hI]]),.s (.sl [hI])])),(6,.own 0),(18,pL zs0),(19,pI),(20,pI)],[(0,.arr [hI])]⟩
def bZe:Nat->P145_l0.den->KS R->Option R:=eS P145_l0 fun k=>aCy N (qS k (.ex 0) ⟨[(6,.own 0)],[(0,.arr [hI])]⟩)
theorem cB8:LpG T P145_l0 (bZe N (R:=R)) [4,6,18,19,20] bBm:=lpk (bEV N) 250 (H:=cD4) (X:=cD3)
def cCJ:LpS R:=aCc noL 250 (aAx P145_l0 (bZe N N))
def aDm (a0:ByteArray)(a1:zt7)(a2:zt1)(a3:zt2)(a4:zt0)(a5:zt7)(a6:zt6)(k0:zk9 (Option R)):Option R:=(aDo N a0 a1 a2 a3 a4 a5 a6 (fun y1=>(bif decide (y1≠0)then (k0 [] y1)else none)) (fun y2 y3 y4 y5 y6 y7 y8 y9 y10=>(bif decide (y10≠0)then (k0 [] y10)else (aCy N (fun z11=>(k0 z11 0)) N y2 y3 y4 y5 y6 y7 y8 y9 a4 ((a4.length:Nat):Int) 0 []))))
def bSC:CfS R:=u1 (bSd N) 38 ⟨[.agg zb2],[]⟩ ⟨[pL [hI],pI],[]⟩ (aDm N)
theorem bCm:FOK (bSC N:CfS R) (aAo T):=uCk (bEV N) c38 (H:=cD4) (Lp:=(cCJ N)) (X:=cD3) (hl:=(aAi (l:=[(250,[4,6,18,19,20],bBm)]) (by kernel_rfl) ⟨(aAf (cB8 N N)),trivial⟩))
def cEc:Nat->Option (List Sh):=fun n=>if n=3000 then some [hI]else if n=4000 then some [hI]else if n=22000 then some [hI]else if n=42000 then some [hI]else none
def bXf (k0:Bool->Option R):Option R:=(bXp N (fun y1 y2 y3 y4 y5 y6=>(aH3 N y1 y2 y3 y4 y5 y6 [] 0 [1] [3,9,0] (fun y7 y8=>(aIy N 2 (fun y9 y10 y11 y12 y13 y14 y15=>(bif decide (y7≠0)then (k0 false)else (aCr N y8 [9,3,0] (fun y16=>(bif (!y16)then (k0 false)else (bif decide (y15≠0)then (k0 false)else (aDm N y9 y10 y11 y12 y13 y14 [] (fun y17 y18=>(bif decide (y18=0)then (aCr N y17 [0,1] k0)else (k0 false)))))))))))))))
def bSy:CfS R:=u1 (bSC N) 70 ⟨[],[]⟩ ⟨[pB],[]⟩ (bXf N)
theorem aSk:FOK (bSy N:CfS R) (aAo T):=uCk (bCm N) c70 (H:=cEc)
def aA3 (N:Nat)(k0:Bool->Option R)(k1:zk5 (Option R))(b0:ByteArray)(b1 b2:Int)(b3:Bool):Option R:=(bif (!b3)then (bif decide (b1=0)then (k0 false)else (bif decide (b2≠95)then (bif decide (b2<48)then (k0 false)else (bif decide (57<b2)then (k0 false)else (k1 b0 b1)))else (k1 b0 b1)))else (k1 b0 b1))
def P147_j0:SP:=⟨[(0,pS),(3,pI),(4,.p (.s (.i .u8))),(5,pB)],[]⟩
def bYl:Nat->P147_j0.den->KS R->Option R:=jS P147_j0 fun k=>aA3 N (qS k .ret ⟨[(2,pB)],[]⟩) (qS k (.ex 1001865) ⟨[(0,pS),(3,pI)],[]⟩)
theorem cBp:LpG T P147_j0 (bYl N (R:=R)) [0,3,4,5] aTx:=lpk (aSk N) 7462
def bH3:LpS R:=aCc noL 7462 (aAx P147_j0 (bYl N 1))
def aAC (k0:Bool->Option R)(k1:Option R):Nat->zk5 (Option R)
 | 0,_,_=>none
 | n+1,b0,b1=>(bif decide (b1<((b0.size:Nat):Int))then ((aJd b0 b1).bind fun x1=>(bif decide (97<=x1)then (bif decide (x1<=122)then (aA3 N k0 (fun z3 z4=>(aAC k0 k1 n z3 (w64 (z4+1)))) b0 b1 x1 true)else (bif decide (65<=x1)then (aA3 N k0 (fun z6 z7=>(aAC k0 k1 n z6 (w64 (z7+1)))) b0 b1 x1 (decide (x1<=90)))else (aA3 N k0 (fun z9 z10=>(aAC k0 k1 n z9 (w64 (z10+1)))) b0 b1 x1 false)))else (bif decide (65<=x1)then (aA3 N k0 (fun z12 z13=>(aAC k0 k1 n z12 (w64 (z13+1)))) b0 b1 x1 (decide (x1<=90)))else (aA3 N k0 (fun z15 z16=>(aAC k0 k1 n z15 (w64 (z16+1)))) b0 b1 x1 false))))else k1)
def P147_l0:SP:=⟨[(0,pS),(3,pI)],[]⟩
def aWo:Nat->P147_l0.den->KS R->Option R:=eS P147_l0 fun k=>aAC N (qS k .ret ⟨[(2,pB)],[]⟩) (qS k (.ex 0) ⟨[],[]⟩)
theorem bFb:LpG T P147_l0 (aWo N (R:=R)) [0,3] aSc:=lpk (aSk N) 58 (Lp:=(bH3 N)) (hl:=(aAi (l:=[(7462,[0,3,4,5],aTx)]) (by kernel_rfl) ⟨(aAf (cBp N 1)),trivial⟩))
def cCl:LpS R:=aCc (bH3 N) 58 (aAx P147_l0 (aWo N N))
def aBW (a0:ByteArray)(k0:Bool->Option R):Option R:=(bif decide (((a0.size:Nat):Int)<1)then (k0 false)else (bif decide (16<((a0.size:Nat):Int))then (k0 false)else (aAC N k0 (k0 true) N a0 0)))
def bRV:CfS R:=u1 (bSy N) 169 ⟨[pS],[]⟩ ⟨[pB],[]⟩ (aBW N)
theorem bB3:FOK (bRV N:CfS R) (aAo T):=uCk (aSk N) bH7 (Lp:=(cCl N)) (hl:=(aAi (l:=[(58,[0,3],aSc)]) (by kernel_rfl) ⟨(aAf (bFb N N)),trivial⟩))
def aAz (N:Nat)(a0 a1 a2:Int)(k0:Bool->Option R):Option R:=(bif decide (a1<=a0)then (k0 (decide (a0<=a2)))else (k0 false))
def bQm:CfS R:=u1 (bRV N) 14 ⟨[pI,pI,pI],[]⟩ ⟨[pB],[]⟩ (aAz N)
theorem aPL:FOK (bQm N:CfS R) (aAo T):=uCk (bB3 N) c14
def aCz (a0:Int)(k0:Bool->Option R):Option R:=(aAz N a0 1 16 k0)
def bS8:CfS R:=u1 (bQm N) 246 ⟨[pI],[]⟩ ⟨[pB],[]⟩ (aCz N)
theorem bD0:FOK (bS8 N:CfS R) (aAo T):=uCk (aPL N) bNF
def aBJ (N:Nat)(k0:zk1 (Option R))(k1:zt7->Int->Option R):Nat->zt7->zk1 (Option R)
 | 0,_,_,_=>none
 | n+1,b0,b1,b2=>(bif decide (b2<b1)then ((at? b0 b2).bind fun x1=>((at? b0 b1).bind fun x2=>(bif decide (x1.1=x2.1)then (k0 b1 5)else (aBJ N k0 k1 n b0 b1 (w64 (b2+1))))))else (k1 b0 b1))
def P150_l1:SP:=⟨[(0,pL [.s,hI]),(4,pI),(5,pI)],[]⟩
def bZK:Nat->P150_l1.den->KS R->Option R:=eS P150_l1 fun k=>aBJ N (qS k .ret ⟨[(2,pI),(3,pI)],[]⟩) (qS k (.ex 2) ⟨[(0,pL [.s,hI]),(4,pI)],[]⟩)
theorem cBW:LpG T P150_l1 (bZK N (R:=R)) [0,4,5] aWZ:=lpk (bD0 N) 14922
def cAf:LpS R:=aCc noL 14922 (aAx P150_l1 (bZK N N))
def aBM (k0:zk1 (Option R))(k1:Option R):Nat->zt7->Int->Option R
 | 0,_,_=>none
 | n+1,b0,b1=>(bif decide (b1<((b0.length:Nat):Int))then ((at? b0 b1).bind fun x1=>(aBW N x1.1 (fun y2=>(bif (!y2)then (k0 b1 4)else (aBJ N k0 (fun z5 z6=>((at? z5 z6).bind fun x7=>(aCz N x7.2 (fun y8=>(bif (!y8)then (k0 z6 2)else (aBM k0 k1 n z5 (w64 (z6+1)))))))) N b0 b1 0)))))else k1)
def P150_l0:SP:=⟨[(0,pL [.s,hI]),(4,pI)],[]⟩
def bZm:Nat->P150_l0.den->KS R->Option R:=eS P150_l0 fun k=>aBM N (qS k .ret ⟨[(2,pI),(3,pI)],[]⟩) (qS k (.ex 0) ⟨[],[]⟩)
theorem cA0:LpG T P150_l0 (bZm N (R:=R)) [0,4] aW5:=lpk (bD0 N) 58 (Lp:=(cAf N)) (hl:=(aAi (l:=[(14922,[0,4,5],aWZ)]) (by kernel_rfl) ⟨(aAf (cBW N N)),trivial⟩))
def cCW:LpS R:=aCc (cAf N) 58 (aAx P150_l0 (bZm N N))
def aDD (a0:zt7)(k0:zk1 (Option R)):Option R:=(bif decide (12<((a0.length:Nat):Int))then (k0 0 8)else (aBM N k0 (k0 0 0) N a0 0))
def bS3:CfS R:=u1 (bS8 N) 170 ⟨[pL [.s,hI]],[]⟩ ⟨[pI,pI],[]⟩ (aDD N)
theorem aWK:FOK (bS3 N:CfS R) (aAo T):=uCk (bD0 N) bHG (Lp:=(cCW N)) (hl:=(aAi (l:=[(58,[0,4],aW5)]) (by kernel_rfl) ⟨(aAf (cA0 N N)),trivial⟩))
def aEO (N:Nat)(a0:Int)(k0:Int->Option R):Option R:=(bif decide (a0<0)then none else (k0 (aPi .i64 1 a0)))
def bSQ:CfS R:=u1 (bS3 N) 33 ⟨[pI],[]⟩ ⟨[pI],[]⟩ (aEO N)
theorem bF4:FOK (bSQ N:CfS R) (aAo T):=uCk (aWK N) c33
def aEg (a0 a1:Int)(k0:Bool->Option R):Option R:=(aEO N a1 (fun y1=>(aAz N a0 0 (w64 (y1-1)) k0)))
def bQB:CfS R:=u1 (bSQ N) 109 ⟨[pI,pI],[]⟩ ⟨[pB],[]⟩ (aEg N)
theorem bDk:FOK (bQB N:CfS R) (aAo T):=uCk (bF4 N) bNz
def aBc (N:Nat)(k0:zk1 (Option R))(k1:zt7->zt1->Int->Option R):Nat->zt7->zt1->zk1 (Option R)
 | 0,_,_,_,_=>none
 | n+1,b0,b1,b2,b3=>(bif decide (b3<b2)then ((at? b1 b3).bind fun x1=>((at? b1 b2).bind fun x2=>(bif decide (x1.1=x2.1)then (k0 b2 5)else (aBc N k0 k1 n b0 b1 b2 (w64 (b3+1))))))else (k1 b0 b1 b2))
def P153_l1:SP:=⟨[(0,pL [.s,hI]),(1,pL zs2),(6,pI),(7,pI)],[]⟩
def bYP:Nat->P153_l1.den->KS R->Option R:=eS P153_l1 fun k=>aBc N (qS k .ret ⟨[(4,pI),(5,pI)],[]⟩) (qS k (.ex 2) ⟨[(0,pL [.s,hI]),(1,pL zs2),(6,pI)],[]⟩)
theorem cBj:LpG T P153_l1 (bYP N (R:=R)) [0,1,6,7] aTW:=lpk (bDk N) 14922
def cAi:LpS R:=aCc noL 14922 (aAx P153_l1 (bYP N N))
def aBd (N:Nat)(k0:zk1 (Option R))(k1:zt7->zt1->Int->Option R):Nat->zt7->zt1->zk1 (Option R)
 | 0,_,_,_,_=>none
 | n+1,b0,b1,b2,b3=>(bif decide (b3<((b0.length:Nat):Int))then ((at? b0 b3).bind fun x1=>((at? b1 b2).bind fun x2=>(bif decide (x1.1=x2.1)then (k0 b2 5)else (aBd N k0 k1 n b0 b1 b2 (w64 (b3+1))))))else (k1 b0 b1 b2))
def P153_l2:SP:=⟨[(0,pL [.s,hI]),(1,pL zs2),(6,pI),(8,pI)],[]⟩
def bZc:Nat->P153_l2.den->KS R->Option R:=eS P153_l2 fun k=>aBd N (qS k .ret ⟨[(4,pI),(5,pI)],[]⟩) (qS k (.ex 4) ⟨[(0,pL [.s,hI]),(1,pL zs2),(6,pI)],[]⟩)
theorem cBw:LpG T P153_l2 (bZc N (R:=R)) [0,1,6,8] aVz:=lpk (bDk N) 29850 (Lp:=(cAi N))
def cAv:LpS R:=aCc (cAi N) 29850 (aAx P153_l2 (bZc N N))
def aBb (k0:zk1 (Option R))(k1:Option R):Nat->zt7->zt1->Int->Option R
 | 0,_,_,_=>none
 | n+1,b0,b1,b2=>(bif decide (b2<((b1.length:Nat):Int))then ((at? b1 b2).bind fun x1=>(aBW N x1.1 (fun y2=>(bif (!y2)then (k0 b2 4)else (aBc N k0 (fun z5 z6 z7=>(aBd N k0 (fun z10 z11 z12=>((at? z11 z12).bind fun x13=>(aAz N x13.2.1 0 1 (fun y14=>(bif (!y14)then (k0 z12 15)else ((at? z11 z12).bind fun x15=>(aCz N x15.2.2.1 (fun y16=>(bif (!y16)then (k0 z12 2)else ((at? z11 z12).bind fun x17=>((at? z11 z12).bind fun x18=>(aEg N x17.2.2.2.1 x18.2.2.1 (fun y19=>(bif (!y19)then (k0 z12 2)else ((at? z11 z12).bind fun x20=>(aAz N x20.2.2.2.2 0 3 (fun y21=>(bif (!y21)then (k0 z12 2)else (aBb k0 k1 n z10 z11 (w64 (z12+1))))))))))))))))))))) N z5 z6 z7 0)) N b0 b1 b2 0)))))else k1)
def P153_l0:SP:=⟨[(0,pL [.s,hI]),(1,pL zs2),(6,pI)],[]⟩
def bZj:Nat->P153_l0.den->KS R->Option R:=eS P153_l0 fun k=>aBb N (qS k .ret ⟨[(4,pI),(5,pI)],[]⟩) (qS k (.ex 0) ⟨[],[]⟩)
theorem cBd:LpG T P153_l0 (bZj N (R:=R)) [0,1,6] aTC:=lpk (bDk N) 58 (Lp:=(cAv N)) (hl:=(aAi (l:=[(14922,[0,1,6,7],aTW),(29850,[0,1,6,8],aVz)]) (by kernel_rfl) ⟨(aDL (by decide) (aAf (cBj N N))),(aAf (cBw N N)),trivial⟩))
def cCg:LpS R:=aCc (cAv N) 58 (aAx P153_l0 (bZj N N))
def aC0 (a0:zt7)(a1:zt1)(k0:zk1 (Option R)):Option R:=(bif decide (40<(w64 (((a0.length:Nat):Int)+((a1.length:Nat):Int))))then (k0 0 8)else (aBb N k0 (k0 0 0) N a0 a1 0))
def bQP:CfS R:=u1 (bQB N) 171 ⟨[pL [.s,hI],pL zs2],[]⟩ ⟨[pI,pI],[]⟩ (aC0 N)
theorem bFd:FOK (bQP N:CfS R) (aAo T):=uCk (bDk N) bGu (Lp:=(cCg N)) (hl:=(aAi (l:=[(58,[0,1,6],aTC)]) (by kernel_rfl) ⟨(aAf (cBd N N)),trivial⟩))
def cDJ:Nat->Option (List Sh):=fun n=>if n=17000 then some [hI]else if n=36000 then some [hI]else none
def aB5 (N:Nat)(k0:zk0 (List Int->Option R)):Nat->Int->zk0 (List Int->Option R)
 | 0,_,_,_,_,_,_,_,_,_=>none
 | n+1,b0,b1,b2,b3,b4,b5,b6,b7,b8=>(bif decide (b0<((b2.length:Nat):Int))then ((at? b2 b0).bind fun x1=>(bif aBU (b8.length+1) 8 then (aB5 N k0 n (w64 (b0+1)) b1 b2 b3 b4 b5 b6 b7 (b8++[x1.2]))else none))else (k0 b1 b2 b3 b4 b5 b6 b7 b8))
def P154_l0:SP:=⟨[(1,.ptr 0 0),(3,.own 1),(4,pI)],[(0,.box zb2),(1,.arr [hI])]⟩
def bYT:Nat->P154_l0.den->KS R->Option R:=eS P154_l0 fun k=>aB5 N (qS k (.ex 0) ⟨[(1,.ptr 0 0),(3,.own 1)],[(0,.box zb2),(1,.arr [hI])]⟩)
theorem cBs:LpG T P154_l0 (bYT N (R:=R)) [1,3,4] aTS:=lpk (bFd N) 58 (H:=cDJ)
def bZ3:LpS R:=aCc noL 58 (aAx P154_l0 (bYT N N))
def aCa (N:Nat)(k0:List Int->Option R):Nat->Int->zk0 (List Int->Option R)
 | 0,_,_,_,_,_,_,_,_,_=>none
 | n+1,b0,b1,b2,b3,b4,b5,b6,b7,b8=>(bif decide (b0<((b3.length:Nat):Int))then ((at? b3 b0).bind fun x1=>(bif aBU (b8.length+1) 8 then (aCa N k0 n (w64 (b0+1)) b1 b2 b3 b4 b5 b6 b7 (b8++[x1.2.2.1]))else none))else (k0 b8))
def P154_l1:SP:=⟨[(1,.ptr 0 0),(3,.own 1),(5,pI)],[(0,.box zb2),(1,.arr [hI])]⟩
def bZk:Nat->P154_l1.den->KS R->Option R:=eS P154_l1 fun k=>aCa N (qS k (.ex 2) ⟨[(3,.own 0)],[(0,.arr [hI])]⟩)
theorem cA3:LpG T P154_l1 (bZk N (R:=R)) [1,3,5] aSD:=lpk (bFd N) 122 (H:=cDJ) (Lp:=(bZ3 N))
def cCu:LpS R:=aCc (bZ3 N) 122 (aAx P154_l1 (bZk N N))
def aEo (a0:ByteArray)(a1:zt7)(a2:zt1)(a3:zt2)(a4:zt0)(a5:zt7)(a6:zt6)(k0:List Int->Option R):Option R:=(aB5 N (fun z2 z3 z4 z5 z6 z7 z8 z9=>(aCa N k0 N 0 z2 z3 z4 z5 z6 z7 z8 z9)) N 0 a0 a1 a2 a3 a4 a5 a6 [])
def bTg:CfS R:=u1 (bQP N) 173 ⟨[.agg zb2],[]⟩ ⟨[pL [hI]],[]⟩ (aEo N)
theorem bCM:FOK (bTg N:CfS R) (aAo T):=uCk (bFd N) bGR (H:=cDJ) (Lp:=(cCu N)) (hl:=(aAi (l:=[(58,[1,3,4],aTS),(122,[1,3,5],aSD)]) (by kernel_rfl) ⟨(aDL (by decide) (aAf (cBs N N))),(aAf (cA3 N N)),trivial⟩))
def aDJ (N:Nat)(a0:Int)(k0:Int->Option R):Option R:=(bif decide (a0=0)then (k0 0)else (bif decide (a0=1)then (k0 0)else (bif decide (a0=2)then (k0 1)else (bif decide (a0=14)then (k0 1)else (bif decide (a0=15)then (k0 1)else (bif decide (a0=16)then (k0 1)else (bif decide (a0=12)then (k0 3)else (k0 2))))))))
def bRX:CfS R:=u1 (bTg N) 278 ⟨[pI],[]⟩ ⟨[pI],[]⟩ (aDJ N)
theorem bFN:FOK (bRX N:CfS R) (aAo T):=uCk (bCM N) bNW
def cDZ:Nat->Option (List Sh):=fun n=>if n=20000 then some [hI]else none
def aBA (N:Nat)(k0:zk1 (List Int->zk3 (Option R))):Nat->zt2->zk1 (zk3 (zk3 (Option R)))
 | 0,_,_,_,_,_,_,_=>none
 | n+1,b0,b1,b2,b3,b4,b5,b6=>(bif decide (b1<((b4.length:Nat):Int))then ((at? b4 b1).bind fun x1=>((at? b0 x1).bind fun x2=>(bif aBU (b6.length+1) 8 then (aBA N k0 n b0 (w64 (b1+1)) b2 b3 b4 b5 (b6++[x2.2.1]))else none)))else (k0 b2 b3 b4 b5 b6))
def P156_l0:SP:=⟨[(0,pL zs1),(3,.ptr 0 0),(5,.own 1),(6,pI)],[(0,.box zb6),(1,.arr [hI])]⟩
def bZf:Nat->P156_l0.den->KS R->Option R:=eS P156_l0 fun k=>aBA N (qS k (.ex 0) ⟨[(3,.ptr 0 0),(5,.own 1)],[(0,.box zb6),(1,.arr [hI])]⟩)
theorem cBI:LpG T P156_l0 (bZf N (R:=R)) [0,3,5,6] aW1:=lpk (bFN N) 58 (H:=cDZ)
def cCk:LpS R:=aCc noL 58 (aAx P156_l0 (bZf N N))
def aCJ (a0:zt2)(a1 a2:Int)(a3:List Int)(a4:Int)(k0:Bool->Option R):Option R:=(aBA N (fun z3 z4 z5 z6 z7=>(bif decide (z3=2)then (bif inR 0 z7.length then ((z7[0]?).bind fun x8=>(k0 (decide (x8=z4))))else none)else (bif decide (z3=3)then (bif inR 0 z7.length then ((z7[0]?).bind fun x9=>(bif decide (x9=z4)then (bif inR 1 z7.length then ((z7[1]?).bind fun x10=>(k0 (decide (x10=z4))))else none)else (k0 false)))else none)else (bif decide (z3=4)then (bif inR 0 z7.length then ((z7[0]?).bind fun x11=>(bif decide (x11=z4)then (bif inR 1 z7.length then ((z7[1]?).bind fun x12=>(k0 (decide (x12=z4))))else none)else (k0 false)))else none)else (bif decide (z3=5)then (bif inR 0 z7.length then ((z7[0]?).bind fun x13=>(bif decide (x13=z4)then (bif inR 1 z7.length then ((z7[1]?).bind fun x14=>(k0 (decide (x14=z4))))else none)else (k0 false)))else none)else (bif decide (z3=6)then (bif inR 0 z7.length then ((z7[0]?).bind fun x15=>(bif decide (x15=z4)then (bif inR 1 z7.length then ((z7[1]?).bind fun x16=>(k0 (decide (x16=z4))))else none)else (k0 false)))else none)else (bif decide (z3=7)then (bif inR 0 z7.length then ((z7[0]?).bind fun x17=>(bif decide (x17=z4)then (bif inR 1 z7.length then ((z7[1]?).bind fun x18=>(k0 (decide (x18=z4))))else none)else (k0 false)))else none)else (bif decide (z3=8)then (bif inR 0 z7.length then ((z7[0]?).bind fun x19=>(bif decide (x19=z4)then (bif inR 1 z7.length then ((z7[1]?).bind fun x20=>(k0 (decide (x20=z4))))else none)else (k0 false)))else none)else (bif decide (z3=9)then (bif inR 0 z7.length then ((z7[0]?).bind fun x21=>(bif inR 1 z7.length then ((z7[1]?).bind fun x22=>(bif decide (x21=x22)then (k0 (decide (z4=1)))else (k0 false)))else none))else none)else (bif decide (z3=10)then (bif inR 0 z7.length then ((z7[0]?).bind fun x23=>(bif inR 1 z7.length then ((z7[1]?).bind fun x24=>(bif decide (x23=x24)then (k0 (decide (z4=1)))else (k0 false)))else none))else none)else (bif decide (z3=11)then (bif inR 0 z7.length then ((z7[0]?).bind fun x25=>(bif inR 1 z7.length then ((z7[1]?).bind fun x26=>(bif decide (x25=x26)then (k0 (decide (z4=1)))else (k0 false)))else none))else none)else (bif decide (z3=12)then (bif inR 0 z7.length then ((z7[0]?).bind fun x27=>(bif decide (x27=1)then (bif inR 1 z7.length then ((z7[1]?).bind fun x28=>(bif decide (x28=z4)then (bif inR 2 z7.length then ((z7[2]?).bind fun x29=>(k0 (decide (x29=z4))))else none)else (k0 false)))else none)else (k0 false)))else none)else (bif decide (z3=13)then (bif inR 0 z7.length then ((z7[0]?).bind fun x30=>(bif inR 1 z7.length then ((z7[1]?).bind fun x31=>(k0 (decide ((w64 (x30+x31))=z4))))else none))else none)else (bif decide (z3=14)then (bif inR 0 z7.length then ((z7[0]?).bind fun x32=>(k0 (decide ((w64 (z6+z4))<=x32))))else none)else (bif decide (z3=15)then (bif inR 0 z7.length then ((z7[0]?).bind fun x33=>(k0 (decide (x33<=z4))))else none)else (bif decide (z3=16)then (bif inR 0 z7.length then ((z7[0]?).bind fun x34=>(k0 (decide (x34<=z4))))else none)else (bif inR 0 z7.length then ((z7[0]?).bind fun x35=>(k0 (decide (x35=z4))))else none))))))))))))))))) N a0 0 a1 a2 a3 a4 [])
def bQE:CfS R:=u1 (bRX N) 279 ⟨[pL zs1,.agg zb6],[]⟩ ⟨[pB],[]⟩ (aCJ N)
theorem bEc:FOK (bQE N:CfS R) (aAo T):=uCk (bFN N) bL1 (H:=cDZ) (Lp:=(cCk N)) (hl:=(aAi (l:=[(58,[0,3,5,6],aW1)]) (by kernel_rfl) ⟨(aAf (cBI N N)),trivial⟩))
def aBY (k0:Int->Option R)(k1:List Int->zt2->zk1 (zk9 (Option R))):zk4 (zt2->zk1 (zk1 (zk9 (Option R))))
 | 0,_,_,_,_,_,_,_,_=>none
 | n+1,b0,b1,b2,b3,b4,b5,b6,b7=>(bif decide (b3<((b6.length:Nat):Int))then ((at? b6 b3).bind fun x1=>(aAz N x1 0 (w64 (b2-1)) (fun y2=>(bif (!y2)then (k0 9)else (aBY k0 k1 n b0 b1 b2 (w64 (b3+1)) b4 b5 b6 b7)))))else (k1 b0 b1 b4 b5 b6 b7))
def P157_l0:SP:=⟨[(0,pL [hI]),(1,pL zs1),(2,pI),(7,.ptr 0 0),(8,pI)],[(0,.box zb6)]⟩
def bY2:Nat->P157_l0.den->KS R->Option R:=eS P157_l0 fun k=>aBY N (qS k .ret ⟨[(6,pI)],[]⟩) (qS k (.ex 0) ⟨[(0,pL [hI]),(1,pL zs1),(7,.ptr 0 0)],[(0,.box zb6)]⟩)
theorem cA2:LpG T P157_l0 (bY2 N (R:=R)) [0,1,2,7,8] aW0:=lpk (bEc N) 506
def cCM:LpS R:=aCc noL 506 (aAx P157_l0 (bY2 N N))
def aDV (a0:List Int)(a1:zt2)(a2:Int)(k0:Int->Option R):Option R:=((at? a1 a2).bind fun x1=>(aAz N x1.1 0 18 (fun y2=>(bif (!y2)then (k0 15)else (aCz N x1.2.1 (fun y3=>(bif (!y3)then (k0 2)else (aDJ N x1.1 (fun y4=>(bif decide (((x1.2.2.1.length:Nat):Int)≠y4)then (k0 10)else (aBY N k0 (fun z6 z7 z8 z9 z10 z11=>(bif decide (z8=0)then (aEg N z11 z9 (fun y12=>(bif (!y12)then (k0 2)else (k0 0))))else (bif decide (z8=1)then (aAz N z11 0 (w64 (((z6.length:Nat):Int)-1)) (fun y13=>(bif (!y13)then (k0 6)else ((at? z6 z11).bind fun x14=>(bif decide (x14≠z9)then (k0 25)else (k0 0))))))else (bif decide (z8=14)then (aAz N z11 0 15 (fun y15=>(bif (!y15)then (k0 2)else (aCJ N z7 z8 z9 z10 z11 (fun y16=>(bif (!y16)then (k0 25)else (k0 0)))))))else (bif decide (z11≠0)then (k0 3)else (aCJ N z7 z8 z9 z10 z11 (fun y17=>(bif (!y17)then (k0 25)else (k0 0))))))))) N a0 a1 a2 0 x1.1 x1.2.1 x1.2.2.1 x1.2.2.2)))))))))))
def bSr:CfS R:=u1 (bQE N) 247 ⟨[pL [hI],pL zs1,pI],[]⟩ ⟨[pI],[]⟩ (aDV N)
theorem bDC:FOK (bSr N:CfS R) (aAo T):=uCk (bEc N) bLS (Lp:=(cCM N)) (hl:=(aAi (l:=[(506,[0,1,2,7,8],aW0)]) (by kernel_rfl) ⟨(aAf (cA2 N N)),trivial⟩))
def aBG (k0:zk1 (Option R))(k1:Option R):zk4 (zt2->Int->Option R)
 | 0,_,_,_=>none
 | n+1,b0,b1,b2=>(bif decide (b2<((b1.length:Nat):Int))then (aDV N b0 b1 b2 (fun y1=>(bif decide (y1≠0)then (k0 b2 y1)else (aBG k0 k1 n b0 b1 (w64 (b2+1))))))else k1)
def P158_l0:SP:=⟨[(0,pL [hI]),(1,pL zs1),(6,pI)],[]⟩
def bZz:Nat->P158_l0.den->KS R->Option R:=eS P158_l0 fun k=>aBG N (qS k .ret ⟨[(4,pI),(5,pI)],[]⟩) (qS k (.ex 0) ⟨[],[]⟩)
theorem cBA:LpG T P158_l0 (bZz N (R:=R)) [0,1,6] aTo:=lpk (bDC N) 58
def cCb:LpS R:=aCc noL 58 (aAx P158_l0 (bZz N N))
def aDG (a0:List Int)(a1:zt2)(k0:zk1 (Option R)):Option R:=(bif decide (400<((a1.length:Nat):Int))then (k0 0 8)else (aBG N k0 (k0 0 0) N a0 a1 0))
def bRN:CfS R:=u1 (bSr N) 172 ⟨[pL [hI],pL zs1],[]⟩ ⟨[pI,pI],[]⟩ (aDG N)
theorem bFO:FOK (bRN N:CfS R) (aAo T):=uCk (bDC N) bLa (Lp:=(cCb N)) (hl:=(aAi (l:=[(58,[0,1,6],aTo)]) (by kernel_rfl) ⟨(aAf (cBA N N)),trivial⟩))
def aCQ (a0:zt2)(a1:Int)(k0:Bool->Option R):Option R:=(aAz N a1 0 (w64 (((a0.length:Nat):Int)-1)) k0)
def bRo:CfS R:=u1 (bRN N) 248 ⟨[pL zs1,pI],[]⟩ ⟨[pB],[]⟩ (aCQ N)
theorem bBu:FOK (bRo N:CfS R) (aAo T):=uCk (bFO N) bQh
def aCl (a0:zt2)(a1:Int)(k0:Bool->Option R):Option R:=(aCQ N a0 a1 (fun y1=>(bif y1 then ((at? a0 a1).bind fun x2=>(k0 (decide (x2.2.1=1))))else (k0 false))))
def bRT:CfS R:=u1 (bRo N) 174 ⟨[pL zs1,pI],[]⟩ ⟨[pB],[]⟩ (aCl N)
theorem bBU:FOK (bRT N:CfS R) (aAo T):=uCk (bBu N) bP6
def aBx (k0:Int->Option R)(k1:Option R):Nat->zt1->zt2->zt8->Int->Option R
 | 0,_,_,_,_=>none
 | n+1,b0,b1,b2,b3=>(bif decide (b3<((b2.length:Nat):Int))then ((at? b2 b3).bind fun x1=>(aAz N x1.1 0 (w64 (((b0.length:Nat):Int)-1)) (fun y2=>(bif (!y2)then (k0 6)else ((at? b2 b3).bind fun x3=>(aCl N b1 x3.2.1 (fun y4=>(bif (!y4)then (k0 9)else ((at? b2 b3).bind fun x5=>(aCQ N b1 x5.2.2 (fun y6=>(bif (!y6)then (k0 9)else ((at? b2 b3).bind fun x7=>((at? b1 x7.2.2).bind fun x8=>((at? b2 b3).bind fun x9=>((at? b0 x9.1).bind fun x10=>(bif decide (x8.2.1≠x10.2.2.1)then (k0 25)else (aBx k0 k1 n b0 b1 b2 (w64 (b3+1))))))))))))))))))))else k1)
def P161_l0:SP:=⟨[(0,pL zs2),(1,pL zs1),(2,pL zs4),(7,pI)],[]⟩
def bYz:Nat->P161_l0.den->KS R->Option R:=eS P161_l0 fun k=>aBx N (qS k .ret ⟨[(6,pI)],[]⟩) (qS k (.ex 0) ⟨[],[]⟩)
theorem cBc:LpG T P161_l0 (bYz N (R:=R)) [0,1,2,7] aSs:=lpk (bBU N) 58
def cDa:LpS R:=aCc noL 58 (aAx P161_l0 (bYz N N))
def aDp (a0:zt1)(a1:zt2)(a2:zt8)(k0:Int->Option R):Option R:=(bif decide (16<((a2.length:Nat):Int))then (k0 8)else (aBx N k0 (k0 0) N a0 a1 a2 0))
def bQo:CfS R:=u1 (bRT N) 175 ⟨[pL zs2,pL zs1,pL zs4],[]⟩ ⟨[pI],[]⟩ (aDp N)
theorem bBC:FOK (bQo N:CfS R) (aAo T):=uCk (bBU N) bK9 (Lp:=(cDa N)) (hl:=(aAi (l:=[(58,[0,1,2,7],aSs)]) (by kernel_rfl) ⟨(aAf (cBc N N)),trivial⟩))
def aBg (N:Nat)(k0:zk1 (Option R))(k1:zt2->zt7->Int->Option R):Nat->zt2->zt7->zk1 (Option R)
 | 0,_,_,_,_=>none
 | n+1,b0,b1,b2,b3=>(bif decide (b3<b2)then ((at? b1 b3).bind fun x1=>((at? b1 b2).bind fun x2=>(bif decide (x1.1=x2.1)then (k0 b2 5)else (aBg N k0 k1 n b0 b1 b2 (w64 (b3+1))))))else (k1 b0 b1 b2))
def P162_l1:SP:=⟨[(0,pL zs1),(1,pL [.s,hI]),(6,pI),(7,pI)],[]⟩
def bYn:Nat->P162_l1.den->KS R->Option R:=eS P162_l1 fun k=>aBg N (qS k .ret ⟨[(4,pI),(5,pI)],[]⟩) (qS k (.ex 2) ⟨[(0,pL zs1),(1,pL [.s,hI]),(6,pI)],[]⟩)
theorem cBF:LpG T P162_l1 (bYn N (R:=R)) [0,1,6,7] aUh:=lpk (bBC N) 14922
def cAO:LpS R:=aCc noL 14922 (aAx P162_l1 (bYn N N))
def aBi (k0:zk1 (Option R))(k1:Option R):Nat->zt2->zt7->Int->Option R
 | 0,_,_,_=>none
 | n+1,b0,b1,b2=>(bif decide (b2<((b1.length:Nat):Int))then ((at? b1 b2).bind fun x1=>(aBW N x1.1 (fun y2=>(bif (!y2)then (k0 b2 4)else (aBg N k0 (fun z5 z6 z7=>((at? z6 z7).bind fun x8=>(aCQ N z5 x8.2 (fun y9=>(bif (!y9)then (k0 z7 9)else (aBi k0 k1 n z5 z6 (w64 (z7+1)))))))) N b0 b1 b2 0)))))else k1)
def P162_l0:SP:=⟨[(0,pL zs1),(1,pL [.s,hI]),(6,pI)],[]⟩
def bZl:Nat->P162_l0.den->KS R->Option R:=eS P162_l0 fun k=>aBi N (qS k .ret ⟨[(4,pI),(5,pI)],[]⟩) (qS k (.ex 0) ⟨[],[]⟩)
theorem cBi:LpG T P162_l0 (bZl N (R:=R)) [0,1,6] aVl:=lpk (bBC N) 58 (Lp:=(cAO N)) (hl:=(aAi (l:=[(14922,[0,1,6,7],aUh)]) (by kernel_rfl) ⟨(aAf (cBF N N)),trivial⟩))
def cDk:LpS R:=aCc (cAO N) 58 (aAx P162_l0 (bZl N N))
def aCx (a0:zt2)(a1:zt7)(k0:zk1 (Option R)):Option R:=(bif decide (12<((a1.length:Nat):Int))then (k0 0 8)else (aBi N k0 (k0 0 0) N a0 a1 0))
def bQs:CfS R:=u1 (bQo N) 176 ⟨[pL zs1,pL [.s,hI]],[]⟩ ⟨[pI,pI],[]⟩ (aCx N)
theorem bGh:FOK (bQs N:CfS R) (aAo T):=uCk (bBC N) bJU (Lp:=(cDk N)) (hl:=(aAi (l:=[(58,[0,1,6],aVl)]) (by kernel_rfl) ⟨(aAf (cBi N N)),trivial⟩))
def aCP (N:Nat)(k0:Bool->Option R)(k1:Option R):zk4 (zk1 (Option R))
 | 0,_,_,_=>none
 | n+1,b0,b1,b2=>(bif decide (b2<((b0.length:Nat):Int))then ((at? b0 b2).bind fun x1=>(bif decide (x1=b1)then (k0 true)else (aCP N k0 k1 n b0 b1 (w64 (b2+1)))))else k1)
def P163_l0:SP:=⟨[(0,pL [hI]),(1,pI),(5,pI)],[]⟩
def bYM:Nat->P163_l0.den->KS R->Option R:=eS P163_l0 fun k=>aCP N (qS k .ret ⟨[(4,pB)],[]⟩) (qS k (.ex 0) ⟨[],[]⟩)
theorem cBM:LpG T P163_l0 (bYM N (R:=R)) [0,1,5] aZu:=lpk (bGh N) 26
def cCB:LpS R:=aCc noL 26 (aAx P163_l0 (bYM N N))
def aEJ (a0:List Int)(a1:Int)(k0:Bool->Option R):Option R:=(aCP N k0 (k0 false) N a0 a1 0)
def bST:CfS R:=u1 (bQs N) 88 ⟨[pL [hI],pI],[]⟩ ⟨[pB],[]⟩ (aEJ N)
theorem bFi:FOK (bST N:CfS R) (aAo T):=uCk (bGh N) c88 (Lp:=(cCB N)) (hl:=(aAi (l:=[(26,[0,1,5],aZu)]) (by kernel_rfl) ⟨(aAf (cBM N N)),trivial⟩))
def aBw (N:Nat)(k0:zk1 (Option R))(k1:Int->zk0 (zk5 (zt8->Option R))):Nat->zk1 (zk0 (zk5 (zt8->Option R)))
 | 0,_,_,_,_,_,_,_,_,_,_,_,_=>none
 | n+1,b0,b1,b2,b3,b4,b5,b6,b7,b8,b9,b10,b11=>(bif decide (b1<b0)then ((at? b6 b1).bind fun x1=>(bif decide (x1.1=b9)then (k0 b0 5)else (aBw N k0 k1 n b0 (w64 (b1+1)) b2 b3 b4 b5 b6 b7 b8 b9 b10 b11)))else (k1 b0 b2 b3 b4 b5 b6 b7 b8 b9 b10 b11))
def P164_l1:SP:=⟨[(1,.ptr 0 0),(10,pI),(11,.ptr 1 0),(12,pI)],[(0,.box zb2),(1,.box [pS,pI,pL zs4])]⟩
def bZu:Nat->P164_l1.den->KS R->Option R:=eS P164_l1 fun k=>aBw N (qS k .ret ⟨[(2,pI),(3,pI)],[]⟩) (qS k (.ex 2) ⟨[(1,.ptr 0 0),(10,pI),(11,.ptr 1 0)],[(0,.box zb2),(1,.box [pS,pI,pL zs4])]⟩)
theorem cBm:LpG T P164_l1 (bZu N (R:=R)) [1,10,11,12] aUC:=lpk (bFi N) 521370
def cAt:LpS R:=aCc noL 521370 (aAx P164_l1 (bZu N N))
def aBz (k0:zk1 (Option R))(k1:zk0 (Option R)):Nat->Int->zk0 (Option R)
 | 0,_,_,_,_,_,_,_,_=>none
 | n+1,b0,b1,b2,b3,b4,b5,b6,b7=>(bif decide (b0<((b5.length:Nat):Int))then ((at? b5 b0).bind fun x1=>(aBW N x1.1 (fun y2=>(bif (!y2)then (k0 b0 4)else (aBw N k0 (fun z5 z6 z7 z8 z9 z10 z11 z12 z13 z14 z15=>(aCl N z9 z14 (fun y16=>(bif (!y16)then (k0 z5 9)else (aDp N z8 z9 z15 (fun y17=>(bif decide (y17≠0)then (k0 z5 y17)else (aBz k0 k1 n (w64 (z5+1)) z6 z7 z8 z9 z10 z11 z12)))))))) N b0 0 b1 b2 b3 b4 b5 b6 b7 x1.1 x1.2.1 x1.2.2)))))else (k1 b1 b2 b3 b4 b5 b6 b7))
def P164_l0:SP:=⟨[(1,.ptr 0 0),(10,pI)],[(0,.box zb2)]⟩
def bY0:Nat->P164_l0.den->KS R->Option R:=eS P164_l0 fun k=>aBz N (qS k .ret ⟨[(2,pI),(3,pI)],[]⟩) (qS k (.ex 0) ⟨[(1,.ptr 0 0)],[(0,.box zb2)]⟩)
theorem cBG:LpG T P164_l0 (bY0 N (R:=R)) [1,10] aR2:=lpk (bFi N) 1018 (Lp:=(cAt N)) (hl:=(aAi (l:=[(521370,[1,10,11,12],aUC)]) (by kernel_rfl) ⟨(aAf (cBm N N)),trivial⟩))
def cAq:LpS R:=aCc (cAt N) 1018 (aAx P164_l0 (bY0 N N))
def aBB (k0:zk1 (Option R))(k1:Int->zk0 (Option R)):Nat->zk1 (zk0 (zk3 (Option R)))
 | 0,_,_,_,_,_,_,_,_,_,_,_=>none
 | n+1,b0,b1,b2,b3,b4,b5,b6,b7,b8,b9,b10=>(bif decide (b1<((b10.length:Nat):Int))then ((at? b10 b1).bind fun x1=>(aAz N x1 0 (w64 (((b6.length:Nat):Int)-1)) (fun y2=>(bif (!y2)then (k0 b0 6)else (bif slP 0 b1 b10.length then ((at? b10 b1).bind fun x3=>(aEJ N (List.take b1.toNat (List.drop 0 b10)) x3 (fun y4=>(bif y4 then (k0 b0 23)else (aBB k0 k1 n b0 (w64 (b1+1)) b2 b3 b4 b5 b6 b7 b8 b9 b10)))))else none)))))else (k1 b0 b2 b3 b4 b5 b6 b7 b8))
def P164_l3:SP:=⟨[(1,.ptr 0 0),(16,pI),(17,.ptr 1 0),(18,pI)],[(0,.box zb2),(1,.box [pI,pL [hI]])]⟩
def bYU:Nat->P164_l3.den->KS R->Option R:=eS P164_l3 fun k=>aBB N (qS k .ret ⟨[(2,pI),(3,pI)],[]⟩) (qS k (.ex 6) ⟨[(1,.ptr 0 0),(16,pI)],[(0,.box zb2)]⟩)
theorem cB6:LpG T P164_l3 (bYU N (R:=R)) [1,16,17,18] aWy:=lpk (bFi N) 4191390 (Lp:=(cAq N))
def bZ7:LpS R:=aCc (cAq N) 4191390 (aAx P164_l3 (bYU N N))
def aAW (k0:zk1 (Option R))(k1:Option R):Nat->Int->zk0 (Option R)
 | 0,_,_,_,_,_,_,_,_=>none
 | n+1,b0,b1,b2,b3,b4,b5,b6,b7=>(bif decide (b0<((b7.length:Nat):Int))then ((at? b7 b0).bind fun x1=>(aAz N x1.1 0 3 (fun y2=>(bif (!y2)then (k0 b0 15)else (bif decide (((x1.2.length:Nat):Int)=0)then (k0 b0 10)else (bif decide (16<((x1.2.length:Nat):Int))then (k0 b0 10)else (aBB N k0 (fun z7 z8 z9 z10 z11 z12 z13 z14=>(aAW k0 k1 n (w64 (z7+1)) z8 z9 z10 z11 z12 z13 z14)) N b0 0 b1 b2 b3 b4 b5 b6 b7 x1.1 x1.2)))))))else k1)
def P164_l2:SP:=⟨[(1,.ptr 0 0),(16,pI)],[(0,.box zb2)]⟩
def bY3:Nat->P164_l2.den->KS R->Option R:=eS P164_l2 fun k=>aAW N (qS k .ret ⟨[(2,pI),(3,pI)],[]⟩) (qS k (.ex 4) ⟨[],[]⟩)
theorem cB9:LpG T P164_l2 (bY3 N (R:=R)) [1,16] aUc:=lpk (bFi N) 8186 (Lp:=(bZ7 N)) (hl:=(aAi (l:=[(4191390,[1,16,17,18],aWy)]) (by kernel_rfl) ⟨(aAf (cB6 N N)),trivial⟩))
def cCo:LpS R:=aCc (bZ7 N) 8186 (aAx P164_l2 (bY3 N N))
def aDx (a0:ByteArray)(a1:zt7)(a2:zt1)(a3:zt2)(a4:zt0)(a5:zt7)(a6:zt6)(k0:zk1 (Option R)):Option R:=(aBW N a0 (fun y1=>(bif (!y1)then (k0 0 4)else (aDD N a1 (fun y2 y3=>(bif decide (y3≠0)then (k0 y2 y3)else (aC0 N a1 a2 (fun y4 y5=>(bif decide (y5≠0)then (k0 y4 y5)else (aEo N a0 a1 a2 a3 a4 a5 a6 (fun y6=>(aDG N y6 a3 (fun y7 y8=>(bif decide (y8≠0)then (k0 y7 y8)else (bif decide (16<((a4.length:Nat):Int))then (k0 0 8)else (aBz N k0 (fun z20 z21 z22 z23 z24 z25 z26=>(aCx N z23 z25 (fun y27 y28=>(bif decide (y28≠0)then (k0 y27 y28)else (bif decide (16<((z26.length:Nat):Int))then (k0 0 8)else (aAW N k0 (k0 0 0) N 0 z20 z21 z22 z23 z24 z25 z26)))))) N 0 a0 a1 a2 a3 a4 a5 a6))))))))))))))))
def bRJ:CfS R:=u1 (bST N) 120 ⟨[.agg zb2],[]⟩ ⟨[pI,pI],[]⟩ (aDx N)
theorem bEY:FOK (bRJ N:CfS R) (aAo T):=uCk (bFi N) bDo (Lp:=(cCo N)) (hl:=(aAi (l:=[(1018,[1,10],aR2),(8186,[1,16],aUc)]) (by kernel_rfl) ⟨(aDL (by decide) (aDL (by decide) (aAf (cBG N N)))),(aAf (cB9 N N)),trivial⟩))
def aBm (N:Nat)(k0:Int->Bool->Option R)(k1:Int->Option R):Nat->zk1 (Int->zk0 (Option R))
 | 0,_,_,_,_,_,_,_,_,_,_=>none
 | n+1,b0,b1,b2,b3,b4,b5,b6,b7,b8,b9=>((at? b7 b0).bind fun x1=>(bif decide (b2<((x1.2.2.length:Nat):Int))then ((at? b7 b0).bind fun x2=>((at? x2.2.2 b2).bind fun x3=>((at? b5 x3.1).bind fun x4=>(bif decide (b1≠(-1))then (bif decide (x4.2.2.2.2≠b1)then (k0 0 false)else (aBm N k0 k1 n b0 x4.2.2.2.2 (w64 (b2+1)) b3 b4 b5 b6 b7 b8 b9))else (aBm N k0 k1 n b0 x4.2.2.2.2 (w64 (b2+1)) b3 b4 b5 b6 b7 b8 b9)))))else (k1 b1)))
def P165_l0:SP:=⟨[(1,pI),(2,.ptr 0 0),(6,pI),(7,pI)],[(0,.box zb2)]⟩
def bYD:Nat->P165_l0.den->KS R->Option R:=eS P165_l0 fun k=>aBm N (qS k .ret ⟨[(4,pI),(5,pB)],[]⟩) (qS k (.ex 0) ⟨[(6,pI)],[]⟩)
theorem cBB:LpG T P165_l0 (bYD N (R:=R)) [1,2,6,7] aZo:=lpk (bEY N) 58
def cCZ:LpS R:=aCc noL 58 (aAx P165_l0 (bYD N N))
def aDb (a0:ByteArray)(a1:zt7)(a2:zt1)(a3:zt2)(a4:zt0)(a5:zt7)(a6:zt6)(a7:Int)(k0:Int->Bool->Option R):Option R:=(aBm N k0 (fun z7=>(k0 z7 true)) N a7 (-1) 0 a0 a1 a2 a3 a4 a5 a6)
def bTd:CfS R:=u1 (bRJ N) 91 ⟨[.agg zb2,pI],[]⟩ ⟨[pI,pB],[]⟩ (aDb N)
theorem bFh:FOK (bTd N:CfS R) (aAo T):=uCk (bEY N) c91 (Lp:=(cCZ N)) (hl:=(aAi (l:=[(58,[1,2,6,7],aZo)]) (by kernel_rfl) ⟨(aAf (cBB N N)),trivial⟩))
def aA4 (k0:Int->Option R)(k1:Option R):Nat->Int->zk0 (Option R)
 | 0,_,_,_,_,_,_,_,_=>none
 | n+1,b0,b1,b2,b3,b4,b5,b6,b7=>(bif decide (b0<((b5.length:Nat):Int))then (aDb N b1 b2 b3 b4 b5 b6 b7 b0 (fun y1 y2=>(bif (!y2)then (k0 30)else (aA4 k0 k1 n (w64 (b0+1)) b1 b2 b3 b4 b5 b6 b7))))else k1)
def P166_l0:SP:=⟨[(1,.ptr 0 0),(5,pI)],[(0,.box zb2)]⟩
def bZi:Nat->P166_l0.den->KS R->Option R:=eS P166_l0 fun k=>aA4 N (qS k .ret ⟨[(2,pI)],[]⟩) (qS k (.ex 0) ⟨[],[]⟩)
theorem cBO:LpG T P166_l0 (bZi N (R:=R)) [1,5] bAd:=lpk (bFh N) 58
def cDg:LpS R:=aCc noL 58 (aAx P166_l0 (bZi N N))
def aDd (a0:ByteArray)(a1:zt7)(a2:zt1)(a3:zt2)(a4:zt0)(a5:zt7)(a6:zt6)(k0:Int->Option R):Option R:=(aDx N a0 a1 a2 a3 a4 a5 a6 (fun y1 y2=>(bif decide (y2≠0)then (k0 y2)else (aA4 N k0 (k0 0) N 0 a0 a1 a2 a3 a4 a5 a6))))
def bQq:CfS R:=u1 (bTd N) 41 ⟨[.agg zb2],[]⟩ ⟨[pI],[]⟩ (aDd N)
theorem bDG:FOK (bQq N:CfS R) (aAo T):=uCk (bFh N) c41 (Lp:=(cDg N)) (hl:=(aAi (l:=[(58,[1,5],bAd)]) (by kernel_rfl) ⟨(aAf (cBO N N)),trivial⟩))
def bXj (a0:ByteArray)(a1:zt7)(a2:zt1)(a3:zt2)(a4:zt0)(a5:zt7)(a6:zt6)(k0:List Int->Option R):Option R:=(aEo N a0 a1 a2 a3 a4 a5 a6 (fun y1=>(bif slP ((a1.length:Nat):Int) ((y1.length:Nat):Int) y1.length then (k0 (List.take (y1.length-a1.length) (List.drop a1.length y1)))else none)))
def bQD:CfS R:=u1 (bQq N) 135 ⟨[.agg zb2],[]⟩ ⟨[pL [hI]],[]⟩ (bXj N)
theorem bDP:FOK (bQD N:CfS R) (aAo T):=uCk (bDG N) cDy
def bWZ (k0:Bool->Option R)(k1:Option R):zk4 (zk9 (Option R))
 | 0,_,_,_=>none
 | n+1,b0,b1,b2=>(bif decide (b2<((b1.length:Nat):Int))then ((at? b1 b2).bind fun x1=>((at? b0 b2).bind fun x2=>(aEg N x1 x2 (fun y3=>(bif (!y3)then (k0 false)else (bWZ k0 k1 n b0 b1 (w64 (b2+1))))))))else k1)
def P168_l0:SP:=⟨[(0,pL [hI]),(1,pL [hI]),(5,pI)],[]⟩
def bYW:Nat->P168_l0.den->KS R->Option R:=eS P168_l0 fun k=>bWZ N (qS k .ret ⟨[(4,pB)],[]⟩) (qS k (.ex 0) ⟨[],[]⟩)
theorem cBz:LpG T P168_l0 (bYW N (R:=R)) [0,1,5] bZp:=lpk (bDP N) 58
def cC3:LpS R:=aCc noL 58 (aAx P168_l0 (bYW N N))
def bXl (a0 a1:List Int)(k0:Bool->Option R):Option R:=(bif decide (((a0.length:Nat):Int)≠((a1.length:Nat):Int))then (k0 false)else (bWZ N k0 (k0 true) N a0 a1 0))
def bTv:CfS R:=u1 (bQD N) 183 ⟨[pL [hI],pL [hI]],[]⟩ ⟨[pB],[]⟩ (bXl N)
theorem bFq:FOK (bTv N:CfS R) (aAo T):=uCk (bDP N) cDn (Lp:=(cC3 N)) (hl:=(aAi (l:=[(58,[0,1,5],bZp)]) (by kernel_rfl) ⟨(aAf (cBz N N)),trivial⟩))
def bW1 (a0 a1:List Int)(k0:Int->Option R):Option R:=(bif decide (((a1.length:Nat):Int)≠((a0.length:Nat):Int))then (k0 10)else (bXl N a0 a1 (fun y1=>(bif (!y1)then (k0 2)else (k0 0)))))
def bRw:CfS R:=u1 (bTv N) 133 ⟨[pL [hI],pL [hI]],[]⟩ ⟨[pI],[]⟩ (bW1 N)
theorem bEn:FOK (bRw N:CfS R) (aAo T):=uCk (bFq N) cDv
def bW2 (a0:ByteArray)(a1:zt7)(a2:zt1)(a3:zt2)(a4:zt0)(a5:zt7)(a6:zt6)(a7:List Int)(k0:Int->Option R):Option R:=(bXj N a0 a1 a2 a3 a4 a5 a6 (fun y1=>(bW1 N y1 a7 k0)))
def bRc:CfS R:=u1 (bRw N) 56 ⟨[.agg zb2,pL [hI]],[]⟩ ⟨[pI],[]⟩ (bW2 N)
theorem bFe:FOK (bRc N:CfS R) (aAo T):=uCk (bEn N) c56
def bXk (a0:ByteArray)(a1:zt7)(a2:zt1)(a3:zt2)(a4:zt0)(a5:zt7)(a6:zt6)(k0:List Int->Option R):Option R:=(aEo N a0 a1 a2 a3 a4 a5 a6 (fun y1=>(bif slP 0 ((a1.length:Nat):Int) y1.length then (k0 (List.take a1.length (List.drop 0 y1)))else none)))
def bSZ:CfS R:=u1 (bRc N) 134 ⟨[.agg zb2],[]⟩ ⟨[pL [hI]],[]⟩ (bXk N)
theorem bDq:FOK (bSZ N:CfS R) (aAo T):=uCk (bFe N) cDz
def bW4 (a0:ByteArray)(a1:zt7)(a2:zt1)(a3:zt2)(a4:zt0)(a5:zt7)(a6:zt6)(a7:Int)(a8:List Int)(k0:Int->Option R):Option R:=(aAz N a7 0 3 (fun y1=>(bif (!y1)then (k0 2)else (bXk N a0 a1 a2 a3 a4 a5 a6 (fun y2=>(bW1 N y2 a8 k0))))))
def bR9:CfS R:=u1 (bSZ N) 55 ⟨[.agg zb2,.agg [pI,pL [hI]]],[]⟩ ⟨[pI],[]⟩ (bW4 N)
theorem bFu:FOK (bR9 N:CfS R) (aAo T):=uCk (bDq N) c55
def cEm:Nat->Option (List Sh):=fun n=>if n=2000 then some [.s,hI]else none
def aEA (N:Nat)(a0:zt7)(k0:zt7->Option R):Option R:=(bif aBU (0+a0.length) 24 then (k0 a0)else none)
def bTc:CfS R:=u1 (bR9 N) 115 ⟨[pL [.s,hI]],[]⟩ ⟨[pL [.s,hI]],[]⟩ (aEA N)
theorem bFW:FOK (bTc N:CfS R) (aAo T):=uCk (bFu N) bPA (H:=cEm)
def cEn:Nat->Option (List Sh):=fun n=>if n=2000 then some [hI]else none
def aCX (N:Nat)(a0:List Int)(k0:List Int->Option R):Option R:=(bif aBU (0+a0.length) 8 then (k0 a0)else none)
def bRB:CfS R:=u1 (bTc N) 20 ⟨[pL [hI]],[]⟩ ⟨[.own 0],[(0,.arr [hI])]⟩ (aCX N)
theorem bB2:FOK (bRB N:CfS R) (aAo T):=uCk (bFW N) c20 (H:=cEn)
def cD6:Nat->Option (List Sh):=fun n=>if n=4000 then some [hI,hI,.sl [hI],hI]else none
def aBC (k0:zt2->Option R):Nat->zt2->Int->zt2->Option R
 | 0,_,_,_=>none
 | n+1,b0,b1,b2=>(bif decide (b1<((b0.length:Nat):Int))then ((at? b0 b1).bind fun x1=>(bif inR b1 b2.length then ((b2[b1.toNat]?).bind fun x2=>((at? b0 b1).bind fun x3=>(aCX N x3.2.2.1 (fun y4=>(bif inR b1 ((List.set b2 b1.toNat x1).length)then (((List.set b2 b1.toNat x1)[b1.toNat]?).bind fun x5=>(aBC k0 n b0 (w64 (b1+1)) (List.set (List.set b2 b1.toNat x1) b1.toNat (x5.1,x5.2.1,y4,x5.2.2.2))))else none)))))else none))else (k0 b2))
def P175_l0:SP:=⟨[(0,pL zs1),(3,.own 0),(4,pI)],[(0,.arr zs1)]⟩
def bYp:Nat->P175_l0.den->KS R->Option R:=eS P175_l0 fun k=>aBC N (qS k (.ex 0) ⟨[(3,.own 0)],[(0,.arr zs1)]⟩)
theorem cBV:LpG T P175_l0 (bYp N (R:=R)) [0,3,4] aS5:=lpk (bB2 N) 58 (H:=cD6)
def cCQ:LpS R:=aCc noL 58 (aAx P175_l0 (bYp N N))
def aEL (a0:zt2)(k0:zt2->Option R):Option R:=(bif decide (0<=((a0.length:Nat):Int)∧((a0.length:Nat):Int)<=((a0.length:Nat):Int))then (bif aBU a0.length 48 then (aBC N k0 N a0 0 (List.replicate a0.length (0,0,[],0)))else none)else none)
def bQ2:CfS R:=u1 (bRB N) 116 ⟨[pL zs1],[]⟩ ⟨[pL zs1],[]⟩ (aEL N)
theorem bBT:FOK (bQ2 N:CfS R) (aAo T):=uCk (bB2 N) bLH (H:=cD6) (Lp:=(cCQ N)) (hl:=(aAi (l:=[(58,[0,3,4],aS5)]) (by kernel_rfl) ⟨(aAf (cBV N N)),trivial⟩))
def cEi:Nat->Option (List Sh):=fun n=>if n=2000 then some [.s,hI]else none
def aDY (N:Nat)(a0:zt7)(k0:zt7->Option R):Option R:=(bif aBU (0+a0.length) 24 then (k0 a0)else none)
def bSH:CfS R:=u1 (bQ2 N) 117 ⟨[pL [.s,hI]],[]⟩ ⟨[pL [.s,hI]],[]⟩ (aDY N)
theorem bFZ:FOK (bSH N:CfS R) (aAo T):=uCk (bBT N) bPN (H:=cEi)
def cEa:Nat->Option (List Sh):=fun n=>if n=2000 then some [hI,hI,hI]else none
def aEi (N:Nat)(a0:zt8)(k0:zt8->Option R):Option R:=(bif aBU (0+a0.length) 24 then (k0 a0)else none)
def bQC:CfS R:=u1 (bSH N) 118 ⟨[pL zs4],[]⟩ ⟨[pL zs4],[]⟩ (aEi N)
theorem bD7:FOK (bQC N:CfS R) (aAo T):=uCk (bFZ N) bNS (H:=cEa)
def cDr:Nat->Option (List Sh):=fun n=>if n=18000 then some [.s,hI,hI,hI,hI]else if n=27000 then some [.s,hI,.sl [hI,hI,hI]]else if n=62000 then some [hI,.sl [hI]]else none
def aBj (k0:zk6 (Option R)):Nat->Int->zk6 (Option R)
 | 0,_,_,_,_,_,_,_,_,_,_=>none
 | n+1,b0,b1,b2,b3,b4,b5,b6,b7,b8,b9=>(bif decide (b0<((b4.length:Nat):Int))then ((at? b4 b0).bind fun x1=>(bif inR b0 b9.length then ((b9[b0.toNat]?).bind fun x2=>((at? b4 b0).bind fun x3=>(aEi N x3.2.2 (fun y4=>(bif inR b0 ((List.set b9 b0.toNat x1).length)then (((List.set b9 b0.toNat x1)[b0.toNat]?).bind fun x5=>(aBj k0 n (w64 (b0+1)) b1 b2 b3 b4 b5 b6 b7 b8 (List.set (List.set b9 b0.toNat x1) b0.toNat (x5.1,x5.2.1,y4))))else none)))))else none))else (k0 b1 b2 b3 b4 b5 b6 b7 b8 b9))
def P178_l0:SP:=⟨[(1,.ptr 0 0),(2,.ptr 2 0),(3,.own 9),(4,pI)],[(0,.box zb9),(1,.arr zs2),(2,.box bLn),(3,.em 2),(4,.em 5),(5,.em 4),(6,.em 3),(7,.em 2),(8,.em 2),(9,.arr zs0)]⟩
def bZE:Nat->P178_l0.den->KS R->Option R:=eS P178_l0 fun k=>aBj N (qS k (.ex 0) ⟨[(1,.ptr 0 0),(2,.ptr 2 0),(3,.own 9)],[(0,.box zb9),(1,.arr zs2),(2,.box bLn),(3,.em 2),(4,.em 5),(5,.em 4),(6,.em 3),(7,.em 2),(8,.em 2),(9,.arr zs0)]⟩)
theorem cB3:LpG T P178_l0 (bZE N (R:=R)) [1,2,3,4] aZp:=lpk (bD7 N) 250 (H:=cDr)
def cAu:LpS R:=aCc noL 250 (aAx P178_l0 (bZE N N))
def aBk (k0:zk6 (zt6->Option R)):Nat->Int->zk6 (zt6->Option R)
 | 0,_,_,_,_,_,_,_,_,_,_,_=>none
 | n+1,b0,b1,b2,b3,b4,b5,b6,b7,b8,b9,b10=>(bif decide (b0<((b6.length:Nat):Int))then ((at? b6 b0).bind fun x1=>((at? b6 b0).bind fun x2=>(aCX N x2.2 (fun y3=>(bif inR b0 b10.length then ((b10[b0.toNat]?).bind fun x4=>(aBk k0 n (w64 (b0+1)) b1 b2 b3 b4 b5 b6 b7 b8 b9 (List.set b10 b0.toNat (x1.1,y3))))else none)))))else (k0 b1 b2 b3 b4 b5 b6 b7 b8 b9 b10))
def P178_l1:SP:=⟨[(1,.ptr 0 0),(2,.ptr 2 0),(3,.own 9),(5,.own 10),(6,pI)],[(0,.box zb9),(1,.arr zs2),(2,.box bLn),(3,.em 2),(4,.em 5),(5,.em 4),(6,.em 3),(7,.em 2),(8,.em 2),(9,.arr zs0),(10,.arr zs3)]⟩
def bYx:Nat->P178_l1.den->KS R->Option R:=eS P178_l1 fun k=>aBk N (qS k (.ex 2) ⟨[(1,.ptr 0 0),(2,.ptr 2 0),(3,.own 9),(5,.own 10)],[(0,.box zb9),(1,.arr zs2),(2,.box bLn),(3,.em 2),(4,.em 5),(5,.em 4),(6,.em 3),(7,.em 2),(8,.em 2),(9,.arr zs0),(10,.arr zs3)]⟩)
theorem cB4:LpG T P178_l1 (bYx N (R:=R)) [1,2,3,5,6] bAi:=lpk (bD7 N) 1018 (H:=cDr) (Lp:=(cAu N))
def cCU:LpS R:=aCc (cAu N) 1018 (aAx P178_l1 (bYx N N))
def aA6 (a0:ByteArray)(a1:zt7)(a2:zt1)(a3:zt2)(a4:zt0)(a5:zt7)(a6:zt6)(k0:zk0 (Option R)):Option R:=(aEA N a1 (fun y1=>(aEL N a3 (fun y2=>(aDY N a5 (fun y3=>(bif aBU (0+a2.length) 48 then (bif decide (0<=((a4.length:Nat):Int)∧((a4.length:Nat):Int)<=((a4.length:Nat):Int))then (bif aBU a4.length 48 then (aBj N (fun z6 z7 z8 z9 z10 z11 z12 z13 z14=>(bif decide (0<=((z11.length:Nat):Int)∧((z11.length:Nat):Int)<=((z11.length:Nat):Int))then (bif aBU z11.length 32 then (aBk N (fun z15 z16 z17 z18 z19 z20 z21 z22 z23 z24=>(k0 z15 z16 z21 z17 z23 z19 z24)) N 0 z6 z7 z8 z9 z10 z11 z12 z13 z14 (List.replicate z11.length (0,[])))else none)else none)) N 0 a0 y1 y2 a4 y3 a6 a2 (ByteArray.mk #[]) (List.replicate a4.length ((ByteArray.mk #[]),0,[])))else none)else none)else none)))))))
def bS5:CfS R:=u1 (bQC N) 39 ⟨[.agg zb2],[]⟩ ⟨[.agg zb2],[]⟩ (aA6 N)
theorem bC3:FOK (bS5 N:CfS R) (aAo T):=uCk (bD7 N) c39 (H:=cDr) (Lp:=(cCU N)) (hl:=(aAi (l:=[(250,[1,2,3,4],aZp),(1018,[1,2,3,5,6],bAi)]) (by kernel_rfl) ⟨(aDL (by decide) (aAf (cB3 N N))),(aAf (cB4 N N)),trivial⟩))
def bWY (N:Nat)(k0:List Int->Option R):Nat->zt1->zk1 (List Int->Option R)
 | 0,_,_,_,_=>none
 | n+1,b0,b1,b2,b3=>(bif decide (b2<b1)then ((at? b0 b2).bind fun x1=>(bif decide (x1.2.1=1)then (bif inR b2 b3.length then ((b3[b2.toNat]?).bind fun x2=>(bWY N k0 n b0 b1 (w64 (b2+1)) (List.set b3 b2.toNat x1.2.2.2.1)))else none)else (bWY N k0 n b0 b1 (w64 (b2+1)) b3)))else (k0 b3))
def P179_l0:SP:=⟨[(5,.own 0),(12,pL zs2),(13,pI),(14,pI)],[(0,.arr [hI])]⟩
def bZO:Nat->P179_l0.den->KS R->Option R:=eS P179_l0 fun k=>bWY N (qS k (.ex 0) ⟨[(5,.own 0)],[(0,.arr [hI])]⟩)
theorem cBh:LpG T P179_l0 (bZO N (R:=R)) [5,12,13,14] bZw:=lpk (bC3 N) 58
def cDi:LpS R:=aCc noL 58 (aAx P179_l0 (bZO N N))
def bXh (a0:ByteArray)(a1:zt7)(a2:zt1)(a3:zt2)(a4:zt0)(a5:zt7)(a6:zt6)(a7:List Int)(k0:List Int->Option R):Option R:=(bif aBU a7.length 8 then (bWY N k0 N a2 ((a2.length:Nat):Int) 0 a7)else none)
def bS6:CfS R:=u1 (bS5 N) 177 ⟨[.agg zb2,pL [hI]],[]⟩ ⟨[pL [hI]],[]⟩ (bXh N)
theorem bFl:FOK (bS6 N:CfS R) (aAo T):=uCk (bC3 N) cDl (Lp:=(cDi N)) (hl:=(aAi (l:=[(58,[5,12,13,14],bZw)]) (by kernel_rfl) ⟨(aAf (cBh N N)),trivial⟩))
def bXm (a0:ByteArray)(a1:zt7)(a2:zt1)(a3:zt2)(a4:zt0)(a5:zt7)(a6:zt6)(a7:List Int)(k0:zk9 (Option R)):Option R:=(aIF N a0 a1 a2 a3 a4 a5 a6 (fun y1 y2 y3 y4 y5 y6 y7 y8=>(bif decide (y8=0)then (aFL N y1 y2 y3 y4 y5 y6 y7 a7 (fun y9=>(bif decide (y9≠0)then (k0 [] y9)else (bXh N y1 y2 y3 y4 y5 y6 y7 a7 (fun y10=>(k0 y10 0))))))else (bif decide (y8≠0)then (k0 [] y8)else (bXh N y1 y2 y3 y4 y5 y6 y7 a7 (fun y11=>(k0 y11 0)))))))
def bQu:CfS R:=u1 (bS6 N) 124 ⟨[.agg zb2,pL [hI]],[]⟩ ⟨[pL [hI],pI],[]⟩ (bXm N)
theorem bFk:FOK (bQu N:CfS R) (aAo T):=uCk (bFl N) cDt (rp:=[⟨[pL [hI],pI],[]⟩])
def cEq:Nat->Option (List Sh):=fun n=>if n=19000 then some [hI]else none
def aGd (a0:Int)(a1:List Int):Option R:=(aCm N a0 0 3 (fun y1=>(aA8 N y1 2 (fun y2=>none))))
def bSk:CfS R:=u2 (bQu N) 126 ⟨[.p (.nl 0),.agg [pI,pL [hI]]],[]⟩ (aGd N) fun f k=>f
theorem aSW:FOK (bSk N:CfS R) (aAo T):=uCk (bFk N) bLD (H:=cEq)
def aG0 (N:Nat)(k0:Int->Option R)(k1:Option R):zk4 (zk1 (Option R))
 | 0,_,_,_=>none
 | n+1,b0,b1,b2=>(bif decide (b2<b1)then ((at? b0 b2).bind fun x1=>(bif decide (x1≠0)then (k0 x1)else (aG0 N k0 k1 n b0 b1 (w64 (b2+1)))))else k1)
def P182_l0:SP:=⟨[(5,pL [hI]),(6,pI),(7,pI)],[]⟩
def aWr:Nat->P182_l0.den->KS R->Option R:=eS P182_l0 fun k=>aG0 N (qS k .ret ⟨[(2,pI)],[]⟩) (qS k (.ex 0) ⟨[],[]⟩)
theorem bBF:LpG T P182_l0 (aWr N (R:=R)) [5,6,7] aSF:=lpk (aSW N) 26
def bHS:LpS R:=aCc noL 26 (aAx P182_l0 (aWr N N))
def aHk (a0:List Int)(k0:Int->Option R):Option R:=(aG0 N k0 (k0 0) N a0 ((a0.length:Nat):Int) 0)
def bQL:CfS R:=u1 (bSk N) 125 ⟨[pL [hI]],[]⟩ ⟨[pI],[]⟩ (aHk N)
theorem aVp:FOK (bQL N:CfS R) (aAo T):=uCk (aSW N) bLt (Lp:=(bHS N)) (hl:=(aAi (l:=[(26,[5,6,7],aSF)]) (by kernel_rfl) ⟨(aAf (bBF N N)),trivial⟩))
def aFo (a0 a1:Int)(a2:ByteArray)(a3:zt7)(a4:zt1)(a5:zt2)(a6:zt0)(a7:zt7)(a8:zt6)(a9:List Int)(k0:Int->zk0 (List Int->Option R)):Option R:=((at? a9 a0).bind fun x1=>(bif decide (x1<0)then none else (aCm N a1 0 (w64 ((aPi .i64 1 x1)-1)) (fun y2=>(aA8 N y2 2 (fun y3=>(k0 y3 a2 a3 a4 a5 a6 a7 a8 a9)))))))
def bRI:CfS R:=u2 (bQL N) 179 ⟨[pI,pI,.ptr 0 0],[(0,.box zb3)]⟩ (aFo N) fun f k=>f (qA k [0] ⟨[pI],[(0,.box zb3)]⟩)
theorem bGk:FOK (bRI N:CfS R) (aAo T):=uCk (aVp N) bN5
def aB1 (k0:Int->zk0 (List Int->Option R))(k1:zk0 (List Int->Option R)):zk4 (zk1 (zk0 (List Int->Option R)))
 | 0,_,_,_,_,_,_,_,_,_,_,_=>none
 | n+1,b0,b1,b2,b3,b4,b5,b6,b7,b8,b9,b10=>(bif decide (b2<b1)then ((at? b0 b2).bind fun x1=>(aFo N b2 x1 b3 b4 b5 b6 b7 b8 b9 b10 (fun y2 y3 y4 y5 y6 y7 y8 y9 y10=>(bif decide (y2≠0)then (k0 y2 y3 y4 y5 y6 y7 y8 y9 y10)else (aB1 k0 k1 n b0 b1 (w64 (b2+1)) y3 y4 y5 y6 y7 y8 y9 y10)))))else (k1 b3 b4 b5 b6 b7 b8 b9 b10))
def P184_l0:SP:=⟨[(1,.fn 179 [.ptr 0 0]),(8,pL [hI]),(9,pI),(10,pI),(100001,.fn 179 [.ptr 0 0])],[(0,.box zb3)]⟩
def bYL:Nat->P184_l0.den->KS R->Option R:=eS P184_l0 fun k=>aB1 N (qS k .ret ⟨[(4,pI),(100001,.fn 179 [.ptr 0 0])],[(0,.box zb3)]⟩) (qS k (.ex 0) ⟨[(100001,.fn 179 [.ptr 0 0])],[(0,.box zb3)]⟩)
theorem cBC:LpG T P184_l0 (bYL N (R:=R)) [1,8,9,10] aTi:=lpk (bGk N) 26
def cCF:LpS R:=aCc noL 26 (aAx P184_l0 (bYL N N))
def aDq (a0:List Int)(a1:ByteArray)(a2:zt7)(a3:zt1)(a4:zt2)(a5:zt0)(a6:zt7)(a7:zt6)(a8:List Int)(k0:Int->zk0 (List Int->Option R)):Option R:=(aB1 N k0 (fun z20 z21 z22 z23 z24 z25 z26 z27=>(k0 0 z20 z21 z22 z23 z24 z25 z26 z27)) N a0 ((a0.length:Nat):Int) 0 a1 a2 a3 a4 a5 a6 a7 a8)
def bSI:CfS R:=u2 (bRI N) 178 ⟨[pL [hI],.fn 179 [.ptr 0 0]],[(0,.box zb3)]⟩ (aDq N) fun f k=>f (qA k [0] ⟨[pI],[(0,.box zb3)]⟩)
theorem bGc:FOK (bSI N:CfS R) (aAo T):=uCk (bGk N) bLj (Lp:=(cCF N)) (hl:=(aAi (l:=[(26,[1,8,9,10],aTi)]) (by kernel_rfl) ⟨(aAf (cBC N N)),trivial⟩))
def bWn:Nat->Option (List Sh):=fun n=>if n=19000 then some [hI]else none
def aFp (a0:ByteArray)(a1:zt7)(a2:zt1)(a3:zt2)(a4:zt0)(a5:zt7)(a6:zt6)(a7:List Int)(a8:Int)(a9:List Int)(k0:Int->Option R):Option R:=(aCm N a8 0 3 (fun y1=>(aA8 N y1 2 (fun y2=>(aA8 N (decide (((a9.length:Nat):Int)=((a1.length:Nat):Int))) 10 (fun y3=>(aHk N [y2,y3] (fun y4=>(bif decide (y4≠0)then (k0 y4)else (aDq N a9 a0 a1 a2 a3 a4 a5 a6 a7 (fun y5 y6 y7 y8 y9 y10 y11 y12 y13=>(k0 y5))))))))))))
def bTp:CfS R:=u1 (bSI N) 126 ⟨[.p (.cp [.s .s,.s (.sl [.s,hI]),.s (.sl [.s,hI,hI,hI,hI]),.s (.sl [hI,hI,.sl [hI],hI]),.s (.sl [.s,hI,.sl [hI,hI,hI]]),.s (.sl [.s,hI]),.s (.sl [hI,.sl [hI]]),.s (.sl [hI])]),.agg [pI,pL [hI]]],[]⟩ ⟨[pI],[]⟩ (aFp N)
theorem bB6:FOK (bTp N:CfS R) (aAo T):=uCk (bGc N) bLD (H:=bWn)
def aGf (N:Nat)(a0:ByteArray)(a1 a2 a3 a4 a5:Int)(a6:List Int)(k0:Bool->zk3 (Option R)):Option R:=(bif decide (a1=1)then (k0 (decide (a4=a5)) a5 a6)else (k0 false a5 a6))
def bSh:CfS R:=u2 (bTp N) 180 ⟨[.agg [pS,pI,pI,pI,pI],.ptr 0 0],[(0,.box [pI,pL [hI]])]⟩ (aGf N) fun f k=>f (qA k [0] ⟨[pB],[(0,.box [pI,pL [hI]])]⟩)
theorem aUs:FOK (bSh N:CfS R) (aAo T):=uCk (bB6 N) bNk
def aA7 (k0:List Int->zk3 (Option R)):Nat->zt1->zk1 (List Int->zk3 (Option R))
 | 0,_,_,_,_,_,_=>none
 | n+1,b0,b1,b2,b3,b4,b5=>(bif decide (b2<b1)then ((at? b0 b2).bind fun x1=>(aGf N x1.1 x1.2.1 x1.2.2.1 x1.2.2.2.1 x1.2.2.2.2 b4 b5 (fun y2 y3 y4=>(bif y2 then (bif inR b2 b3.length then ((b3[b2.toNat]?).bind fun x5=>(aA7 k0 n b0 b1 (w64 (b2+1)) (List.set b3 b2.toNat x1.2.2.2.1) y3 y4))else none)else (aA7 k0 n b0 b1 (w64 (b2+1)) b3 y3 y4)))))else (k0 b3 b4 b5))
def P187_l0:SP:=⟨[(1,.own 0),(2,.fn 180 [.ptr 1 0]),(12,pL zs2),(13,pI),(14,pI),(100001,.own 0),(100002,.fn 180 [.ptr 1 0])],[(0,.arr [hI]),(1,.box [pI,pL [hI]])]⟩
def aT3:Nat->P187_l0.den->KS R->Option R:=eS P187_l0 fun k=>aA7 N (qS k (.ex 0) ⟨[(100001,.own 0),(100002,.fn 180 [.ptr 1 0])],[(0,.arr [hI]),(1,.box [pI,pL [hI]])]⟩)
theorem bD5:LpG T P187_l0 (aT3 N (R:=R)) [1,2,12,13,14] aT0:=lpk (aUs N) 6
def bI0:LpS R:=aCc noL 6 (aAx P187_l0 (aT3 N N))
def aCg (a0:ByteArray)(a1:zt7)(a2:zt1)(a3:zt2)(a4:zt0)(a5:zt7)(a6:zt6)(a7 a8:List Int)(a9:Int)(a10:List Int)(k0:List Int->zk3 (Option R)):Option R:=(aA7 N k0 N a2 ((a2.length:Nat):Int) 0 a8 a9 a10)
def bSx:CfS R:=u2 (bSh N) 130 ⟨[.p (.cp [.s .s,.s (.sl [.s,hI]),.s (.sl [.s,hI,hI,hI,hI]),.s (.sl [hI,hI,.sl [hI],hI]),.s (.sl [.s,hI,.sl [hI,hI,hI]]),.s (.sl [.s,hI]),.s (.sl [hI,.sl [hI]]),.s (.sl [hI])]),.own 0,.fn 180 [.ptr 1 0]],[(0,.arr [hI]),(1,.box [pI,pL [hI]])]⟩ (aCg N) fun f k=>f (qA k [0,1] ⟨[],[(0,.arr [hI]),(1,.box [pI,pL [hI]])]⟩)
theorem aUq:FOK (bSx N:CfS R) (aAo T):=uCk (aUs N) bLv (Lp:=(bI0 N)) (hl:=(aAi (l:=[(6,[1,2,12,13,14],aT0)]) (by kernel_rfl) ⟨(aAf (bD5 N N)),trivial⟩))
def bRe:Nat->Option (List Sh):=fun n=>if n=53000 then some [hI]else none
def aCH (k0:zk0 (zk8 (zk3 (List Int->Option R)))):Nat->zk0 (List Int->zt0->zk1 (zk3 (zk8 (Option R))))
 | 0,_,_,_,_,_,_,_,_,_,_,_,_,_,_,_=>none
 | n+1,b0,b1,b2,b3,b4,b5,b6,b7,b8,b9,b10,b11,b12,b13,b14=>(bif decide (b10<b9)then ((at? b8 b10).bind fun x1=>(aDk N b0 b1 b2 b3 b4 b5 b6 b7 x1.1 x1.2.1 x1.2.2 (fun y2=>(bif decide (y2≠b11)then (aCH k0 n b0 b1 b2 b3 b4 b5 b6 b7 b8 b9 (w64 (b10+1)) b11 b12 b13 b14)else (aH3 N b0 b1 b2 b3 b4 b5 b6 b10 b12 b13 (fun y3 y4=>(bif decide (y3=0)then (bif aBU (b14.length+1) 8 then (aCH k0 n b0 b1 b2 b3 b4 b5 b6 b7 b8 b9 (w64 (b10+1)) b11 b12 y4 (b14++[b10]))else none)else (aCH k0 n b0 b1 b2 b3 b4 b5 b6 b7 b8 b9 (w64 (b10+1)) b11 b12 b13 b14))))))))else (k0 b0 b1 b2 b3 b4 b5 b6 b7 b13 b11 b12 b14))
def P188_l0:SP:=⟨[(0,.p (.cp [.s .s,.s (.sl [.s,hI]),.s (.sl [.s,hI,hI,hI,hI]),.s (.sl [hI,hI,.sl [hI],hI]),.s (.sl [.s,hI,.sl [hI,hI,hI]]),.s (.sl [.s,hI]),.s (.sl [hI,.sl [hI]]),.s (.sl [hI])])),(4,.ptr 0 0),(8,.own 1),(9,.fn 180 [.ptr 0 0]),(10,.own 2),(26,pL zs0),(27,pI),(28,pI)],[(0,.box [pI,pL [hI]]),(1,.arr [hI]),(2,.arr [hI])]⟩
def bZs:Nat->P188_l0.den->KS R->Option R:=eS P188_l0 fun k=>aCH N (qS k (.ex 0) ⟨[(0,.p (.cp [.s .s,.s (.sl [.s,hI]),.s (.sl [.s,hI,hI,hI,hI]),.s (.sl [hI,hI,.sl [hI],hI]),.s (.sl [.s,hI,.sl [hI,hI,hI]]),.s (.sl [.s,hI]),.s (.sl [hI,.sl [hI]]),.s (.sl [hI])])),(8,.own 0),(9,.fn 180 [.ptr 1 0]),(10,.own 2)],[(0,.arr [hI]),(1,.box [pI,pL [hI]]),(2,.arr [hI])]⟩)
theorem cBf:LpG T P188_l0 (bZs N (R:=R)) [0,4,8,9,10,26,27,28] aTa:=lpk (aUq N) 506 (H:=bRe)
def bKU:LpS R:=aCc noL 506 (aAx P188_l0 (bZs N N))
def aFF (a0:ByteArray)(a1:zt7)(a2:zt1)(a3:zt2)(a4:zt0)(a5:zt7)(a6:zt6)(a7:List Int)(a8:Int)(a9 a10:List Int)(k0:zk8 (Option R)):Option R:=(bif aBU a10.length 8 then (aCg N a0 a1 a2 a3 a4 a5 a6 a7 a10 a8 a9 (fun y1 y2 y3=>(aCH N (fun z5 z6 z7 z8 z9 z10 z11 z12 z13 z14 z15 z16=>(aCg N z5 z6 z7 z8 z9 z10 z11 z12 z13 z14 z15 (fun y17 y18 y19=>(k0 y17 z16)))) N a0 a1 a2 a3 a4 a5 a6 a7 a4 ((a4.length:Nat):Int) 0 y2 y3 y1 [])))else none)
def bRE:CfS R:=u1 (bSx N) 127 ⟨[.p (.cp [.s .s,.s (.sl [.s,hI]),.s (.sl [.s,hI,hI,hI,hI]),.s (.sl [hI,hI,.sl [hI],hI]),.s (.sl [.s,hI,.sl [hI,hI,hI]]),.s (.sl [.s,hI]),.s (.sl [hI,.sl [hI]]),.s (.sl [hI])]),.agg [pI,pL [hI]],pL [hI]],[]⟩ ⟨[pL [hI],pL [hI]],[]⟩ (aFF N)
theorem aUI:FOK (bRE N:CfS R) (aAo T):=uCk (aUq N) bLu (H:=bRe) (Lp:=(bKU N)) (hl:=(aAi (l:=[(506,[0,4,8,9,10,26,27,28],aTa)]) (by kernel_rfl) ⟨(aAf (cBf N N)),trivial⟩))
def bS1:Nat->Option (List Sh):=fun n=>if n=31000 then some [hI]else none
def bXg (a0:ByteArray)(a1:zt7)(a2:zt1)(a3:zt2)(a4:zt0)(a5:zt7)(a6:zt6)(a7:Int)(a8 a9:List Int)(k0:zk8 (Int->Option R)):Option R:=(aDo N a0 a1 a2 a3 a4 a5 a6 (fun y1=>(bif decide (y1≠0)then (k0 [] [] y1)else (bXm N a0 a1 a2 a3 a4 a5 a6 a9 (fun y2 y3=>(aGd N a7 a8))))) (fun y4 y5 y6 y7 y8 y9 y10 y11 y12=>(bif decide (y12≠0)then (k0 [] [] y12)else (bXm N a0 a1 a2 a3 a4 a5 a6 a9 (fun y13 y14=>(aFp N y4 y5 y6 y7 y8 y9 y10 y11 a7 a8 (fun y15=>(aHk N [y15,y14] (fun y16=>(bif decide (y16≠0)then (k0 [] [] y16)else (aFF N y4 y5 y6 y7 y8 y9 y10 y11 a7 a8 a9 (fun y17 y18=>(k0 y17 y18 0)))))))))))))
def bTh:CfS R:=u1 (bRE N) 53 ⟨[.agg zb2,.agg [pI,pL [hI]],pL [hI]],[]⟩ ⟨[pL [hI],pL [hI],pI],[]⟩ (bXg N)
theorem aWn:FOK (bTh N:CfS R) (aAo T):=uCk (aUI N) c53 (H:=bS1) (rp:=[⟨[pL [hI],pL [hI],pI],[]⟩])
def bTo:Nat->Option (List Sh):=fun n=>if n=41000 then some [hI,hI]else none
def aFx (N:Nat):Option R:=none
def bSA:CfS R:=u2 (bTh N) 119 ⟨[.p (.nl 0)],[]⟩ (aFx N) fun f k=>f
theorem bCf:FOK (bSA N:CfS R) (aAo T):=uCk (aWn N) bGF (H:=bTo) (hl:=(aAi (l:=[(58,[0,3,13,14,15],aQa)]) (by kernel_rfl) ⟨(fun _ _ _ h=>by cases h),trivial⟩))
def cD8:Nat->Option (List Sh):=fun n=>if n=6000 then some [hI,hI]else if n=27000 then some [hI,hI]else none
def aDK (N:Nat)(k0:(List (Int×Int))->Option R):Nat->zt8->zk1 ((List (Int×Int))->Option R)
 | 0,_,_,_,_=>none
 | n+1,b0,b1,b2,b3=>(bif decide (b2<b1)then ((at? b0 b2).bind fun x1=>(bif aBU (b3.length+2) 16 then (aDK N k0 n b0 b1 (w64 (b2+1)) (b3++[(x1.2.1,(-1)),(x1.2.2,b2)]))else none))else (k0 b3))
def P191_l0:SP:=⟨[(3,.own 0),(11,pL zs4),(12,pI),(13,pI)],[(0,.arr [hI,hI])]⟩
def bY1:Nat->P191_l0.den->KS R->Option R:=eS P191_l0 fun k=>aDK N (qS k (.ex 0) ⟨[(3,.own 0)],[(0,.arr [hI,hI])]⟩)
theorem cA6:LpG T P191_l0 (bY1 N (R:=R)) [3,11,12,13] aVx:=lpk (bCf N) 58 (H:=cD8)
def cCf:LpS R:=aCc noL 58 (aAx P191_l0 (bY1 N N))
def aGn (a0:ByteArray)(a1:Int)(a2:zt8)(k0:(List (Int×Int))->Option R):Option R:=(aDK N k0 N a2 ((a2.length:Nat):Int) 0 [(a1,(-1))])
def bTf:CfS R:=u1 (bSA N) 188 ⟨[.agg [pS,pI,pL zs4]],[]⟩ ⟨[pL [hI,hI]],[]⟩ (aGn N)
theorem bE4:FOK (bTf N:CfS R) (aAo T):=uCk (bCf N) bLw (H:=cD8) (Lp:=(cCf N)) (hl:=(aAi (l:=[(58,[3,11,12,13],aVx)]) (by kernel_rfl) ⟨(aAf (cA6 N N)),trivial⟩))
def aFS (a0:Int)(a1:zt2)(k0:Bool->zt2->Option R):Option R:=(aC6 N a0 0 (w64 (((a1.length:Nat):Int)-1)) (fun y1=>(k0 (!y1) a1)))
def bQx:CfS R:=u2 (bTf N) 333 ⟨[pI,.ptr 0 0],[(0,.box [pL zs1])]⟩ (aFS N) fun f k=>f (qA k [0] ⟨[pB],[(0,.box [pL zs1])]⟩)
theorem bE3:FOK (bQx N:CfS R) (aAo T):=uCk (bE4 N) bOz
def aAv (k0:Int->zt2->Option R)(k1:zt2->Option R):zk4 (zk1 (zt2->Option R))
 | 0,_,_,_,_=>none
 | n+1,b0,b1,b2,b3=>(bif decide (b2<b1)then ((at? b0 b2).bind fun x1=>(aFS N x1 b3 (fun y2 y3=>(bif y2 then (k0 b2 y3)else (aAv k0 k1 n b0 b1 (w64 (b2+1)) y3)))))else (k1 b3))
def P193_l0:SP:=⟨[(0,pL [hI]),(1,.fn 333 [.ptr 0 0]),(7,pI),(8,pI),(100001,.fn 333 [.ptr 0 0])],[(0,.box [pL zs1])]⟩
def bYu:Nat->P193_l0.den->KS R->Option R:=eS P193_l0 fun k=>aAv N (qS k .ret ⟨[(4,pI),(100001,.fn 333 [.ptr 0 0])],[(0,.box [pL zs1])]⟩) (qS k (.ex 0) ⟨[(100001,.fn 333 [.ptr 0 0])],[(0,.box [pL zs1])]⟩)
theorem cBE:LpG T P193_l0 (bYu N (R:=R)) [0,1,7,8] aJF:=lpk (bE3 N) 26
def cCN:LpS R:=aCc noL 26 (aAx P193_l0 (bYu N N))
def aBV (a0:List Int)(a1:zt2)(k0:Int->zt2->Option R):Option R:=(aAv N k0 (fun z6=>(k0 (-1) z6)) N a0 ((a0.length:Nat):Int) 0 a1)
def bR1:CfS R:=u2 (bQx N) 327 ⟨[pL [hI],.fn 333 [.ptr 0 0]],[(0,.box [pL zs1])]⟩ (aBV N) fun f k=>f (qA k [0] ⟨[pI],[(0,.box [pL zs1])]⟩)
theorem bC9:FOK (bR1 N:CfS R) (aAo T):=uCk (bE3 N) bGy (Lp:=(cCN N)) (hl:=(aAi (l:=[(26,[0,1,7,8],aJF)]) (by kernel_rfl) ⟨(aAf (cBE N N)),trivial⟩))
def aBu (a0:List Int)(a1:zt2)(k0:Bool->zt2->Option R):Option R:=(aBV N a0 a1 (fun y1 y2=>(k0 (decide (0<=y1)) y2)))
def bTl:CfS R:=u2 (bR1 N) 275 ⟨[pL [hI],.fn 333 [.ptr 0 0]],[(0,.box [pL zs1])]⟩ (aBu N) fun f k=>f (qA k [0] ⟨[pB],[(0,.box [pL zs1])]⟩)
theorem bDn:FOK (bTl N:CfS R) (aAo T):=uCk (bC9 N) bHV
def bUl:Nat->Option (List Sh):=fun n=>if n=13000 then some [hI]else none
def aHl (a0:List Int)(a1:zt2)(a2:List Int)(k0:Int->Option R):Option R:=(aBu N a2 a1 (fun y1 y2=>(aGa N a0 y2 (fun y3=>(aAy N (!y1) 6 (fun y4=>(aC8 N [y3,y4] k0)))))))
def bRd:CfS R:=u1 (bTl N) 291 ⟨[pL [hI],pL zs1,pL [hI]],[]⟩ ⟨[pI],[]⟩ (aHl N)
theorem bER:FOK (bRd N:CfS R) (aAo T):=uCk (bDn N) bOQ (H:=bUl)
def bWD:Nat->Option (List Sh):=fun n=>if n=29000 then some [hI]else none
def aBl (N:Nat)(k0:List Int->Option R):Nat->zt2->zk1 (List Int->List Bool->Option R)
 | 0,_,_,_,_,_=>none
 | n+1,b0,b1,b2,b3,b4=>(bif decide (b2<b1)then ((at? b0 b2).bind fun x1=>(bif inR b2 b4.length then ((b4[b2.toNat]?).bind fun x2=>(bif x2 then (bif decide (x1.1=1)then (bif aBU (b3.length+1) 8 then (aBl N k0 n b0 b1 (w64 (b2+1)) (b3++[x1.2.2.2]) b4)else none)else (aBl N k0 n b0 b1 (w64 (b2+1)) b3 b4))else (aBl N k0 n b0 b1 (w64 (b2+1)) b3 b4)))else none))else (k0 b3))
def P196_l0:SP:=⟨[(5,.own 0),(6,.own 1),(12,pL zs1),(13,pI),(14,pI)],[(0,.arr [hI]),(1,.arr [.b])]⟩
def bZC:Nat->P196_l0.den->KS R->Option R:=eS P196_l0 fun k=>aBl N (qS k (.ex 0) ⟨[(5,.own 0)],[(0,.arr [hI])]⟩)
theorem cBU:LpG T P196_l0 (bZC N (R:=R)) [5,6,12,13,14] aTb:=lpk (bER N) 122 (H:=bWD)
def cCj:LpS R:=aCc noL 122 (aAx P196_l0 (bZC N N))
def aDN (a0:zt2)(a1:List Int)(k0:List Int->Option R):Option R:=(bif aOe (aEr a0) a1 then (aBl N (fun z3=>(bif decide (z3.length<4611686018427387904)then (bif decide ((aNV z3).length<4611686018427387904)then (k0 (aLR (aNV z3)))else none)else none)) N a0 ((a0.length:Nat):Int) 0 [] (aOd (aEr a0) a1))else none)
def bSL:CfS R:=u1 (bRd N) 292 ⟨[pL zs1,pL [hI]],[]⟩ ⟨[pL [hI]],[]⟩ (aDN N)
theorem bCJ:FOK (bSL N:CfS R) (aAo T):=uCk (bER N) bLG (H:=bWD) (Lp:=(cCj N)) (hl:=(aAi (l:=[(122,[5,6,12,13,14],aTb)]) (by kernel_rfl) ⟨(aAf (cBU N N)),trivial⟩))
def aF7 (a0:List Int)(a1:zt2)(a2:List Int)(k0:zk9 (Option R)):Option R:=(aHl N a0 a1 a2 (fun y1=>(bif decide (y1≠0)then (k0 [] y1)else (aDN N a1 a2 (fun y2=>(k0 y2 0))))))
def bSa:CfS R:=u1 (bSL N) 254 ⟨[pL [hI],pL zs1,pL [hI]],[]⟩ ⟨[pL [hI],pI],[]⟩ (aF7 N)
theorem bFB:FOK (bSa N:CfS R) (aAo T):=uCk (bCJ N) bME (rp:=[⟨[pL [hI],pI],[]⟩])
def cD5:Nat->Option (List Sh):=fun n=>if n=43000 then some [hI]else none
def aBo (N:Nat)(k0:List Int->Option R):Nat->zk0 (zk8 (zk1 (List Int->Option R)))
 | 0,_,_,_,_,_,_,_,_,_,_,_,_=>none
 | n+1,b0,b1,b2,b3,b4,b5,b6,b7,b8,b9,b10,b11=>(bif decide (b10<b9)then ((at? b8 b10).bind fun x1=>(bif decide (((b1.length:Nat):Int)<=x1)then (bif aBU (b11.length+1) 8 then (aBo N k0 n b0 b1 b2 b3 b4 b5 b6 b7 b8 b9 (w64 (b10+1)) (b11++[(w64 (x1-((b1.length:Nat):Int)))]))else none)else (aBo N k0 n b0 b1 b2 b3 b4 b5 b6 b7 b8 b9 (w64 (b10+1)) b11)))else (k0 b11))
def P198_l0:SP:=⟨[(0,.p (.cp [.s .s,.s (.sl [.s,hI]),.s (.sl [.s,hI,hI,hI,hI]),.s (.sl [hI,hI,.sl [hI],hI]),.s (.sl [.s,hI,.sl [hI,hI,hI]]),.s (.sl [.s,hI]),.s (.sl [hI,.sl [hI]]),.s (.sl [hI])])),(7,.own 0),(24,pL [hI]),(25,pI),(26,pI)],[(0,.arr [hI])]⟩
def bYI:Nat->P198_l0.den->KS R->Option R:=eS P198_l0 fun k=>aBo N (qS k (.ex 0) ⟨[(7,.own 0)],[(0,.arr [hI])]⟩)
theorem cB2:LpG T P198_l0 (bYI N (R:=R)) [0,7,24,25,26] aWN:=lpk (bFB N) 122 (H:=cD5)
def cDj:LpS R:=aCc noL 122 (aAx P198_l0 (bYI N N))
def aDc (a0:ByteArray)(a1:zt7)(a2:zt1)(a3:zt2)(a4:zt0)(a5:zt7)(a6:zt6)(a7 a8:List Int)(k0:List Int->Option R):Option R:=(aF7 N a7 a3 a8 (fun y1 y2=>(aBo N k0 N a0 a1 a2 a3 a4 a5 a6 a7 y1 ((y1.length:Nat):Int) 0 [])))
def bQj:CfS R:=u1 (bSa N) 189 ⟨[.p (.cp [.s .s,.s (.sl [.s,hI]),.s (.sl [.s,hI,hI,hI,hI]),.s (.sl [hI,hI,.sl [hI],hI]),.s (.sl [.s,hI,.sl [hI,hI,hI]]),.s (.sl [.s,hI]),.s (.sl [hI,.sl [hI]]),.s (.sl [hI])]),pL [hI]],[]⟩ ⟨[pL [hI]],[]⟩ (aDc N)
theorem bFr:FOK (bQj N:CfS R) (aAo T):=uCk (bFB N) bLX (H:=cD5) (Lp:=(cDj N)) (hl:=(aAi (l:=[(122,[0,7,24,25,26],aWN)]) (by kernel_rfl) ⟨(aAf (cB2 N N)),trivial⟩))
def bWt:Nat->Option (List Sh):=fun n=>if n=16000 then some [hI]else none
def aBX (N:Nat)(k0:zk0 (zk8 (Option R))):Nat->zk0 (List Int->(List (Int×Int))->zk1 (List Int->Option R))
 | 0,_,_,_,_,_,_,_,_,_,_,_,_=>none
 | n+1,b0,b1,b2,b3,b4,b5,b6,b7,b8,b9,b10,b11=>(bif decide (b10<b9)then ((at? b8 b10).bind fun x1=>(bif aBU (b11.length+1) 8 then (aBX N k0 n b0 b1 b2 b3 b4 b5 b6 b7 b8 b9 (w64 (b10+1)) (b11++[x1.1]))else none))else (k0 b0 b1 b2 b3 b4 b5 b6 b7 b11))
def P199_l0:SP:=⟨[(0,.p (.cp [.s .s,.s (.sl [.s,hI]),.s (.sl [.s,hI,hI,hI,hI]),.s (.sl [hI,hI,.sl [hI],hI]),.s (.sl [.s,hI,.sl [hI,hI,hI]]),.s (.sl [.s,hI]),.s (.sl [hI,.sl [hI]]),.s (.sl [hI])])),(5,.own 0),(9,pL [hI,hI]),(10,pI),(11,pI)],[(0,.arr [hI])]⟩
def bZI:Nat->P199_l0.den->KS R->Option R:=eS P199_l0 fun k=>aBX N (qS k (.ex 0) ⟨[(0,.p (.cp [.s .s,.s (.sl [.s,hI]),.s (.sl [.s,hI,hI,hI,hI]),.s (.sl [hI,hI,.sl [hI],hI]),.s (.sl [.s,hI,.sl [hI,hI,hI]]),.s (.sl [.s,hI]),.s (.sl [hI,.sl [hI]]),.s (.sl [hI])])),(5,.own 0)],[(0,.arr [hI])]⟩)
theorem cBu:LpG T P199_l0 (bZI N (R:=R)) [0,5,9,10,11] aS4:=lpk (bFr N) 58 (H:=bWt)
def cDe:LpS R:=aCc noL 58 (aAx P199_l0 (bZI N N))
def aD2 (a0:ByteArray)(a1:zt7)(a2:zt1)(a3:zt2)(a4:zt0)(a5:zt7)(a6:zt6)(a7:List Int)(a8:ByteArray)(a9:Int)(a10:zt8)(k0:List Int->Option R):Option R:=(aGn N a8 a9 a10 (fun y1=>(aBX N (fun z2 z3 z4 z5 z6 z7 z8 z9 z10=>(aDc N z2 z3 z4 z5 z6 z7 z8 z9 z10 k0)) N a0 a1 a2 a3 a4 a5 a6 a7 y1 ((y1.length:Nat):Int) 0 [])))
def bTm:CfS R:=u1 (bQj N) 168 ⟨[.p (.cp [.s .s,.s (.sl [.s,hI]),.s (.sl [.s,hI,hI,hI,hI]),.s (.sl [hI,hI,.sl [hI],hI]),.s (.sl [.s,hI,.sl [hI,hI,hI]]),.s (.sl [.s,hI]),.s (.sl [hI,.sl [hI]]),.s (.sl [hI])]),.agg [pS,pI,pL zs4]],[]⟩ ⟨[pL [hI]],[]⟩ (aD2 N)
theorem bEa:FOK (bTm N:CfS R) (aAo T):=uCk (bFr N) bLT (H:=bWt) (Lp:=(cDe N)) (hl:=(aAi (l:=[(58,[0,5,9,10,11],aS4)]) (by kernel_rfl) ⟨(aAf (cBu N N)),trivial⟩))
def bUN:Nat->Option (List Sh):=fun n=>if n=41000 then some [hI,hI]else none
def aAL (k0:zk0 (List Int->zt0->zk1 ((List (Int×Int))->Option R))):Nat->zk0 (List Int->zk1 (zt0->zk1 (List Int->zk1 ((List (Int×Int))->Option R))))
 | 0,_,_,_,_,_,_,_,_,_,_,_,_,_,_,_,_,_=>none
 | n+1,b0,b1,b2,b3,b4,b5,b6,b7,b8,b9,b10,b11,b12,b13,b14,b15,b16=>(bif decide (b15<b14)then ((at? b13 b15).bind fun x1=>(aAQ N b0 b1 b2 b3 b4 b5 b6 b7 x1 (fun y2=>(bif decide (y2≠b9)then (bif aBU (b16.length+1) 16 then (aAL k0 n b0 b1 b2 b3 b4 b5 b6 b7 b8 b9 b10 b11 b12 b13 b14 (w64 (b15+1)) (b16++[(b8,x1)]))else none)else (aAL k0 n b0 b1 b2 b3 b4 b5 b6 b7 b8 b9 b10 b11 b12 b13 b14 (w64 (b15+1)) b16)))))else (k0 b0 b1 b2 b3 b4 b5 b6 b7 b10 b11 b12 b16))
def P200_l1:SP:=⟨[(0,.p (.cp [.s .s,.s (.sl [.s,hI]),.s (.sl [.s,hI,hI,hI,hI]),.s (.sl [hI,hI,.sl [hI],hI]),.s (.sl [.s,hI,.sl [hI,hI,hI]]),.s (.sl [.s,hI]),.s (.sl [hI,.sl [hI]]),.s (.sl [hI])])),(3,.own 0),(4,pI),(6,pI),(13,pL zs0),(14,pI),(15,pI),(27,pL [hI]),(28,pI),(29,pI)],[(0,.arr [hI,hI])]⟩
def bZQ:Nat->P200_l1.den->KS R->Option R:=eS P200_l1 fun k=>aAL N (qS k (.ex 2) ⟨[(0,.p (.cp [.s .s,.s (.sl [.s,hI]),.s (.sl [.s,hI,hI,hI,hI]),.s (.sl [hI,hI,.sl [hI],hI]),.s (.sl [.s,hI,.sl [hI,hI,hI]]),.s (.sl [.s,hI]),.s (.sl [hI,.sl [hI]]),.s (.sl [hI])])),(3,.own 0),(13,pL zs0),(14,pI),(15,pI)],[(0,.arr [hI,hI])]⟩)
theorem cA4:LpG T P200_l1 (bZQ N (R:=R)) [0,3,4,6,13,14,15,27,28,29] aT4:=lpk (bEa N) 59806 (H:=bUN)
def cAI:LpS R:=aCc noL 59806 (aAx P200_l1 (bZQ N N))
def aAM (k0:(List (Int×Int))->Option R):Nat->zk0 (List Int->zt0->zk1 ((List (Int×Int))->Option R))
 | 0,_,_,_,_,_,_,_,_,_,_,_,_=>none
 | n+1,b0,b1,b2,b3,b4,b5,b6,b7,b8,b9,b10,b11=>(bif decide (b10<b9)then ((at? b8 b10).bind fun x1=>(aDk N b0 b1 b2 b3 b4 b5 b6 b7 x1.1 x1.2.1 x1.2.2 (fun y2=>(bif decide (y2=(-1))then (aAM k0 n b0 b1 b2 b3 b4 b5 b6 b7 b8 b9 (w64 (b10+1)) b11)else (aD2 N b0 b1 b2 b3 b4 b5 b6 b7 x1.1 x1.2.1 x1.2.2 (fun y3=>(aAL N (fun z4 z5 z6 z7 z8 z9 z10 z11 z12 z13 z14 z15=>(aAM k0 n z4 z5 z6 z7 z8 z9 z10 z11 z12 z13 (w64 (z14+1)) z15)) N b0 b1 b2 b3 b4 b5 b6 b7 b10 y2 b8 b9 b10 y3 ((y3.length:Nat):Int) 0 b11)))))))else (k0 b11))
def P200_l0:SP:=⟨[(0,.p (.cp [.s .s,.s (.sl [.s,hI]),.s (.sl [.s,hI,hI,hI,hI]),.s (.sl [hI,hI,.sl [hI],hI]),.s (.sl [.s,hI,.sl [hI,hI,hI]]),.s (.sl [.s,hI]),.s (.sl [hI,.sl [hI]]),.s (.sl [hI])])),(3,.own 0),(13,pL zs0),(14,pI),(15,pI)],[(0,.arr [hI,hI])]⟩
def bYZ:Nat->P200_l0.den->KS R->Option R:=eS P200_l0 fun k=>aAM N (qS k (.ex 0) ⟨[(3,.own 0)],[(0,.arr [hI,hI])]⟩)
theorem cBR:LpG T P200_l0 (bYZ N (R:=R)) [0,3,13,14,15] aQa:=lpk (bEa N) 58 (H:=bUN) (Lp:=(cAI N)) (hl:=(aAi (l:=[(59806,[0,3,4,6,13,14,15,27,28,29],aT4)]) (by kernel_rfl) ⟨(aAf (cA4 N N)),trivial⟩))
def cDd:LpS R:=aCc (cAI N) 58 (aAx P200_l0 (bYZ N N))
def aDj (a0:ByteArray)(a1:zt7)(a2:zt1)(a3:zt2)(a4:zt0)(a5:zt7)(a6:zt6)(a7:List Int)(k0:(List (Int×Int))->Option R):Option R:=(aAM N k0 N a0 a1 a2 a3 a4 a5 a6 a7 a4 ((a4.length:Nat):Int) 0 [])
def bQR:CfS R:=u1 (bTm N) 119 ⟨[.p (.cp [.s .s,.s (.sl [.s,hI]),.s (.sl [.s,hI,hI,hI,hI]),.s (.sl [hI,hI,.sl [hI],hI]),.s (.sl [.s,hI,.sl [hI,hI,hI]]),.s (.sl [.s,hI]),.s (.sl [hI,.sl [hI]]),.s (.sl [hI])])],[]⟩ ⟨[pL [hI,hI]],[]⟩ (aDj N)
theorem bD2:FOK (bQR N:CfS R) (aAo T):=uCk (bEa N) bGF (H:=bUN) (Lp:=(cDd N)) (hl:=(aAi (l:=[(58,[0,3,13,14,15],aQa)]) (by kernel_rfl) ⟨(aAf (cBR N N)),trivial⟩))
def aEs (a0:ByteArray)(a1:zt7)(a2:zt1)(a3:zt2)(a4:zt0)(a5:zt7)(a6:zt6)(k0:(List (Int×Int))->Int->Option R):Option R:=(aDo N a0 a1 a2 a3 a4 a5 a6 (fun y1=>(bif decide (y1≠0)then (k0 [] y1)else (aFx N))) (fun y2 y3 y4 y5 y6 y7 y8 y9 y10=>(bif decide (y10≠0)then (k0 [] y10)else (aDj N y2 y3 y4 y5 y6 y7 y8 y9 (fun y11=>(k0 y11 0))))))
def bRx:CfS R:=u1 (bQR N) 40 ⟨[.agg zb2],[]⟩ ⟨[pL [hI,hI],pI],[]⟩ (aEs N)
theorem bEf:FOK (bRx N:CfS R) (aAo T):=uCk (bD2 N) c40 (rp:=[⟨[pL [hI,hI],pI],[]⟩])
def bWW (N:Nat)(k0:Bool->Option R)(k1:List Int->zk0 (zk3 (zk3 (Option R)))):zk4 (Int->zk0 (zk3 (zk3 (Option R))))
 | 0,_,_,_,_,_,_,_,_,_,_,_,_,_=>none
 | n+1,b0,b1,b2,b3,b4,b5,b6,b7,b8,b9,b10,b11,b12=>(bif decide (b1<((b4.length:Nat):Int))then ((at? b4 b1).bind fun x1=>(bif decide (x1.2.1=1)then (k0 true)else (bWW N k0 k1 n b0 (w64 (b1+1)) b2 b3 b4 b5 b6 b7 b8 b9 b10 b11 b12)))else (k1 b0 b2 b3 b4 b5 b6 b7 b8 b9 b10 b11 b12))
def P202_l0:SP:=⟨[(2,pL [hI]),(3,.ptr 0 0),(4,.ptr 1 0),(7,pI)],[(0,.box zb2),(1,.box zb7)]⟩
def bYH:Nat->P202_l0.den->KS R->Option R:=eS P202_l0 fun k=>bWW N (qS k .ret ⟨[(6,pB)],[]⟩) (qS k (.ex 0) ⟨[(2,pL [hI]),(3,.ptr 0 0),(4,.ptr 1 0)],[(0,.box zb2),(1,.box zb7)]⟩)
theorem cBo:LpG T P202_l0 (bYH N (R:=R)) [2,3,4,7] cAl:=lpk (bEf N) 122
def cAD:LpS R:=aCc noL 122 (aAx P202_l0 (bYH N N))
def bWX (k0:Bool->Option R)(k1:zk8 (zk0 (zk3 (zk3 (List Int->Option R))))):zk4 (zk8 (Int->zk0 (zk3 (zk3 (List Int->Option R)))))
 | 0,_,_,_,_,_,_,_,_,_,_,_,_,_,_,_,_=>none
 | n+1,b0,b1,b2,b3,b4,b5,b6,b7,b8,b9,b10,b11,b12,b13,b14,b15=>(bif decide (b3<((b2.length:Nat):Int))then (aA6 N b4 b5 b6 b7 b8 b9 b10 (fun y1 y2 y3 y4 y5 y6 y7=>((at? b2 b3).bind fun x8=>(aCX N b12 (fun y9=>(aH3 N y1 y2 y3 y4 y5 y6 y7 x8 y9 b15 (fun y10 y11=>(bif decide (y10≠0)then (k0 false)else (bWX k0 k1 n b0 b1 b2 (w64 (b3+1)) b4 b5 b6 b7 b8 b9 b10 b11 b12 b13 b14 y11)))))))))else (k1 b0 b1 b4 b5 b6 b7 b8 b9 b10 b11 b12 b13 b14 b15))
def P202_l1:SP:=⟨[(2,pL [hI]),(3,.ptr 0 0),(4,.ptr 1 0),(8,pL [hI]),(9,pL [hI]),(11,.own 2),(12,pI)],[(0,.box zb2),(1,.box zb7),(2,.arr [hI])]⟩
def bYC:Nat->P202_l1.den->KS R->Option R:=eS P202_l1 fun k=>bWX N (qS k .ret ⟨[(6,pB)],[]⟩) (qS k (.ex 2) ⟨[(2,pL [hI]),(3,.ptr 0 0),(4,.ptr 1 0),(8,pL [hI]),(11,.own 2)],[(0,.box zb2),(1,.box zb7),(2,.arr [hI])]⟩)
theorem cB7:LpG T P202_l1 (bYC N (R:=R)) [2,3,4,8,9,11,12] cAM:=lpk (bEf N) 1018050 (Lp:=(cAD N))
def bZY:LpS R:=aCc (cAD N) 1018050 (aAx P202_l1 (bYC N N))
def bWV (N:Nat)(k0:Bool->Option R)(k1:zk8 (zk0 (zk3 (zk3 (Option R))))):zk4 (zk9 (zk0 (zk3 (zk3 (Option R)))))
 | 0,_,_,_,_,_,_,_,_,_,_,_,_,_,_=>none
 | n+1,b0,b1,b2,b3,b4,b5,b6,b7,b8,b9,b10,b11,b12,b13=>(bif decide (b2<((b5.length:Nat):Int))then ((at? b5 b2).bind fun x1=>(bif decide (x1.2.2.2.2≠b10)then ((at? b1 b2).bind fun x2=>((at? b0 b2).bind fun x3=>(bif decide (x2≠x3)then (k0 false)else (bWV N k0 k1 n b0 b1 (w64 (b2+1)) b3 b4 b5 b6 b7 b8 b9 b10 b11 b12 b13))))else (bWV N k0 k1 n b0 b1 (w64 (b2+1)) b3 b4 b5 b6 b7 b8 b9 b10 b11 b12 b13)))else (k1 b0 b1 b3 b4 b5 b6 b7 b8 b9 b10 b11 b12 b13))
def P202_l2:SP:=⟨[(2,pL [hI]),(3,.ptr 0 0),(4,.ptr 1 0),(8,pL [hI]),(15,pI)],[(0,.box zb2),(1,.box zb7)]⟩
def bYs:Nat->P202_l2.den->KS R->Option R:=eS P202_l2 fun k=>bWV N (qS k .ret ⟨[(6,pB)],[]⟩) (qS k (.ex 4) ⟨[(2,pL [hI]),(3,.ptr 0 0),(4,.ptr 1 0),(8,pL [hI])],[(0,.box zb2),(1,.box zb7)]⟩)
theorem cBH:LpG T P202_l2 (bYs N (R:=R)) [2,3,4,8,15] bZ5:=lpk (bEf N) 260621378 (Lp:=(bZY N))
def cAx:LpS R:=aCc (bZY N) 260621378 (aAx P202_l2 (bYs N N))
def bW3 (k0:Bool->Option R)(b0:Int)(b1:List Int)(b2:Int)(b3:List Int)(b4:Int):Option R:=(bif decide (b0=0)then (bif decide (b2=0)then (bif decide (b4=0)then (aCr N b1 b3 k0)else (k0 false))else (k0 false))else (k0 false))
def P202_j10:SP:=⟨[(20,pI),(21,pL [hI]),(23,pI),(24,pL [hI]),(26,pI)],[]⟩
def bYb:Nat->P202_j10.den->KS R->Option R:=jS P202_j10 fun k=>bW3 N (qS k .ret ⟨[(6,pB)],[]⟩)
theorem bZU:LpG T P202_j10 (bYb N (R:=R)) [20,21,23,24,26] bZa:=lpk (bEf N) 136640662217250 (Lp:=(cAx N))
def cAH:LpS R:=aCc (cAx N) 136640662217250 (aAx P202_j10 (bYb N 1))
def bXb (k0:Bool->Option R)(b0:List Int)(b1:Int)(b2:List Int)(b3:Int)(b4:ByteArray)(b5:zt7)(b6:zt1)(b7:zt2)(b8:zt0)(b9:zt7)(b10:zt6)(b11:Int)(b12:List Int)(b13:Int)(b14:List Int):Option R:=(aA6 N b4 b5 b6 b7 b8 b9 b10 (fun y1 y2 y3 y4 y5 y6 y7=>(bXg N y1 y2 y3 y4 y5 y6 y7 b11 b12 b0 (fun y8 y9 y10=>(bW3 N k0 b1 b2 b3 y8 y10)))))
def P202_j9:SP:=⟨[(3,.ptr 0 0),(4,.ptr 1 0),(18,pL [hI]),(20,pI),(21,pL [hI]),(23,pI)],[(0,.box zb2),(1,.box zb7)]⟩
def bYk:Nat->P202_j9.den->KS R->Option R:=jS P202_j9 fun k=>bXb N (qS k .ret ⟨[(6,pB)],[]⟩)
theorem cB1:LpG T P202_j9 (bYk N (R:=R)) [3,4,18,20,21,23] cAE:=lpk (bEf N) 8540041388578 (Lp:=(cAH N)) (hl:=(aAi (l:=[(136640662217250,[20,21,23,24,26],bZa)]) (by kernel_rfl) ⟨(aAf (bZU N 1)),trivial⟩))
def bZZ:LpS R:=aCc (cAH N) 8540041388578 (aAx P202_j9 (bYk N 1))
def bW7 (k0:Bool->Option R)(b0 b1:List Int)(b2:Int)(b3:ByteArray)(b4:zt7)(b5:zt1)(b6:zt2)(b7:zt0)(b8:zt7)(b9:zt6)(b10:Int)(b11:List Int)(b12:Int)(b13:List Int):Option R:=(aA6 N b3 b4 b5 b6 b7 b8 b9 (fun y1 y2 y3 y4 y5 y6 y7=>(bXg N y1 y2 y3 y4 y5 y6 y7 b12 b13 b0 (fun y8 y9 y10=>(bXb N k0 b1 b2 y8 y10 b3 b4 b5 b6 b7 b8 b9 b10 b11 b12 b13)))))
def P202_j8:SP:=⟨[(3,.ptr 0 0),(4,.ptr 1 0),(8,pL [hI]),(18,pL [hI]),(20,pI)],[(0,.box zb2),(1,.box zb7)]⟩
def bZJ:Nat->P202_j8.den->KS R->Option R:=jS P202_j8 fun k=>bW7 N (qS k .ret ⟨[(6,pB)],[]⟩)
theorem cA5:LpG T P202_j8 (bZJ N (R:=R)) [3,4,8,18,20] cAG:=lpk (bEf N) 533752586786 (Lp:=(bZZ N)) (hl:=(aAi (l:=[(8540041388578,[3,4,18,20,21,23],cAE)]) (by kernel_rfl) ⟨(aAf (cB1 N 1)),trivial⟩))
def cAg:LpS R:=aCc (bZZ N) 533752586786 (aAx P202_j8 (bZJ N 1))
def bW8 (k0:Bool->Option R)(b0 b1:List Int)(b2:ByteArray)(b3:zt7)(b4:zt1)(b5:zt2)(b6:zt0)(b7:zt7)(b8:zt6)(b9:Int)(b10:List Int)(b11:Int)(b12:List Int):Option R:=(aA6 N b2 b3 b4 b5 b6 b7 b8 (fun y1 y2 y3 y4 y5 y6 y7=>(aCX N b0 (fun y8=>(bXg N y1 y2 y3 y4 y5 y6 y7 b11 b12 y8 (fun y9 y10 y11=>(bW7 N k0 b1 y9 y11 b2 b3 b4 b5 b6 b7 b8 b9 b10 b11 b12)))))))
def P202_j7:SP:=⟨[(2,pL [hI]),(3,.ptr 0 0),(4,.ptr 1 0),(8,pL [hI])],[(0,.box zb2),(1,.box zb7)]⟩
def bZt:Nat->P202_j7.den->KS R->Option R:=jS P202_j7 fun k=>bW8 N (qS k .ret ⟨[(6,pB)],[]⟩)
theorem cBe:LpG T P202_j7 (bZt N (R:=R)) [2,3,4,8] cAa:=lpk (bEf N) 33359536674 (Lp:=(cAg N)) (hl:=(aAi (l:=[(533752586786,[3,4,8,18,20],cAG)]) (by kernel_rfl) ⟨(aAf (cA5 N 1)),trivial⟩))
def cAj:LpS R:=aCc (cAg N) 33359536674 (aAx P202_j7 (bZt N 1))
def bXe (k0:Bool->Option R)(b0 b1:List Int)(b2:List (Int×Int))(b3:Int)(b4:ByteArray)(b5:zt7)(b6:zt1)(b7:zt2)(b8:zt0)(b9:zt7)(b10:zt6)(b11:Int)(b12:List Int)(b13:Int)(b14:List Int):Option R:=(bif decide (b3≠0)then (k0 (decide (b3=0)))else (bif decide (0<((b2.length:Nat):Int))then (k0 (decide (b3=0)))else (bif decide (b11=b13)then (k0 (decide (b3=0)))else (bW8 N k0 b0 b1 b4 b5 b6 b7 b8 b9 b10 b11 b12 b13 b14))))
def P202_j6:SP:=⟨[(2,pL [hI]),(3,.ptr 0 0),(4,.ptr 1 0),(8,pL [hI]),(16,pL [hI,hI]),(17,pI)],[(0,.box zb2),(1,.box zb7)]⟩
def bY4:Nat->P202_j6.den->KS R->Option R:=jS P202_j6 fun k=>bXe N (qS k .ret ⟨[(6,pB)],[]⟩)
theorem cBq:LpG T P202_j6 (bY4 N (R:=R)) [2,3,4,8,16,17] cAc:=lpk (bEf N) 2084971042 (Lp:=(cAj N)) (hl:=(aAi (l:=[(33359536674,[2,3,4,8],cAa)]) (by kernel_rfl) ⟨(aAf (cBe N 1)),trivial⟩))
def bZ0:LpS R:=aCc (cAj N) 2084971042 (aAx P202_j6 (bY4 N 1))
def bW6 (k0:Bool->Option R)(b0 b1:List Int)(b2:ByteArray)(b3:zt7)(b4:zt1)(b5:zt2)(b6:zt0)(b7:zt7)(b8:zt6)(b9:Int)(b10:List Int)(b11:Int)(b12:List Int):Option R:=(aA6 N b2 b3 b4 b5 b6 b7 b8 (fun y1 y2 y3 y4 y5 y6 y7=>(aEs N y1 y2 y3 y4 y5 y6 y7 (fun y8 y9=>(bXe N k0 b0 b1 y8 y9 b2 b3 b4 b5 b6 b7 b8 b9 b10 b11 b12)))))
def P202_j5:SP:=⟨[(2,pL [hI]),(3,.ptr 0 0),(4,.ptr 1 0),(8,pL [hI])],[(0,.box zb2),(1,.box zb7)]⟩
def bYr:Nat->P202_j5.den->KS R->Option R:=jS P202_j5 fun k=>bW6 N (qS k .ret ⟨[(6,pB)],[]⟩)
theorem cB0:LpG T P202_j5 (bYr N (R:=R)) [2,3,4,8] cAp:=lpk (bEf N) 130310690 (Lp:=(bZ0 N)) (hl:=(aAi (l:=[(2084971042,[2,3,4,8,16,17],cAc)]) (by kernel_rfl) ⟨(aAf (cBq N 1)),trivial⟩))
def cAw:LpS R:=aCc (bZ0 N) 130310690 (aAx P202_j5 (bYr N 1))
def bXd (k0:Bool->Option R)(b0 b1:List Int)(b2:ByteArray)(b3:zt7)(b4:zt1)(b5:zt2)(b6:zt0)(b7:zt7)(b8:zt6)(b9:Int)(b10:List Int)(b11:Int)(b12:List Int):Option R:=(bWV N k0 (fun z5 z6 z7 z8 z9 z10 z11 z12 z13 z14 z15 z16 z17=>(bW6 N k0 z5 z6 z7 z8 z9 z10 z11 z12 z13 z14 z15 z16 z17)) N b0 b1 0 b2 b3 b4 b5 b6 b7 b8 b9 b10 b11 b12)
def P202_j4:SP:=⟨[(2,pL [hI]),(3,.ptr 0 0),(4,.ptr 1 0),(8,pL [hI])],[(0,.box zb2),(1,.box zb7)]⟩
def bYB:Nat->P202_j4.den->KS R->Option R:=jS P202_j4 fun k=>bXd N (qS k .ret ⟨[(6,pB)],[]⟩)
theorem cBk:LpG T P202_j4 (bYB N (R:=R)) [2,3,4,8] cAB:=lpk (bEf N) 8144418 (Lp:=(cAw N)) (hl:=(aAi (l:=[(260621378,[2,3,4,8,15],bZ5),(130310690,[2,3,4,8],cAp)]) (by kernel_rfl) ⟨(aDL (by decide) (aDL (by decide) (aDL (by decide) (aDL (by decide) (aDL (by decide) (aDL (by decide) (aAf (cBH N N)))))))),(aAf (cB0 N 1)),trivial⟩))
def bZd:LpS R:=aCc (cAw N) 8144418 (aAx P202_j4 (bYB N 1))
def bXc (k0:Bool->Option R)(b0 b1:List Int)(b2:ByteArray)(b3:zt7)(b4:zt1)(b5:zt2)(b6:zt0)(b7:zt7)(b8:zt6)(b9:Int)(b10:List Int)(b11:Int)(b12 b13:List Int):Option R:=(aCr N b13 b1 (fun y1=>(bif (!y1)then (k0 false)else (bXd N k0 b0 b1 b2 b3 b4 b5 b6 b7 b8 b9 b10 b11 b12))))
def P202_j3:SP:=⟨[(2,pL [hI]),(3,.ptr 0 0),(4,.ptr 1 0),(8,pL [hI]),(11,.own 2)],[(0,.box zb2),(1,.box zb7),(2,.arr [hI])]⟩
def bYw:Nat->P202_j3.den->KS R->Option R:=jS P202_j3 fun k=>bXc N (qS k .ret ⟨[(6,pB)],[]⟩)
theorem cBb:LpG T P202_j3 (bYw N (R:=R)) [2,3,4,8,11] bZ6:=lpk (bEf N) 509026 (Lp:=(bZd N)) (hl:=(aAi (l:=[(8144418,[2,3,4,8],cAB)]) (by kernel_rfl) ⟨(aAf (cBk N 1)),trivial⟩))
def bYJ:LpS R:=aCc (bZd N) 509026 (aAx P202_j3 (bYw N 1))
def bXa (k0:Bool->Option R)(b0 b1 b2:List Int)(b3:ByteArray)(b4:zt7)(b5:zt1)(b6:zt2)(b7:zt0)(b8:zt7)(b9:zt6)(b10:Int)(b11:List Int)(b12:Int)(b13 b14:List Int):Option R:=(bWX N k0 (fun z13 z14 z15 z16 z17 z18 z19 z20 z21 z22 z23 z24 z25 z26=>(bXc N k0 z13 z14 z15 z16 z17 z18 z19 z20 z21 z22 z23 z24 z25 z26)) N b0 b1 b2 0 b3 b4 b5 b6 b7 b8 b9 b10 b11 b12 b13 b14)
def P202_j2:SP:=⟨[(2,pL [hI]),(3,.ptr 0 0),(4,.ptr 1 0),(8,pL [hI]),(9,pL [hI]),(11,.own 2)],[(0,.box zb2),(1,.box zb7),(2,.arr [hI])]⟩
def bYm:Nat->P202_j2.den->KS R->Option R:=jS P202_j2 fun k=>bXa N (qS k .ret ⟨[(6,pB)],[]⟩)
theorem cBP:LpG T P202_j2 (bYm N (R:=R)) [2,3,4,8,9,11] cAo:=lpk (bEf N) 31814 (Lp:=(bYJ N)) (hl:=(aAi (l:=[(1018050,[2,3,4,8,9,11,12],cAM),(509026,[2,3,4,8,11],bZ6)]) (by kernel_rfl) ⟨(aDL (by decide) (aDL (by decide) (aDL (by decide) (aDL (by decide) (aDL (by decide) (aDL (by decide) (aDL (by decide) (aDL (by decide) (aDL (by decide) (aAf (cB7 N N))))))))))),(aAf (cBb N 1)),trivial⟩))
def bYX:LpS R:=aCc (bYJ N) 31814 (aAx P202_j2 (bYm N 1))
def bW9 (k0:Bool->Option R)(b0 b1 b2:List Int)(b3:Int)(b4:ByteArray)(b5:zt7)(b6:zt1)(b7:zt2)(b8:zt0)(b9:zt7)(b10:zt6)(b11:Int)(b12:List Int)(b13:Int)(b14:List Int):Option R:=(bif decide (b3≠0)then (k0 false)else (bif decide (((b8.length:Nat):Int)<((b2.length:Nat):Int))then (k0 false)else (bW2 N b4 b5 b6 b7 b8 b9 b10 b1 (fun y1=>(bif decide (y1≠0)then (k0 false)else (aCX N b0 (fun y2=>(bXa N k0 b0 b1 b2 b4 b5 b6 b7 b8 b9 b10 b11 b12 b13 b14 y2))))))))
def P202_j1:SP:=⟨[(2,pL [hI]),(3,.ptr 0 0),(4,.ptr 1 0),(8,pL [hI]),(9,pL [hI]),(10,pI)],[(0,.box zb2),(1,.box zb7)]⟩
def bYi:Nat->P202_j1.den->KS R->Option R:=jS P202_j1 fun k=>bW9 N (qS k .ret ⟨[(6,pB)],[]⟩)
theorem cBy:LpG T P202_j1 (bYi N (R:=R)) [2,3,4,8,9,10] cAQ:=lpk (bEf N) 994 (Lp:=(bYX N)) (hl:=(aAi (l:=[(31814,[2,3,4,8,9,11],cAo)]) (by kernel_rfl) ⟨(aAf (cBP N 1)),trivial⟩))
def bY6:LpS R:=aCc (bYX N) 994 (aAx P202_j1 (bYi N 1))
def bW5 (k0:Bool->Option R)(b0:List Int)(b1:ByteArray)(b2:zt7)(b3:zt1)(b4:zt2)(b5:zt0)(b6:zt7)(b7:zt6)(b8:Int)(b9:List Int)(b10:Int)(b11:List Int):Option R:=(aA6 N b1 b2 b3 b4 b5 b6 b7 (fun y1 y2 y3 y4 y5 y6 y7=>(aCX N b0 (fun y8=>(bXg N y1 y2 y3 y4 y5 y6 y7 b8 b9 y8 (fun y9 y10 y11=>(bW9 N k0 b0 y9 y10 y11 b1 b2 b3 b4 b5 b6 b7 b8 b9 b10 b11)))))))
def P202_j0:SP:=⟨[(2,pL [hI]),(3,.ptr 0 0),(4,.ptr 1 0)],[(0,.box zb2),(1,.box zb7)]⟩
def bY9:Nat->P202_j0.den->KS R->Option R:=jS P202_j0 fun k=>bW5 N (qS k .ret ⟨[(6,pB)],[]⟩)
theorem cB5:LpG T P202_j0 (bY9 N (R:=R)) [2,3,4] cAN:=lpk (bEf N) 62 (Lp:=(bY6 N)) (hl:=(aAi (l:=[(994,[2,3,4,8,9,10],cAQ)]) (by kernel_rfl) ⟨(aAf (cBy N 1)),trivial⟩))
def cBD:LpS R:=aCc (bY6 N) 62 (aAx P202_j0 (bY9 N 1))
def bW0 (a0:ByteArray)(a1:zt7)(a2:zt1)(a3:zt2)(a4:zt0)(a5:zt7)(a6:zt6)(a7:Int)(a8:List Int)(a9:Int)(a10 a11:List Int)(k0:Bool->Option R):Option R:=(bXf N (fun y1=>(bif (!y1)then (k0 false)else (bif decide (40<((a3.length:Nat):Int))then (k0 true)else (bif decide (8<((a4.length:Nat):Int))then (k0 true)else (bif decide (12<((a2.length:Nat):Int))then (k0 true)else (aDd N a0 a1 a2 a3 a4 a5 a6 (fun y2=>(bif decide (y2≠0)then (k0 true)else (bW2 N a0 a1 a2 a3 a4 a5 a6 a11 (fun y3=>(bif decide (y3≠0)then (k0 true)else (bW4 N a0 a1 a2 a3 a4 a5 a6 a7 a8 (fun y4=>(bif decide (y4≠0)then (k0 true)else (bW4 N a0 a1 a2 a3 a4 a5 a6 a9 a10 (fun y5=>(bif decide (y5≠0)then (k0 true)else (bWW N k0 (fun z7 z8 z9 z10 z11 z12 z13 z14 z15 z16 z17 z18=>(bW5 N k0 z7 z8 z9 z10 z11 z12 z13 z14 z15 z16 z17 z18)) N a11 0 a0 a1 a2 a3 a4 a5 a6 a7 a8 a9 a10)))))))))))))))))))
def bSK:CfS R:=u1 (bRx N) 11 ⟨[.agg zb2,.agg zb7,pL [hI]],[]⟩ ⟨[pB],[]⟩ (bW0 N)
theorem aK8:FOK (bSK N:CfS R) (aAo T):=uCk (bEf N) c11 (Lp:=(cBD N)) (hl:=(aAi (l:=[(122,[2,3,4,7],cAl),(62,[2,3,4],cAN)]) (by kernel_rfl) ⟨(aDL (by decide) (aDL (by decide) (aDL (by decide) (aDL (by decide) (aDL (by decide) (aDL (by decide) (aDL (by decide) (aDL (by decide) (aDL (by decide) (aDL (by decide) (aDL (by decide) (aDL (by decide) (aDL (by decide) (aAf (cBo N N))))))))))))))),(aAf (cB5 N 1)),trivial⟩))
end
def bXn:Prop:=∀ (x0:ByteArray×(List (ByteArray×Int))×(List (ByteArray×Int×Int×Int×Int))×(List (Int×Int×(List Int)×Int))×(List (ByteArray×Int×(List (Int×Int×Int))))×(List (ByteArray×Int))×(List (Int×(List Int)))) (x1:Int×(List Int)×Int×(List Int)) (x2:List Int),okL [.s,.sl [.s,hI],.sl [.s,hI,hI,hI,hI],.sl [hI,hI,.sl [hI],hI],.sl [.s,hI,.sl [hI,hI,hI]],.sl [.s,hI],.sl [hI,.sl [hI]]] x0->okL [hI,.sl [hI],hI,.sl [hI]] x1->okL [.sl [hI]] x2->∃ N,∀ {R:Type} (k:Bool->Option R),bW0 N x0.1 x0.2.1 x0.2.2.1 x0.2.2.2.1 x0.2.2.2.2.1 x0.2.2.2.2.2.1 x0.2.2.2.2.2.2 x1.1 x1.2.1 x1.2.2.1 x1.2.2.2 x2 k=k true
end Am
end Go.Proofs.YtkmbhgggpfbffaaGreatDoor
