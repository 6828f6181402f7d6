/- Each function that is reached as a function on plain data, and that the version comes to it. -/
import Derived.Test.YtkmbhgggpfbffaaGreatDoorCHC
set_option linter.unusedVariables false
set_option linter.unusedSimpArgs false
set_option linter.constructorNameAsVariable false
set_option maxRecDepth 100000
namespace Go.Proofs.YtkmbhgggpfbffaaGreatDoor
namespace Am
noncomputable section
variable (N:Nat) {R:Type}
abbrev zt0:Type:=List (ByteArray×Int×(List (Int×Int×Int)))
abbrev zt1:Type:=List (ByteArray×Int×Int×Int×Int)
abbrev zt2:Type:=List (Int×Int×(List Int)×Int)
abbrev zt3:Type:=List (ByteArray×Nat×Bool)
abbrev zt4:Type:=List (ByteArray×Nat×Int)
abbrev zt5:Type:=List (ByteArray×Int×Int)
abbrev zt6:Type:=List (Int×(List Int))
abbrev zt7:Type:=List (ByteArray×Int)
abbrev zt8:Type:=List (Int×Int×Int)
abbrev zt9:Type:=List (List ByteArray)
abbrev zs0:List Sh:=[.s,hI,.sl [hI,hI,hI]]
abbrev zs1:List Sh:=[hI,hI,.sl [hI],hI]
abbrev zs2:List Sh:=[.s,hI,hI,hI,hI]
abbrev zs3:List Sh:=[hI,.sl [hI]]
abbrev zs4:List Sh:=[.s,hI,hI]
abbrev zs5:List Sh:=[hI,hI,hI]
abbrev zs6:List Sh:=[.sl [hI]]
abbrev zs7:List Sh:=[.sl [.s]]
abbrev zb0:List PD:=[.p (.ks (ByteArray.mk #[99,111,110,115,116])),.p (.ki .i64 0),.p (.kb true),.p (.fn 299 []),.p (.fn 298 []),.p (.ks (ByteArray.mk #[108,101,97,102])),.p (.ki .i64 0),.p (.kb true),.p (.fn 299 []),.p (.fn 298 []),.p (.ks (ByteArray.mk #[110,111,116])),.p (.ki .i64 1),.p (.kb false),.p (.fn 300 []),.p (.fn 301 []),.p (.ks (ByteArray.mk #[97,110,100])),.p (.ki .i64 2),.p (.kb false),.p (.fn 300 []),.p (.fn 340 [.cp [.fn 304 []]]),.p (.ks (ByteArray.mk #[111,114])),.p (.ki .i64 2),.p (.kb false),.p (.fn 300 []),.p (.fn 340 [.cp [.fn 305 []]]),.p (.ks (ByteArray.mk #[120,111,114])),.p (.ki .i64 2),.p (.kb false),.p (.fn 300 []),.p (.fn 340 [.cp [.fn 306 []]]),.p (.ks (ByteArray.mk #[97,100,100])),.p (.ki .i64 2),.p (.kb false),.p (.fn 300 []),.p (.fn 340 [.cp [.fn 307 []]]),.p (.ks (ByteArray.mk #[115,117,98])),.p (.ki .i64 2),.p (.kb false),.p (.fn 300 []),.p (.fn 340 [.cp [.fn 308 []]]),.p (.ks (ByteArray.mk #[109,117,108])),.p (.ki .i64 2),.p (.kb false),.p (.fn 300 []),.p (.fn 340 [.cp [.fn 309 []]]),.p (.ks (ByteArray.mk #[101,113])),.p (.ki .i64 2),.p (.kb false),.p (.fn 341 []),.p (.fn 342 [.cp [.fn 311 []]]),.p (.ks (ByteArray.mk #[108,116])),.p (.ki .i64 2),.p (.kb false),.p (.fn 341 []),.p (.fn 342 [.cp [.fn 312 []]]),.p (.ks (ByteArray.mk #[115,108,116])),.p (.ki .i64 2),.p (.kb false),.p (.fn 341 []),.p (.fn 342 [.cp [.fn 313 []]]),.p (.ks (ByteArray.mk #[109,117,120])),.p (.ki .i64 3),.p (.kb false),.p (.fn 315 []),.p (.fn 316 []),.p (.ks (ByteArray.mk #[106,111,105,110])),.p (.ki .i64 2),.p (.kb false),.p (.fn 317 []),.p (.fn 318 []),.p (.ks (ByteArray.mk #[115,108,105,99,101])),.p (.ki .i64 1),.p (.kb true),.p (.fn 319 []),.p (.fn 320 []),.p (.ks (ByteArray.mk #[122,101,120,116])),.p (.ki .i64 1),.p (.kb false),.p (.fn 321 []),.p (.fn 322 []),.p (.ks (ByteArray.mk #[115,101,120,116])),.p (.ki .i64 1),.p (.kb false),.p (.fn 321 []),.p (.fn 323 []),.p (.ks (ByteArray.mk #[115,104,108])),.p (.ki .i64 2),.p (.kb false),.p (.fn 324 []),.p (.fn 325 []),.p (.ks (ByteArray.mk #[115,104,114])),.p (.ki .i64 2),.p (.kb false),.p (.fn 324 []),.p (.fn 326 [])]
abbrev zd1:List DS:=[dS (ByteArray.mk #[99,111,110,115,116]),dI 0,dB true,.p (.fn 299 []),.p (.fn 298 []),dS (ByteArray.mk #[108,101,97,102]),dI 0,dB true,.p (.fn 299 []),.p (.fn 298 []),dS (ByteArray.mk #[110,111,116]),dI 1,dB false,.p (.fn 300 []),.p (.fn 301 []),dS (ByteArray.mk #[97,110,100]),dI 2,dB false,.p (.fn 300 []),.p (.fn 340 [.cp [.fn 304 []]]),dS (ByteArray.mk #[111,114]),dI 2,dB false,.p (.fn 300 []),.p (.fn 340 [.cp [.fn 305 []]]),dS (ByteArray.mk #[120,111,114]),dI 2,dB false,.p (.fn 300 []),.p (.fn 340 [.cp [.fn 306 []]]),dS (ByteArray.mk #[97,100,100]),dI 2,dB false,.p (.fn 300 []),.p (.fn 340 [.cp [.fn 307 []]]),dS (ByteArray.mk #[115,117,98]),dI 2,dB false,.p (.fn 300 []),.p (.fn 340 [.cp [.fn 308 []]]),dS (ByteArray.mk #[109,117,108]),dI 2,dB false,.p (.fn 300 []),.p (.fn 340 [.cp [.fn 309 []]]),dS (ByteArray.mk #[101,113]),dI 2,dB false,.p (.fn 341 []),.p (.fn 342 [.cp [.fn 311 []]]),dS (ByteArray.mk #[108,116]),dI 2,dB false,.p (.fn 341 []),.p (.fn 342 [.cp [.fn 312 []]]),dS (ByteArray.mk #[115,108,116]),dI 2,dB false,.p (.fn 341 []),.p (.fn 342 [.cp [.fn 313 []]]),dS (ByteArray.mk #[109,117,120]),dI 3,dB false,.p (.fn 315 []),.p (.fn 316 []),dS (ByteArray.mk #[106,111,105,110]),dI 2,dB false,.p (.fn 317 []),.p (.fn 318 []),dS (ByteArray.mk #[115,108,105,99,101]),dI 1,dB true,.p (.fn 319 []),.p (.fn 320 []),dS (ByteArray.mk #[122,101,120,116]),dI 1,dB false,.p (.fn 321 []),.p (.fn 322 []),dS (ByteArray.mk #[115,101,120,116]),dI 1,dB false,.p (.fn 321 []),.p (.fn 323 []),dS (ByteArray.mk #[115,104,108]),dI 2,dB false,.p (.fn 324 []),.p (.fn 325 []),dS (ByteArray.mk #[115,104,114]),dI 2,dB false,.p (.fn 324 []),.p (.fn 326 [])]
abbrev zb2:List PD:=[pS,pL [.s,hI],pL zs2,pL zs1,pL zs0,pL [.s,hI],pL zs3]
abbrev zb3:List PD:=[.p (.cp [.s .s,.s (.sl [.s,hI]),.s (.sl [.s,hI,hI,hI,hI]),.s (.sl [hI,hI,.sl [hI],hI]),.s (.sl [.s,hI,.sl [hI,hI,hI]]),.s (.sl [.s,hI]),.s (.sl [hI,.sl [hI]]),.s (.sl [hI])])]
abbrev zb4:List PD:=[pS,pL [.s,hI],pL zs2,.own 1,.own 2,.own 3,.own 4,.mp 5]
abbrev zb5:List PD:=[pS,pL [.s,hI],pL zs2,pL zs1,pL zs0,pL [.s,hI],.p (.e 2)]
abbrev zb6:List PD:=[pS,pL [.s,hI],pL zs2,pL zs1,pL zs0,pL [.s,hI],pL zs3,.own 2]
abbrev zb7:List PD:=[pI,pI,pI,pI,pI,pI,pI,pI]
abbrev zb8:List PD:=[pI,pI,pL [hI],pI]
abbrev zb9:List PD:=[pS,.own 2,.own 3,.own 4,.own 5,.own 6,.own 7]
abbrev bLn:List PD:=[pS,pL [.s,hI],pL zs2,pL zs1,pL zs0,pL [.s,hI],pL zs3,.own 3]
abbrev bLA:List PD:=[pS,pL [.s,hI],.own 1,pL zs1,pL zs0,pL [.s,hI],pL zs3]
abbrev bOR:List PD:=[pS,.own 3,.own 4,.own 5,.own 6,.own 7,.own 8]
abbrev cFx:List PD:=[pS,.own 1,.own 2,.own 3,.own 4,.own 5,.own 6]
abbrev zk0 (X:Type):Type:=ByteArray->zt7->zt1->zt2->zt0->zt7->zt6->X
abbrev zk1 (X:Type):Type:=Int->Int->X
abbrev zk2 (X:Type):Type:=ByteArray->zt7->zt1->zt2->zt0->X
abbrev zk3 (X:Type):Type:=List Int->List Int->X
abbrev zk4 (X:Type):Type:=List Int->Int->X
abbrev zk5 (X:Type):Type:=Nat->List Int->X
abbrev zk6 (X:Type):Type:=ByteArray->Int->zt8->X
abbrev zk7 (X:Type):Type:=ByteArray->zt7->zt2->zt0->zt7->zt6->zt1->ByteArray->zt0->X
abbrev zk8 (X:Type):Type:=Nat->zt3->X
abbrev zk9 (X:Type):Type:=Int->List Int->X
abbrev aRN (X:Type):Type:=ByteArray->zt7->zt1->zt2->Nat->zt4->X
abbrev cCN (X:Type):Type:=Int->(List (Int×Int))->X
abbrev bYR (X:Type):Type:=Nat->zt4->X
def F0 (N:Nat){R:Type}:CfS R:=(aXz (aXz (aXz (aXz (aXz (aXz (aXz bTa 129 (aQ0 1 8)) 208 (aQ0 1 8)) 74 (bCn)) 264 (bCl 1 8)) 334 (aSp)) 335 (bE2)) 336 (bPn))
theorem bNa (N:Nat){R:Type}:FOK (F0 N:CfS R) (aAo T):=(aHZ (aHZ (aHZ (aHZ (aHZ (aHZ (aHZ bCI (aN5 (sz:=1) (bytes:=8) rfl rfl)) (aN5 (sz:=1) (bytes:=8) rfl rfl)) (aYh rfl rfl)) (aYk rfl rfl)) (aWP rfl rfl)) (aXT rfl rfl)) (bB7 rfl rfl))
def aCm (N:Nat)(a0 a1 a2:Int)(k0:Bool->Option R):Option R:=(bif decide (a1<=a0)then (k0 (decide (a0<=a2)))else (k0 false))
def F1:CfS R:=u1 (F0 N) 72 ⟨[pI,pI,pI],[]⟩ ⟨[pB],[]⟩ (aCm N)
theorem bN6:FOK (F1 N:CfS R) (aAo T):=uCk (bNa N) c72
def aEI (N:Nat)(a0:ByteArray)(a1 a2:Int)(k0:ByteArray->zk1 (zk1 (Option R))):Option R:=(k0 a0 0 a1 0 a2)
def F2:CfS R:=u1 (F1 N) 73 ⟨[pS,pI,pI],[]⟩ ⟨[.agg [pS,pI,pI,pI,pI]],[]⟩ (aEI N)
theorem bO9:FOK (F2 N:CfS R) (aAo T):=uCk (bN6 N) c73
def H3:Nat->Option (List Sh):=fun n=>if n=10000 then some [hI,hI,.sl [hI],hI]else none
def aFX (N:Nat)(a0 a1:Int)(a2:List Int)(a3:Int)(a4:ByteArray)(a5:zt7)(a6:zt1)(a7:zt2)(a8:Nat)(a9:zt4)(k0:Int->aRN (Option R)):Option R:=(bif aBU (a7.length+1) 48 then (k0 (w64 ((((a7++[(a0,a1,a2,a3)]).length:Nat):Int)-1)) a4 a5 a6 (a7++[(a0,a1,a2,a3)]) a8 a9)else none)
def F3:CfS R:=u2 (F2 N) 100 ⟨[.ptr 0 0,.agg zb8],[(0,.box zb4),(1,.arr zs1),(2,.em 3),(3,.em 2),(4,.em 2),(5,.mp .s hI)]⟩ (aFX N) fun f k=>f (qA k [0,5] ⟨[pI],[(0,.box zb4),(1,.arr zs1),(2,.em 3),(3,.em 2),(4,.em 2),(5,.mp .s hI)]⟩)
theorem bDe:FOK (F3 N:CfS R) (aAo T):=uCk (bO9 N) bLL (H:=H3)
def H4:Nat->Option (List Sh):=fun n=>if n=6000 then some [.s,hI]else if n=25000 then some [.s,hI]else if n=30000 then some [.s,hI]else none
def aG1 (N:Nat)(k0:zt7->ByteArray->zt7->zt1->bYR (zt7->Option R)):Nat->zt7->zt1->zk1 (ByteArray->zt7->zt1->bYR (zt7->Option R))
 | 0,_,_,_,_,_,_,_,_,_,_=>none
 | n+1,b0,b1,b2,b3,b4,b5,b6,b7,b8,b9=>(bif decide (b3<b2)then ((at? b1 b3).bind fun x1=>(bif aBU (b9.length+1) 24 then (aG1 N k0 n b0 b1 b2 (w64 (b3+1)) b4 b5 b6 b7 b8 (b9++[(x1.1,x1.2.2.1)]))else none))else (k0 b0 b4 b5 b6 b7 b8 b9))
def P4_l0:SP:=⟨[(1,pL [.s,hI]),(7,.ptr 0 0),(8,.own 6),(20,pL zs2),(21,pI),(22,pI)],[(0,.box zb4),(1,.em 4),(2,.em 3),(3,.em 2),(4,.em 2),(5,.mp .s hI),(6,.arr [.s,hI])]⟩
def bJ9:Nat->P4_l0.den->KS R->Option R:=eS P4_l0 fun k=>aG1 N (qS k (.ex 0) ⟨[(1,pL [.s,hI]),(7,.ptr 0 0),(8,.own 6)],[(0,.box zb4),(1,.em 4),(2,.em 3),(3,.em 2),(4,.em 2),(5,.mp .s hI),(6,.arr [.s,hI])]⟩)
theorem bMb:LpG T P4_l0 (bJ9 N (R:=R)) [1,7,8,20,21,22] bAn:=lpk (bDe N) 122 (H:=H4)
def bS4:LpS R:=aCc noL 122 (aAx P4_l0 (bJ9 N N))
def aG3 (k0:aRN (Option R)):Nat->zk1 (aRN (zt7->Option R))
 | 0,_,_,_,_,_,_,_,_,_=>none
 | n+1,b0,b1,b2,b3,b4,b5,b6,b7,b8=>(bif decide (b1<b0)then (bif inR b1 b8.length then ((b8[b1.toNat]?).bind fun x1=>(aFX N 1 x1.2 [] b1 b2 b3 b4 b5 b6 b7 (fun y2 y3 y4 y5 y6 y7 y8=>(bif aGH .s hI b6 b7 .s hI y7 y8 then (aG3 k0 n b0 (w64 (b1+1)) y3 y4 y5 y6 (aGp .s x1.1 b6 b7) (aOS .s x1.1 y2 b6 b7) b8)else none))))else none)else (k0 b2 b3 b4 b5 b6 b7))
def P4_l1:SP:=⟨[(7,.ptr 0 0),(39,.own 6),(40,pI),(41,pI)],[(0,.box zb4),(1,.arr zs1),(2,.em 3),(3,.em 2),(4,.em 2),(5,.mp .s hI),(6,.arr [.s,hI])]⟩
def bJk:Nat->P4_l1.den->KS R->Option R:=eS P4_l1 fun k=>aG3 N (qS k (.ex 2) ⟨[(7,.ptr 0 0)],[(0,.box zb4),(1,.arr zs1),(2,.em 3),(3,.em 2),(4,.em 2),(5,.mp .s hI)]⟩)
theorem bM7:LpG T P4_l1 (bJk N (R:=R)) [7,39,40,41] bBk:=lpk (bDe N) 250 (H:=H4) (Lp:=(bS4 N))
def bVB:LpS R:=aCc (bS4 N) 250 (aAx P4_l1 (bJk N N))
def aH5 (a0:ByteArray)(a1:zt7)(a2:zt1)(k0:aRN (Option R)):Option R:=(aG1 N (fun z2 z3 z4 z5 z6 z7 z8=>(bif aBU (0+z2.length) 24 then (bif aBU (z2.length+z8.length) 24 then (aG3 N k0 N (((z2++z8).length:Nat):Int) 0 z3 z4 z5 [] z6 z7 (z2++z8))else none)else none)) N a1 a2 ((a2.length:Nat):Int) 0 a0 a1 a2 0 [] [])
def F4:CfS R:=u1 (F3 N) 75 ⟨[pS,pL [.s,hI],pL zs2],[]⟩ ⟨[.ptr 0 0],[(0,.box zb4),(1,.arr zs1),(2,.em 3),(3,.em 2),(4,.em 2),(5,.mp .s hI)]⟩ (aH5 N)
theorem bM3:FOK (F4 N:CfS R) (aAo T):=uCk (bDe N) c75 (H:=H4) (Lp:=(bVB N)) (hl:=(aAi (l:=[(122,[1,7,8,20,21,22],bAn),(250,[7,39,40,41],bBk)]) (by kernel_rfl) ⟨(aDL (by decide) (aAf (bMb N N))),(aAf (bM7 N N)),trivial⟩))
def aGk (a0 a1:Int)(a2:ByteArray)(a3:zt7)(a4:zt1)(a5:zt2)(a6:Nat)(a7:zt4)(k0:Int->aRN (Option R)):Option R:=(aFX N 0 a0 [] a1 a2 a3 a4 a5 a6 a7 (fun y1 y2 y3 y4 y5 y6 y7=>(bif aGH .s hI a6 a7 .s hI y6 y7 then (k0 y1 y2 y3 y4 y5 a6 a7)else none)))
def F5:CfS R:=u2 (F4 N) 76 ⟨[.ptr 0 0,pI,pI],[(0,.box zb4),(1,.arr zs1),(2,.em 3),(3,.em 2),(4,.em 2),(5,.mp .s hI)]⟩ (aGk N) fun f k=>f (qA k [0,5] ⟨[pI],[(0,.box zb4),(1,.arr zs1),(2,.em 3),(3,.em 2),(4,.em 2),(5,.mp .s hI)]⟩)
theorem bCi:FOK (F5 N:CfS R) (aAo T):=uCk (bM3 N) c76
def H6:Nat->Option (List Sh):=fun n=>if n=38000 then some [hI,hI,hI]else if n=51000 then some [.s,hI,.sl [hI,hI,hI]]else none
def aE3 (N:Nat)(k0:Int->zt5->zk1 (zk2 (bYR (zk6 (ByteArray->zk1 (Option R)))))):Nat->Int->zt5->zk1 (zk2 (bYR (zk6 (ByteArray->zk1 (Option R)))))
 | 0,_,_,_,_,_,_,_,_,_,_,_,_,_,_,_,_,_=>none
 | n+1,b0,b1,b2,b3,b4,b5,b6,b7,b8,b9,b10,b11,b12,b13,b14,b15,b16=>((at? b6 b0).bind fun x1=>(bif decide (x1.1≠b14)then (aE3 N k0 n (w64 (b0+1)) b1 b2 b3 b4 b5 b6 b7 b8 b9 b10 b11 b12 b13 b14 b15 b16)else (k0 b0 b1 b2 b3 b4 b5 b6 b7 b8 b9 b10 b11 b12 b13 b14 b15 b16)))
def P6_l1:SP:=⟨[(0,.ptr 0 0),(8,.ptr 6 0),(10,.ptr 8 0),(11,pI),(15,pL zs4),(16,pI),(17,pI),(100000,.ptr 0 0),(100004,.mp 5)],[(0,.box zb4),(1,.arr zs1),(2,.arr zs0),(3,.em 2),(4,.em 2),(5,.mp .s hI),(6,.box [pS,pI,.own 7]),(7,.arr zs5),(8,.box [pS,pI,pI])]⟩
def bI9:Nat->P6_l1.den->KS R->Option R:=eS P6_l1 fun k=>aE3 N (qS k (.ex 2) ⟨[(0,.ptr 0 0),(8,.ptr 6 0),(10,.ptr 8 0),(11,pI),(15,pL zs4),(16,pI),(17,pI),(100000,.ptr 0 0),(100004,.mp 5)],[(0,.box zb4),(1,.arr zs1),(2,.arr zs0),(3,.em 2),(4,.em 2),(5,.mp .s hI),(6,.box [pS,pI,.own 7]),(7,.arr zs5),(8,.box [pS,pI,pI])]⟩)
theorem bNJ:LpG T P6_l1 (bI9 N (R:=R)) [0,8,10,11,15,16,17] aZa:=lpk (bCi N) 13516 (H:=H6)
def bRn:LpS R:=aCc noL 13516 (aAx P6_l1 (bI9 N N))
def aE0 (k0:zk2 (bYR (zk6 (Option R)))):Nat->zt5->zk1 (zk2 (bYR (zk6 (Option R))))
 | 0,_,_,_,_,_,_,_,_,_,_,_,_,_=>none
 | n+1,b0,b1,b2,b3,b4,b5,b6,b7,b8,b9,b10,b11,b12=>(bif decide (b2<b1)then ((at? b0 b2).bind fun x1=>(aE3 N (fun z2 z3 z4 z5 z6 z7 z8 z9 z10 z11 z12 z13 z14 z15 z16 z17 z18=>(bif aBU (z15.length+1) 24 then (aE0 k0 n z3 z4 (w64 (z5+1)) z6 z7 z8 z9 z10 z11 z12 z13 z14 (z15++[(z2,z18,z17)]))else none)) N 0 b0 b1 b2 b3 b4 b5 b6 b7 b8 b9 b10 b11 b12 x1.1 x1.2.1 x1.2.2))else (k0 b3 b4 b5 b6 b7 b8 b9 b10 b11 b12))
def P6_l0:SP:=⟨[(0,.ptr 0 0),(8,.ptr 6 0),(15,pL zs4),(16,pI),(17,pI),(100000,.ptr 0 0),(100004,.mp 5)],[(0,.box zb4),(1,.arr zs1),(2,.arr zs0),(3,.em 2),(4,.em 2),(5,.mp .s hI),(6,.box [pS,pI,.own 7]),(7,.arr zs5)]⟩
def bGW:Nat->P6_l0.den->KS R->Option R:=eS P6_l0 fun k=>aE0 N (qS k (.ex 0) ⟨[(0,.ptr 0 0),(8,.ptr 6 0),(100000,.ptr 0 0),(100004,.mp 5)],[(0,.box zb4),(1,.arr zs1),(2,.arr zs0),(3,.em 2),(4,.em 2),(5,.mp .s hI),(6,.box [pS,pI,.own 7]),(7,.arr zs5)]⟩)
theorem bPE:LpG T P6_l0 (bGW N (R:=R)) [0,8,15,16,17] aZF:=lpk (bCi N) 26 (H:=H6) (Lp:=(bRn N)) (hl:=(aAi (l:=[(13516,[0,8,10,11,15,16,17],aZa)]) (by kernel_rfl) ⟨(aAf (bNJ N N)),trivial⟩))
def bVQ:LpS R:=aCc (bRn N) 26 (aAx P6_l0 (bGW N N))
def aDO (a0:ByteArray)(a1:Int)(a2:zt5)(a3:ByteArray)(a4:zt7)(a5:zt1)(a6:zt2)(a7:zt0)(a8:Nat)(a9:zt4)(k0:zk2 (bYR (Option R))):Option R:=(aE0 N (fun z19 z20 z21 z22 z23 z24 z25 z26 z27 z28=>(bif aBU (z23.length+1) 48 then (k0 z19 z20 z21 z22 (z23++[(z26,z27,z28)]) z24 z25)else none)) N a2 ((a2.length:Nat):Int) 0 a3 a4 a5 a6 a7 a8 a9 a0 a1 [])
def F6:CfS R:=u2 (F5 N) 77 ⟨[.ptr 0 0,pS,pI,pL zs4],[(0,.box zb4),(1,.arr zs1),(2,.arr zs0),(3,.em 2),(4,.em 2),(5,.mp .s hI)]⟩ (aDO N) fun f k=>f (qA k [0,5] ⟨[],[(0,.box zb4),(1,.arr zs1),(2,.arr zs0),(3,.em 2),(4,.em 2),(5,.mp .s hI)]⟩)
theorem bKT:FOK (F6 N:CfS R) (aAo T):=uCk (bCi N) c77 (H:=H6) (Lp:=(bVQ N)) (hl:=(aAi (l:=[(26,[0,8,15,16,17],aZF)]) (by kernel_rfl) ⟨(aAf (bPE N N)),trivial⟩))
def H7:Nat->Option (List Sh):=fun n=>if n=26000 then some [.s,hI,hI]else none
def aEw (N:Nat)(k0:ByteArray->Int->zk2 (bYR (zt5->Option R))):Nat->ByteArray->Int->List ByteArray->zk1 (zk2 (bYR (zt5->Option R)))
 | 0,_,_,_,_,_,_,_,_,_,_,_,_,_=>none
 | n+1,b0,b1,b2,b3,b4,b5,b6,b7,b8,b9,b10,b11,b12=>(bif decide (b4<b3)then ((at? b2 b4).bind fun x1=>((at? b2 (w64 (b4+1))).bind fun x2=>(bif aBU (b12.length+1) 32 then (aEw N k0 n b0 b1 b2 b3 (w64 (b4+1)) b5 b6 b7 b8 b9 b10 b11 (b12++[(x1,(aFh .s x2 b11 0),b1)]))else none)))else (k0 b0 b1 b5 b6 b7 b8 b9 b10 b11 b12))
def P7_l0:SP:=⟨[(0,.ptr 0 0),(1,pS),(2,pI),(3,pL [.s]),(8,.own 6),(12,pI),(13,pI),(100000,.ptr 0 0),(100004,.mp 5)],[(0,.box zb4),(1,.arr zs1),(2,.arr zs0),(3,.em 2),(4,.em 2),(5,.mp .s hI),(6,.arr zs4)]⟩
def bGM:Nat->P7_l0.den->KS R->Option R:=eS P7_l0 fun k=>aEw N (qS k (.ex 0) ⟨[(0,.ptr 0 0),(1,pS),(2,pI),(8,.own 6),(100000,.ptr 0 0),(100004,.mp 5)],[(0,.box zb4),(1,.arr zs1),(2,.arr zs0),(3,.em 2),(4,.em 2),(5,.mp .s hI),(6,.arr zs4)]⟩)
theorem bMh:LpG T P7_l0 (bGM N (R:=R)) [0,1,2,3,8,12,13] aZj:=lpk (bKT N) 26 (H:=H7)
def bUT:LpS R:=aCc noL 26 (aAx P7_l0 (bGM N N))
def aEn (a0:ByteArray)(a1:Int)(a2:List ByteArray)(a3:ByteArray)(a4:zt7)(a5:zt1)(a6:zt2)(a7:zt0)(a8:Nat)(a9:zt4)(k0:zk2 (bYR (Option R))):Option R:=(aEw N (fun z3 z4 z5 z6 z7 z8 z9 z10 z11 z12=>(aDO N z3 z4 z12 z5 z6 z7 z8 z9 z10 z11 (fun y13 y14 y15 y16 y17 y18 y19=>(bif aGH .s hI z10 z11 .s hI y18 y19 then (k0 y13 y14 y15 y16 y17 z10 z11)else none)))) N a0 a1 a2 (w64 (((a2.length:Nat):Int)-1)) 0 a3 a4 a5 a6 a7 a8 a9 [])
def F7:CfS R:=u2 (F6 N) 78 ⟨[.ptr 0 0,pS,pI,pL [.s]],[(0,.box zb4),(1,.arr zs1),(2,.arr zs0),(3,.em 2),(4,.em 2),(5,.mp .s hI)]⟩ (aEn N) fun f k=>f (qA k [0,5] ⟨[],[(0,.box zb4),(1,.arr zs1),(2,.arr zs0),(3,.em 2),(4,.em 2),(5,.mp .s hI)]⟩)
theorem bNQ:FOK (F7 N:CfS R) (aAo T):=uCk (bKT N) c78 (H:=H7) (Lp:=(bUT N)) (hl:=(aAi (l:=[(26,[0,1,2,3,8,12,13],aZj)]) (by kernel_rfl) ⟨(aAf (bMh N N)),trivial⟩))
def H8:Nat->Option (List Sh):=fun n=>if n=10000 then some [.s,hI]else none
def aG6 (N:Nat)(a0:ByteArray)(a1:Int)(a2:ByteArray)(a3:zt7)(a4:zt1)(a5:zt2)(a6:zt0)(a7:Nat)(a8:zt4)(k0:zk2 (zt7->bYR (Option R))):Option R:=(k0 a2 a3 a4 a5 a6 [(a0,a1)] a7 a8)
def F8:CfS R:=u2 (F7 N) 79 ⟨[.ptr 0 0,pS,pI],[(0,.box zb4),(1,.arr zs1),(2,.arr zs0),(3,.em 2),(4,.em 2),(5,.mp .s hI)]⟩ (aG6 N) fun f k=>f (qA k [0,5] ⟨[],[(0,.box zb4),(1,.arr zs1),(2,.arr zs0),(3,.arr [.s,hI]),(4,.em 2),(5,.mp .s hI)]⟩)
theorem bJv:FOK (F8 N:CfS R) (aAo T):=uCk (bNQ N) c79 (H:=H8)
def H9:Nat->Option (List Sh):=fun n=>if n=10000 then some [.s,hI,hI,hI,hI]else if n=12000 then some [.s]else if n=27000 then some [.s,hI,hI,hI,hI]else if n=31000 then some [.s]else if n=38000 then some [.s,hI]else if n=54000 then some [.s,hI,hI]else none
def aF0 (k0:ByteArray->zt1->List ByteArray->Option R):Nat->zk1 (ByteArray->zt1->List ByteArray->Option R)
 | 0,_,_,_,_,_=>none
 | n+1,b0,b1,b2,b3,b4=>(bif decide (b1<b0)then (bif decide (-9223372036854775808<=(w64 (b1+1))∧(w64 (b1+1))<=9223372036854775807)then (bif decide (((((ByteArray.mk #[115]).size+(aP6 (w64 (b1+1))).size:Nat)):Int)>9223372036854775807)then none else (aEI N ((ByteArray.mk #[115])++(aP6 (w64 (b1+1)))) 1 1 (fun y1 y2 y3 y4 y5=>(bif aBU (b3.length+1) 48 then (bif aBU (1+b4.length) 16 then (aF0 k0 n b0 (w64 (b1+1)) b2 (b3++[(y1,y2,y3,y4,y5)]) ([((ByteArray.mk #[115])++(aP6 (w64 (b1+1))))]++b4))else none)else none))))else none)else (k0 b2 b3 b4))
def P9_l0:SP:=⟨[(2,.ptr 0 0),(4,.own 7),(5,.own 8),(17,pI),(18,pI)],[(0,.box cFx),(1,.em 2),(2,.em 5),(3,.em 4),(4,.em 3),(5,.em 2),(6,.em 2),(7,.arr zs2),(8,.arr [.s])]⟩
def bHi:Nat->P9_l0.den->KS R->Option R:=eS P9_l0 fun k=>aF0 N (qS k (.ex 0) ⟨[(2,.ptr 0 0),(4,.own 7),(5,.own 8)],[(0,.box cFx),(1,.em 2),(2,.em 5),(3,.em 4),(4,.em 3),(5,.em 2),(6,.em 2),(7,.arr zs2),(8,.arr [.s])]⟩)
theorem bPM:LpG T P9_l0 (bHi N (R:=R)) [2,4,5,17,18] bAe:=lpk (bJv N) 250 (H:=H9)
def bT7:LpS R:=aCc noL 250 (aAx P9_l0 (bHi N N))
def aIy (a0:Int)(k0:zk2 (zt7->Int->Option R)):Option R:=(aCm N a0 2 4 (fun y1=>(bif (!y1)then (k0 (ByteArray.mk #[]) [] [] [] [] [] 2)else (aEI N (ByteArray.mk #[115,114,99]) 1 0 (fun y2 y3 y4 y5 y6=>(aF0 N (fun z7 z8 z9=>(aH5 N (ByteArray.mk #[102,108,111,112,115]) [((ByteArray.mk #[100]),1)] z8 (fun y10 y11 y12 y13 y14 y15=>(aGk N 1 1 y10 y11 y12 y13 y14 y15 (fun y16 y17 y18 y19 y20 y21 y22=>(bif aGH .s hI y14 y15 .s hI y21 y22 then (aDO N (ByteArray.mk #[108,111,97,100]) y16 [((ByteArray.mk #[115,114,99]),(aFh .s (ByteArray.mk #[100]) y15 0),y16)] y17 y18 y19 y20 [] y14 y15 (fun y23 y24 y25 y26 y27 y28 y29=>(bif aGH .s hI y14 y15 .s hI y28 y29 then (aEn N (ByteArray.mk #[115,104,105,102,116]) y16 z9 y23 y24 y25 y26 y27 y14 y15 (fun y30 y31 y32 y33 y34 y35 y36=>(bif aGH .s hI y14 y15 .s hI y35 y36 then (bif inR 0 z9.length then ((z9[0]?).bind fun x37=>(aG6 N (ByteArray.mk #[113]) (aFh .s x37 y15 0) y30 y31 y32 y33 y34 y14 y15 (fun y38 y39 y40 y41 y42 y43 y44 y45=>(bif aGH .s hI y14 y15 .s hI y44 y45 then (k0 y38 y39 y40 y41 y42 y43 0)else none))))else none)else none)))else none)))else none)))))) N a0 0 (ByteArray.mk #[]) [(y2,y3,y4,y5,y6)] [(ByteArray.mk #[115,114,99])]))))))
def F9:CfS R:=u1 (F8 N) 13 ⟨[pI],[]⟩ ⟨[.agg zb5,pI],[]⟩ (aIy N)
theorem bPa:FOK (F9 N:CfS R) (aAo T):=uCk (bJv N) c13 (H:=H9) (Lp:=(bT7 N)) (rp:=[⟨[.agg [pS,pL [.s,hI],pL zs2,pL zs1,pL zs0,pL [.s,hI],.p (.e 2)],pI],[]⟩]) (hl:=(aAi (l:=[(250,[2,4,5,17,18],bAe)]) (by kernel_rfl) ⟨(aAf (bPM N N)),trivial⟩))
def H10:Nat->Option (List Sh):=fun n=>if n=2000 then some [.s,hI]else none
def aEA (N:Nat)(a0:zt7)(k0:zt7->Option R):Option R:=(bif aBU (0+a0.length) 24 then (k0 a0)else none)
def F10:CfS R:=u1 (F9 N) 115 ⟨[pL [.s,hI]],[]⟩ ⟨[pL [.s,hI]],[]⟩ (aEA N)
theorem bKo:FOK (F10 N:CfS R) (aAo T):=uCk (bPa N) bPA (H:=H10)
def H11:Nat->Option (List Sh):=fun n=>if n=2000 then some [hI]else none
def aCX (N:Nat)(a0:List Int)(k0:List Int->Option R):Option R:=(bif aBU (0+a0.length) 8 then (k0 a0)else none)
def F11:CfS R:=u1 (F10 N) 20 ⟨[pL [hI]],[]⟩ ⟨[.own 0],[(0,.arr [hI])]⟩ (aCX N)
theorem bAF:FOK (F11 N:CfS R) (aAo T):=uCk (bKo N) c20 (H:=H11)
def H12:Nat->Option (List Sh):=fun n=>if n=4000 then some [hI,hI,.sl [hI],hI]else none
def aBC (k0:zt2->Option R):Nat->zt2->Int->zt2->Option R
 | 0,_,_,_=>none
 | n+1,b0,b1,b2=>(bif decide (b1<((b0.length:Nat):Int))then ((at? b0 b1).bind fun x1=>(bif inR b1 b2.length then ((b2[b1.toNat]?).bind fun x2=>((at? b0 b1).bind fun x3=>(aCX N x3.2.2.1 (fun y4=>(bif inR b1 ((List.set b2 b1.toNat x1).length)then (((List.set b2 b1.toNat x1)[b1.toNat]?).bind fun x5=>(aBC k0 n b0 (w64 (b1+1)) (List.set (List.set b2 b1.toNat x1) b1.toNat (x5.1,x5.2.1,y4,x5.2.2.2))))else none)))))else none))else (k0 b2))
def P12_l0:SP:=⟨[(0,pL zs1),(3,.own 0),(4,pI)],[(0,.arr zs1)]⟩
def bAx:Nat->P12_l0.den->KS R->Option R:=eS P12_l0 fun k=>aBC N (qS k (.ex 0) ⟨[(3,.own 0)],[(0,.arr zs1)]⟩)
theorem bIe:LpG T P12_l0 (bAx N (R:=R)) [0,3,4] aS5:=lpk (bAF N) 58 (H:=H12)
def bMc:LpS R:=aCc noL 58 (aAx P12_l0 (bAx N N))
def aEL (a0:zt2)(k0:zt2->Option R):Option R:=(bif decide (0<=((a0.length:Nat):Int)∧((a0.length:Nat):Int)<=((a0.length:Nat):Int))then (bif aBU a0.length 48 then (aBC N k0 N a0 0 (List.replicate a0.length (0,0,[],0)))else none)else none)
def F12:CfS R:=u1 (F11 N) 116 ⟨[pL zs1],[]⟩ ⟨[pL zs1],[]⟩ (aEL N)
theorem bIl:FOK (F12 N:CfS R) (aAo T):=uCk (bAF N) bLH (H:=H12) (Lp:=(bMc N)) (hl:=(aAi (l:=[(58,[0,3,4],aS5)]) (by kernel_rfl) ⟨(aAf (bIe N N)),trivial⟩))
def H13:Nat->Option (List Sh):=fun n=>if n=2000 then some [.s,hI]else none
def aDY (N:Nat)(a0:zt7)(k0:zt7->Option R):Option R:=(bif aBU (0+a0.length) 24 then (k0 a0)else none)
def F13:CfS R:=u1 (F12 N) 117 ⟨[pL [.s,hI]],[]⟩ ⟨[pL [.s,hI]],[]⟩ (aDY N)
theorem bG7:FOK (F13 N:CfS R) (aAo T):=uCk (bIl N) bPN (H:=H13)
def H14:Nat->Option (List Sh):=fun n=>if n=2000 then some [hI,hI,hI]else none
def aEi (N:Nat)(a0:zt8)(k0:zt8->Option R):Option R:=(bif aBU (0+a0.length) 24 then (k0 a0)else none)
def F14:CfS R:=u1 (F13 N) 118 ⟨[pL zs5],[]⟩ ⟨[pL zs5],[]⟩ (aEi N)
theorem aVU:FOK (F14 N:CfS R) (aAo T):=uCk (bG7 N) bNS (H:=H14)
def H15:Nat->Option (List Sh):=fun n=>if n=18000 then some [.s,hI,hI,hI,hI]else if n=27000 then some [.s,hI,.sl [hI,hI,hI]]else if n=62000 then some [hI,.sl [hI]]else none
def aBj (k0:zk7 (Option R)):Nat->Int->zk7 (Option R)
 | 0,_,_,_,_,_,_,_,_,_,_=>none
 | n+1,b0,b1,b2,b3,b4,b5,b6,b7,b8,b9=>(bif decide (b0<((b4.length:Nat):Int))then ((at? b4 b0).bind fun x1=>(bif inR b0 b9.length then ((b9[b0.toNat]?).bind fun x2=>((at? b4 b0).bind fun x3=>(aEi N x3.2.2 (fun y4=>(bif inR b0 ((List.set b9 b0.toNat x1).length)then (((List.set b9 b0.toNat x1)[b0.toNat]?).bind fun x5=>(aBj k0 n (w64 (b0+1)) b1 b2 b3 b4 b5 b6 b7 b8 (List.set (List.set b9 b0.toNat x1) b0.toNat (x5.1,x5.2.1,y4))))else none)))))else none))else (k0 b1 b2 b3 b4 b5 b6 b7 b8 b9))
def P15_l0:SP:=⟨[(1,.ptr 0 0),(2,.ptr 2 0),(3,.own 9),(4,pI)],[(0,.box bLA),(1,.arr zs2),(2,.box bOR),(3,.em 2),(4,.em 5),(5,.em 4),(6,.em 3),(7,.em 2),(8,.em 2),(9,.arr zs0)]⟩
def aY7:Nat->P15_l0.den->KS R->Option R:=eS P15_l0 fun k=>aBj N (qS k (.ex 0) ⟨[(1,.ptr 0 0),(2,.ptr 2 0),(3,.own 9)],[(0,.box bLA),(1,.arr zs2),(2,.box bOR),(3,.em 2),(4,.em 5),(5,.em 4),(6,.em 3),(7,.em 2),(8,.em 2),(9,.arr zs0)]⟩)
theorem bKM:LpG T P15_l0 (aY7 N (R:=R)) [1,2,3,4] aZp:=lpk (aVU N) 250 (H:=H15)
def bGY:LpS R:=aCc noL 250 (aAx P15_l0 (aY7 N N))
def aBk (k0:zk7 (zt6->Option R)):Nat->Int->zk7 (zt6->Option R)
 | 0,_,_,_,_,_,_,_,_,_,_,_=>none
 | n+1,b0,b1,b2,b3,b4,b5,b6,b7,b8,b9,b10=>(bif decide (b0<((b6.length:Nat):Int))then ((at? b6 b0).bind fun x1=>((at? b6 b0).bind fun x2=>(aCX N x2.2 (fun y3=>(bif inR b0 b10.length then ((b10[b0.toNat]?).bind fun x4=>(aBk k0 n (w64 (b0+1)) b1 b2 b3 b4 b5 b6 b7 b8 b9 (List.set b10 b0.toNat (x1.1,y3))))else none)))))else (k0 b1 b2 b3 b4 b5 b6 b7 b8 b9 b10))
def P15_l1:SP:=⟨[(1,.ptr 0 0),(2,.ptr 2 0),(3,.own 9),(5,.own 10),(6,pI)],[(0,.box bLA),(1,.arr zs2),(2,.box bOR),(3,.em 2),(4,.em 5),(5,.em 4),(6,.em 3),(7,.em 2),(8,.em 2),(9,.arr zs0),(10,.arr zs3)]⟩
def aZ4:Nat->P15_l1.den->KS R->Option R:=eS P15_l1 fun k=>aBk N (qS k (.ex 2) ⟨[(1,.ptr 0 0),(2,.ptr 2 0),(3,.own 9),(5,.own 10)],[(0,.box bLA),(1,.arr zs2),(2,.box bOR),(3,.em 2),(4,.em 5),(5,.em 4),(6,.em 3),(7,.em 2),(8,.em 2),(9,.arr zs0),(10,.arr zs3)]⟩)
theorem bI5:LpG T P15_l1 (aZ4 N (R:=R)) [1,2,3,5,6] bAi:=lpk (aVU N) 1018 (H:=H15) (Lp:=(bGY N))
def bPR:LpS R:=aCc (bGY N) 1018 (aAx P15_l1 (aZ4 N N))
def aA6 (a0:ByteArray)(a1:zt7)(a2:zt1)(a3:zt2)(a4:zt0)(a5:zt7)(a6:zt6)(k0:zk0 (Option R)):Option R:=(aEA N a1 (fun y1=>(aEL N a3 (fun y2=>(aDY N a5 (fun y3=>(bif aBU (0+a2.length) 48 then (bif decide (0<=((a4.length:Nat):Int)∧((a4.length:Nat):Int)<=((a4.length:Nat):Int))then (bif aBU a4.length 48 then (aBj N (fun z6 z7 z8 z9 z10 z11 z12 z13 z14=>(bif decide (0<=((z11.length:Nat):Int)∧((z11.length:Nat):Int)<=((z11.length:Nat):Int))then (bif aBU z11.length 32 then (aBk N (fun z15 z16 z17 z18 z19 z20 z21 z22 z23 z24=>(k0 z15 z16 z21 z17 z23 z19 z24)) N 0 z6 z7 z8 z9 z10 z11 z12 z13 z14 (List.replicate z11.length (0,[])))else none)else none)) N 0 a0 y1 y2 a4 y3 a6 a2 (ByteArray.mk #[]) (List.replicate a4.length ((ByteArray.mk #[]),0,[])))else none)else none)else none)))))))
def F15:CfS R:=u1 (F14 N) 39 ⟨[.agg zb2],[]⟩ ⟨[.agg zb2],[]⟩ (aA6 N)
theorem bGL:FOK (F15 N:CfS R) (aAo T):=uCk (aVU N) c39 (H:=H15) (Lp:=(bPR N)) (hl:=(aAi (l:=[(250,[1,2,3,4],aZp),(1018,[1,2,3,5,6],bAi)]) (by kernel_rfl) ⟨(aDL (by decide) (aAf (bKM N N))),(aAf (bI5 N N)),trivial⟩))
def aAF (N:Nat)(a0 a1 a2:Int)(k0:Bool->Option R):Option R:=(bif decide (a1<=a0)then (k0 (decide (a0<=a2)))else (k0 false))
def F16:CfS R:=u1 (F15 N) 200 ⟨[pI,pI,pI],[]⟩ ⟨[pB],[]⟩ (aAF N)
theorem bGT:FOK (F16 N:CfS R) (aAo T):=uCk (bGL N) bMx
def aAj (N:Nat)(a0:Bool)(a1:Int)(k0:Int->Option R):Option R:=(bif a0 then (k0 0)else (k0 a1))
def F17:CfS R:=u1 (F16 N) 199 ⟨[pB,pI],[]⟩ ⟨[pI],[]⟩ (aAj N)
theorem bAJ:FOK (F17 N:CfS R) (aAo T):=uCk (bGT N) bNg
def aBy (N:Nat)(k0:Int->Option R)(k1:Option R):zk5 (zk1 (Int->Option R))
 | 0,_,_,_,_=>none
 | n+1,b0,b1,b2,b3=>(bif decide (b3<b2)then ((at? b0 b3).bind fun x1=>(bif decide (b1=x1)then (k0 b3)else (aBy N k0 k1 n b0 b1 b2 (w64 (b3+1)))))else k1)
def P18_l0:SP:=⟨[(0,pL [hI]),(1,pI),(7,pI),(8,pI)],[]⟩
def bA1:Nat->P18_l0.den->KS R->Option R:=eS P18_l0 fun k=>aBy N (qS k .ret ⟨[(4,pI)],[]⟩) (qS k (.ex 0) ⟨[],[]⟩)
theorem bKA:LpG T P18_l0 (bA1 N (R:=R)) [0,1,7,8] aT8:=lpk (bAJ N) 26
def bMf:LpS R:=aCc noL 26 (aAx P18_l0 (bA1 N N))
def aEz (a0:List Int)(a1:Int)(k0:Int->Option R):Option R:=(aBy N k0 (k0 (-1)) N a0 a1 ((a0.length:Nat):Int) 0)
def F18:CfS R:=u1 (F17 N) 182 ⟨[pL [hI],pI],[]⟩ ⟨[pI],[]⟩ (aEz N)
theorem bHK:FOK (F18 N:CfS R) (aAo T):=uCk (bAJ N) bL6 (Lp:=(bMf N)) (hl:=(aAi (l:=[(26,[0,1,7,8],aT8)]) (by kernel_rfl) ⟨(aAf (bKA N N)),trivial⟩))
def aB7 (a0:List Int)(a1:Int)(k0:Bool->Option R):Option R:=(aEz N a0 a1 (fun y1=>(k0 (decide (0<=y1)))))
def F19:CfS R:=u1 (F18 N) 132 ⟨[pL [hI],pI],[]⟩ ⟨[pB],[]⟩ (aB7 N)
theorem aZE:FOK (F19 N:CfS R) (aAo T):=uCk (bHK N) bOV
def aDQ (N:Nat)(k0:Int->Option R)(k1:Option R):zk5 (zk1 (Option R))
 | 0,_,_,_=>none
 | n+1,b0,b1,b2=>(bif decide (b2<b1)then ((at? b0 b2).bind fun x1=>(bif decide (x1≠0)then (k0 x1)else (aDQ N k0 k1 n b0 b1 (w64 (b2+1)))))else k1)
def P20_l0:SP:=⟨[(5,pL [hI]),(6,pI),(7,pI)],[]⟩
def aZR:Nat->P20_l0.den->KS R->Option R:=eS P20_l0 fun k=>aDQ N (qS k .ret ⟨[(2,pI)],[]⟩) (qS k (.ex 0) ⟨[],[]⟩)
theorem bIf:LpG T P20_l0 (aZR N (R:=R)) [5,6,7] aSm:=lpk (aZE N) 26
def bNs:LpS R:=aCc noL 26 (aAx P20_l0 (aZR N N))
def aAY (a0:List Int)(k0:Int->Option R):Option R:=(aDQ N k0 (k0 0) N a0 ((a0.length:Nat):Int) 0)
def F20:CfS R:=u1 (F19 N) 146 ⟨[pL [hI]],[]⟩ ⟨[pI],[]⟩ (aAY N)
theorem bJN:FOK (F20 N:CfS R) (aAo T):=uCk (aZE N) bLx (Lp:=(bNs N)) (hl:=(aAi (l:=[(26,[5,6,7],aSm)]) (by kernel_rfl) ⟨(aAf (bIf N N)),trivial⟩))
def H21:Nat->Option (List Sh):=fun n=>if n=17000 then some [hI]else none
def aC3 (a0 a1:Int)(a2:ByteArray)(a3:zt7)(a4:zt1)(a5:zt2)(a6:zt0)(a7:zt7)(a8:zt6)(a9:Int)(a10:List Int)(k0:Int->zk0 (zk9 (Option R))):Option R:=(aAF N a1 0 (w64 (((a6.length:Nat):Int)-1)) (fun y1=>(aAj N y1 6 (fun y2=>(bif slP 0 a0 a10.length then (aB7 N (List.take a0.toNat (List.drop 0 a10)) a1 (fun y3=>(aAj N (!y3) 23 (fun y4=>(aAY N [y2,y4] (fun y5=>(k0 y5 a2 a3 a4 a5 a6 a7 a8 a9 a10)))))))else none)))))
def F21:CfS R:=u2 (F20 N) 244 ⟨[pI,pI,.ptr 0 0,.ptr 1 0],[(0,.box zb2),(1,.box [pI,pL [hI]])]⟩ (aC3 N) fun f k=>f (qA k [0,1] ⟨[pI],[(0,.box zb2),(1,.box [pI,pL [hI]])]⟩)
theorem aZc:FOK (F21 N:CfS R) (aAo T):=uCk (bJN N) bO5 (H:=H21)
def aAu (k0:zk1 (zk0 (zk9 (Option R))))(k1:zk0 (zk9 (Option R))):zk5 (zk1 (zk0 (zk9 (Option R))))
 | 0,_,_,_,_,_,_,_,_,_,_,_,_=>none
 | n+1,b0,b1,b2,b3,b4,b5,b6,b7,b8,b9,b10,b11=>(bif decide (b2<b1)then ((at? b0 b2).bind fun x1=>(aC3 N b2 x1 b3 b4 b5 b6 b7 b8 b9 b10 b11 (fun y2 y3 y4 y5 y6 y7 y8 y9 y10 y11=>(bif decide (y2≠0)then (k0 b2 y2 y3 y4 y5 y6 y7 y8 y9 y10 y11)else (aAu k0 k1 n b0 b1 (w64 (b2+1)) y3 y4 y5 y6 y7 y8 y9 y10 y11)))))else (k1 b3 b4 b5 b6 b7 b8 b9 b10 b11))
def P22_l0:SP:=⟨[(1,.fn 244 [.ptr 0 0,.ptr 1 0]),(9,pL [hI]),(10,pI),(11,pI),(100001,.fn 244 [.ptr 0 0,.ptr 1 0])],[(0,.box zb2),(1,.box [pI,pL [hI]])]⟩
def aYX:Nat->P22_l0.den->KS R->Option R:=eS P22_l0 fun k=>aAu N (qS k .ret ⟨[(4,pI),(5,pI),(100001,.fn 244 [.ptr 0 0,.ptr 1 0])],[(0,.box zb2),(1,.box [pI,pL [hI]])]⟩) (qS k (.ex 0) ⟨[(100001,.fn 244 [.ptr 0 0,.ptr 1 0])],[(0,.box zb2),(1,.box [pI,pL [hI]])]⟩)
theorem bKg:LpG T P22_l0 (aYX N (R:=R)) [1,9,10,11] aJZ:=lpk (aZc N) 26
def bNX:LpS R:=aCc noL 26 (aAx P22_l0 (aYX N N))
def aBS (a0:List Int)(a1:ByteArray)(a2:zt7)(a3:zt1)(a4:zt2)(a5:zt0)(a6:zt7)(a7:zt6)(a8:Int)(a9:List Int)(k0:zk1 (zk0 (zk9 (Option R)))):Option R:=(aAu N k0 (fun z23 z24 z25 z26 z27 z28 z29 z30 z31=>(k0 0 0 z23 z24 z25 z26 z27 z28 z29 z30 z31)) N a0 ((a0.length:Nat):Int) 0 a1 a2 a3 a4 a5 a6 a7 a8 a9)
def F22:CfS R:=u2 (F21 N) 201 ⟨[pL [hI],.fn 244 [.ptr 0 0,.ptr 1 0]],[(0,.box zb2),(1,.box [pI,pL [hI]])]⟩ (aBS N) fun f k=>f (qA k [0,1] ⟨[pI,pI],[(0,.box zb2),(1,.box [pI,pL [hI]])]⟩)
theorem bKk:FOK (F22 N:CfS R) (aAo T):=uCk (aZc N) bGx (Lp:=(bNX N)) (hl:=(aAi (l:=[(26,[1,9,10,11],aJZ)]) (by kernel_rfl) ⟨(aAf (bKg N N)),trivial⟩))
def H23:Nat->Option (List Sh):=fun n=>if n=22000 then some [hI]else none
def aCF (a0 a1:Int)(a2:List Int)(a3:ByteArray)(a4:zt7)(a5:zt1)(a6:zt2)(a7:zt0)(a8:zt7)(a9:zt6)(k0:Int->zk0 (Option R)):Option R:=(aBS N a2 a3 a4 a5 a6 a7 a8 a9 a1 a2 (fun y1 y2 y3 y4 y5 y6 y7 y8 y9 y10 y11=>(aAF N y10 0 3 (fun y12=>(aAj N y12 15 (fun y13=>(aAF N ((y11.length:Nat):Int) 1 16 (fun y14=>(aAj N y14 10 (fun y15=>(aAY N [y13,y15,y2] (fun y16=>(k0 y16 y3 y4 y5 y6 y7 y8 y9)))))))))))))
def F23:CfS R:=u2 (F22 N) 243 ⟨[pI,.agg [pI,pL [hI]],.ptr 0 0],[(0,.box zb2)]⟩ (aCF N) fun f k=>f (qA k [0] ⟨[pI],[(0,.box zb2)]⟩)
theorem bAR:FOK (F23 N:CfS R) (aAo T):=uCk (bKk N) bPp (H:=H23)
def aAq (k0:zk1 (zk0 (Option R)))(k1:zk0 (Option R)):Nat->zt6->zk1 (zk0 (Option R))
 | 0,_,_,_,_,_,_,_,_,_,_=>none
 | n+1,b0,b1,b2,b3,b4,b5,b6,b7,b8,b9=>(bif decide (b2<b1)then ((at? b0 b2).bind fun x1=>(aCF N b2 x1.1 x1.2 b3 b4 b5 b6 b7 b8 b9 (fun y2 y3 y4 y5 y6 y7 y8 y9=>(bif decide (y2≠0)then (k0 b2 y2 y3 y4 y5 y6 y7 y8 y9)else (aAq k0 k1 n b0 b1 (w64 (b2+1)) y3 y4 y5 y6 y7 y8 y9)))))else (k1 b3 b4 b5 b6 b7 b8 b9))
def P24_l0:SP:=⟨[(1,.fn 243 [.ptr 0 0]),(9,pL zs3),(10,pI),(11,pI),(100001,.fn 243 [.ptr 0 0])],[(0,.box zb2)]⟩
def bAL:Nat->P24_l0.den->KS R->Option R:=eS P24_l0 fun k=>aAq N (qS k .ret ⟨[(4,pI),(5,pI),(100001,.fn 243 [.ptr 0 0])],[(0,.box zb2)]⟩) (qS k (.ex 0) ⟨[(100001,.fn 243 [.ptr 0 0])],[(0,.box zb2)]⟩)
theorem bKE:LpG T P24_l0 (bAL N (R:=R)) [1,9,10,11] aT7:=lpk (bAR N) 26
def bNE:LpS R:=aCc noL 26 (aAx P24_l0 (bAL N N))
def aBv (a0:zt6)(a1:ByteArray)(a2:zt7)(a3:zt1)(a4:zt2)(a5:zt0)(a6:zt7)(a7:zt6)(k0:zk1 (zk0 (Option R))):Option R:=(aAq N k0 (fun z19 z20 z21 z22 z23 z24 z25=>(k0 0 0 z19 z20 z21 z22 z23 z24 z25)) N a0 ((a0.length:Nat):Int) 0 a1 a2 a3 a4 a5 a6 a7)
def F24:CfS R:=u2 (F23 N) 242 ⟨[pL zs3,.fn 243 [.ptr 0 0]],[(0,.box zb2)]⟩ (aBv N) fun f k=>f (qA k [0] ⟨[pI,pI],[(0,.box zb2)]⟩)
theorem bIL:FOK (F24 N:CfS R) (aAo T):=uCk (bAR N) bLy (Lp:=(bNE N)) (hl:=(aAi (l:=[(26,[1,9,10,11],aT7)]) (by kernel_rfl) ⟨(aAf (bKE N N)),trivial⟩))
def aEj (a0:ByteArray)(a1:zt7)(a2:zt1)(a3:zt2)(a4:zt0)(a5:zt7)(a6:zt6)(k0:zk1 (zk0 (Option R))):Option R:=(aBv N a6 a0 a1 a2 a3 a4 a5 a6 k0)
def F25:CfS R:=u2 (F24 N) 241 ⟨[.ptr 0 0],[(0,.box zb2)]⟩ (aEj N) fun f k=>f (qA k [0] ⟨[pI,pI],[(0,.box zb2)]⟩)
theorem bGI:FOK (F25 N:CfS R) (aAo T):=uCk (bIL N) bNY
def aEm (a0:ByteArray)(a1:zt7)(a2:zt1)(a3:zt2)(a4:zt0)(a5:zt7)(a6:zt6)(k0:zk1 (zk0 (Option R))):Option R:=(aAj N (decide (((a6.length:Nat):Int)<=16)) 8 (fun y1=>(k0 0 y1 a0 a1 a2 a3 a4 a5 a6)))
def F26:CfS R:=u2 (F25 N) 240 ⟨[.ptr 0 0],[(0,.box zb2)]⟩ (aEm N) fun f k=>f (qA k [0] ⟨[pI,pI],[(0,.box zb2)]⟩)
theorem aZA:FOK (F26 N:CfS R) (aAo T):=uCk (bGI N) bOv
def aB3 (k0:Bool->Option R)(k1:ByteArray->Option R):Nat->ByteArray->zk1 (Option R)
 | 0,_,_,_=>none
 | n+1,b0,b1,b2=>(bif decide (b2<b1)then ((aJd b0 b2).bind fun x1=>(aAF N (w64 x1) 97 122 (fun y2=>(bif y2 then (aB3 k0 k1 n b0 b1 (w64 (b2+1)))else (aAF N (w64 x1) 65 90 (fun y3=>(bif (!y3)then (bif decide (b2=0)then (k0 false)else (bif decide ((w64 x1)≠95)then (aAF N (w64 x1) 48 57 (fun y4=>(bif (!y4)then (k0 false)else (aB3 k0 k1 n b0 b1 (w64 (b2+1))))))else (aB3 k0 k1 n b0 b1 (w64 (b2+1)))))else (aB3 k0 k1 n b0 b1 (w64 (b2+1))))))))))else (k1 b0))
def P27_l0:SP:=⟨[(0,pS),(7,pI),(8,pI)],[]⟩
def bAD:Nat->P27_l0.den->KS R->Option R:=eS P27_l0 fun k=>aB3 N (qS k .ret ⟨[(2,pB)],[]⟩) (qS k (.ex 0) ⟨[(0,pS)],[]⟩)
theorem bG8:LpG T P27_l0 (bAD N (R:=R)) [0,7,8] aWa:=lpk (aZA N) 26
def bMa:LpS R:=aCc noL 26 (aAx P27_l0 (bAD N N))
def aFt (a0:ByteArray)(k0:Bool->Option R):Option R:=(aB3 N k0 (fun z6=>(aAF N ((z6.size:Nat):Int) 1 16 k0)) N a0 ((a0.size:Nat):Int) 0)
def F27:CfS R:=u1 (F26 N) 215 ⟨[pS],[]⟩ ⟨[pB],[]⟩ (aFt N)
theorem bKB:FOK (F27 N:CfS R) (aAo T):=uCk (aZA N) bL2 (Lp:=(bMa N)) (hl:=(aAi (l:=[(26,[0,7,8],aWa)]) (by kernel_rfl) ⟨(aAf (bG8 N N)),trivial⟩))
def H28:Nat->Option (List Sh):=fun n=>if n=10000 then some [hI]else none
def aCs (a0:ByteArray)(a1:Nat)(a2:zt3)(k0:Int->zk8 (Option R)):Option R:=(aFt N a0 (fun y1=>(aAj N y1 4 (fun y2=>(aAj N (!(aFh .s a0 a2 false)) 5 (fun y3=>(aAY N [y2,y3] (fun y4=>(k0 y4 (aGp .s a0 a1 a2) (aOS .s a0 true a1 a2))))))))))
def F28:CfS R:=u2 (F27 N) 219 ⟨[.mp 0,pS],[(0,.mp .s .b)]⟩ (aCs N) fun f k=>f (qA k [0] ⟨[pI],[(0,.mp .s .b)]⟩)
theorem bJq:FOK (F28 N:CfS R) (aAo T):=uCk (bKB N) bNf (H:=H28)
def aEQ (a0:ByteArray)(a1:zt7)(a2:zt1)(a3:zt2)(a4:zt0)(a5:zt7)(a6:zt6)(a7:Int)(k0:Bool->Option R):Option R:=(aAF N a7 0 (w64 (((a3.length:Nat):Int)-1)) k0)
def F29:CfS R:=u1 (F28 N) 239 ⟨[.agg zb2,pI],[]⟩ ⟨[pB],[]⟩ (aEQ N)
theorem bJE:FOK (F29 N:CfS R) (aAo T):=uCk (bJq N) bMM
def H30:Nat->Option (List Sh):=fun n=>if n=12000 then some [hI]else none
def aDR (a0:Int)(a1:ByteArray)(a2:Int)(a3:Nat)(a4:zt3)(a5:ByteArray)(a6:zt7)(a7:zt1)(a8:zt2)(a9:zt0)(a10:zt7)(a11:zt6)(k0:Int->zk8 (zk0 (Option R))):Option R:=(aCs N a1 a3 a4 (fun y1 y2 y3=>(aEQ N a5 a6 a7 a8 a9 a10 a11 a2 (fun y4=>(aAj N y4 9 (fun y5=>(aAY N [y1,y5] (fun y6=>(k0 y6 y2 y3 a5 a6 a7 a8 a9 a10 a11)))))))))
def F30:CfS R:=u2 (F29 N) 238 ⟨[pI,.agg [pS,pI],.ptr 0 0,.ptr 2 0],[(0,.box [.mp 1]),(1,.mp .s .b),(2,.box zb2)]⟩ (aDR N) fun f k=>f (qA k [0,2,1] ⟨[pI],[(0,.box [.mp 1]),(1,.mp .s .b),(2,.box zb2)]⟩)
theorem bAh:FOK (F30 N:CfS R) (aAo T):=uCk (bJE N) bMB (H:=H30)
def aAw (k0:zk1 (zk8 (zk0 (Option R))))(k1:zk8 (zk0 (Option R))):Nat->zt7->zk1 (zk8 (zk0 (Option R)))
 | 0,_,_,_,_,_,_,_,_,_,_,_,_=>none
 | n+1,b0,b1,b2,b3,b4,b5,b6,b7,b8,b9,b10,b11=>(bif decide (b2<b1)then ((at? b0 b2).bind fun x1=>(aDR N b2 x1.1 x1.2 b3 b4 b5 b6 b7 b8 b9 b10 b11 (fun y2 y3 y4 y5 y6 y7 y8 y9 y10 y11=>(bif decide (y2≠0)then (k0 b2 y2 y3 y4 y5 y6 y7 y8 y9 y10 y11)else (aAw k0 k1 n b0 b1 (w64 (b2+1)) y3 y4 y5 y6 y7 y8 y9 y10 y11)))))else (k1 b3 b4 b5 b6 b7 b8 b9 b10 b11))
def P31_l0:SP:=⟨[(1,.fn 238 [.ptr 0 0,.ptr 2 0]),(9,pL [.s,hI]),(10,pI),(11,pI),(100001,.fn 238 [.ptr 0 0,.ptr 2 0]),(100002,.mp 1)],[(0,.box [.mp 1]),(1,.mp .s .b),(2,.box zb2)]⟩
def aY0:Nat->P31_l0.den->KS R->Option R:=eS P31_l0 fun k=>aAw N (qS k .ret ⟨[(4,pI),(5,pI),(100001,.fn 238 [.ptr 0 0,.ptr 2 0]),(100002,.mp 1)],[(0,.box [.mp 1]),(1,.mp .s .b),(2,.box zb2)]⟩) (qS k (.ex 0) ⟨[(100001,.fn 238 [.ptr 0 0,.ptr 2 0]),(100002,.mp 1)],[(0,.box [.mp 1]),(1,.mp .s .b),(2,.box zb2)]⟩)
theorem bJp:LpG T P31_l0 (aY0 N (R:=R)) [1,9,10,11] aTT:=lpk (bAh N) 26
def bM4:LpS R:=aCc noL 26 (aAx P31_l0 (aY0 N N))
def aBZ (a0:zt7)(a1:Nat)(a2:zt3)(a3:ByteArray)(a4:zt7)(a5:zt1)(a6:zt2)(a7:zt0)(a8:zt7)(a9:zt6)(k0:zk1 (zk8 (zk0 (Option R)))):Option R:=(aAw N k0 (fun z23 z24 z25 z26 z27 z28 z29 z30 z31=>(k0 0 0 z23 z24 z25 z26 z27 z28 z29 z30 z31)) N a0 ((a0.length:Nat):Int) 0 a1 a2 a3 a4 a5 a6 a7 a8 a9)
def F31:CfS R:=u2 (F30 N) 237 ⟨[pL [.s,hI],.fn 238 [.ptr 0 0,.ptr 2 0]],[(0,.box [.mp 1]),(1,.mp .s .b),(2,.box zb2)]⟩ (aBZ N) fun f k=>f (qA k [0,2,1] ⟨[pI,pI],[(0,.box [.mp 1]),(1,.mp .s .b),(2,.box zb2)]⟩)
theorem bJP:FOK (F31 N:CfS R) (aAo T):=uCk (bAh N) bLR (Lp:=(bM4 N)) (hl:=(aAi (l:=[(26,[1,9,10,11],aTT)]) (by kernel_rfl) ⟨(aAf (bJp N N)),trivial⟩))
def aEF (a0:ByteArray)(a1:zt7)(a2:zt1)(a3:zt2)(a4:zt0)(a5:zt7)(a6:zt6)(a7:Nat)(a8:zt3)(k0:zk1 (zk0 (zk8 (Option R)))):Option R:=(aBZ N a5 a7 a8 a0 a1 a2 a3 a4 a5 a6 (fun y1 y2 y3 y4 y5 y6 y7 y8 y9 y10 y11=>(k0 y1 y2 y5 y6 y7 y8 y9 y10 y11 y3 y4)))
def F32:CfS R:=u2 (F31 N) 236 ⟨[.ptr 0 0,.ptr 1 0],[(0,.box zb2),(1,.box [.mp 2]),(2,.mp .s .b)]⟩ (aEF N) fun f k=>f (qA k [0,1,2] ⟨[pI,pI],[(0,.box zb2),(1,.box [.mp 2]),(2,.mp .s .b)]⟩)
theorem bIU:FOK (F32 N:CfS R) (aAo T):=uCk (bJP N) bMm
def aEC (a0:ByteArray)(a1:zt7)(a2:zt1)(a3:zt2)(a4:zt0)(a5:zt7)(a6:zt6)(k0:zk1 (zk0 (Option R))):Option R:=(aAj N (decide (((a5.length:Nat):Int)<=12)) 8 (fun y1=>(k0 0 y1 a0 a1 a2 a3 a4 a5 a6)))
def F33:CfS R:=u2 (F32 N) 235 ⟨[.ptr 0 0],[(0,.box zb2)]⟩ (aEC N) fun f k=>f (qA k [0] ⟨[pI,pI],[(0,.box zb2)]⟩)
theorem bHX:FOK (F33 N:CfS R) (aAo T):=uCk (bIU N) bOY
def aDv (a0:ByteArray)(a1:zt7)(a2:zt1)(a3:zt2)(a4:zt0)(a5:zt7)(a6:zt6)(a7:Int)(k0:Bool->Option R):Option R:=(aEQ N a0 a1 a2 a3 a4 a5 a6 a7 (fun y1=>(bif y1 then ((at? a3 a7).bind fun x2=>(k0 (decide (x2.2.1=1))))else (k0 false))))
def F34:CfS R:=u1 (F33 N) 231 ⟨[.agg zb2,pI],[]⟩ ⟨[pB],[]⟩ (aDv N)
theorem bKF:FOK (F34 N:CfS R) (aAo T):=uCk (bHX N) bNl
def H35:Nat->Option (List Sh):=fun n=>if n=23000 then some [hI]else none
def aFJ (a0:ByteArray)(a1:zt7)(a2:zt1)(a3:zt2)(a4:zt0)(a5:zt7)(a6:zt6)(a7 a8 a9:Int)(k0:Int->Option R):Option R:=(aAF N a7 0 (w64 (((a2.length:Nat):Int)-1)) (fun y1=>(aAj N y1 6 (fun y2=>(aDv N a0 a1 a2 a3 a4 a5 a6 a8 (fun y3=>(bif y3 then (aEQ N a0 a1 a2 a3 a4 a5 a6 a9 (fun y4=>(aAj N y4 9 (fun y5=>(aAY N [y2,y5] (fun y6=>(bif decide (y6≠0)then (k0 y6)else ((at? a3 a9).bind fun x7=>((at? a2 a7).bind fun x8=>(aAj N (decide (x7.2.1=x8.2.2.1)) 25 k0))))))))))else (aAj N false 9 (fun y10=>(aAY N [y2,y10] (fun y11=>(bif decide (y11≠0)then (k0 y11)else ((at? a3 a9).bind fun x12=>((at? a2 a7).bind fun x13=>(aAj N (decide (x12.2.1=x13.2.2.1)) 25 k0)))))))))))))))
def F35:CfS R:=u1 (F34 N) 234 ⟨[.agg zb2,.agg [pI,pI,pI]],[]⟩ ⟨[pI],[]⟩ (aFJ N)
theorem bJy:FOK (F35 N:CfS R) (aAo T):=uCk (bKF N) bPK (H:=H35)
def aC7 (a0 a1 a2 a3:Int)(a4:ByteArray)(a5:zt7)(a6:zt1)(a7:zt2)(a8:zt0)(a9:zt7)(a10:zt6)(k0:Int->zk0 (Option R)):Option R:=(aFJ N a4 a5 a6 a7 a8 a9 a10 a1 a2 a3 (fun y1=>(k0 y1 a4 a5 a6 a7 a8 a9 a10)))
def F36:CfS R:=u2 (F35 N) 233 ⟨[pI,.agg [pI,pI,pI],.ptr 0 0],[(0,.box zb2)]⟩ (aC7 N) fun f k=>f (qA k [0] ⟨[pI],[(0,.box zb2)]⟩)
theorem bAU:FOK (F36 N:CfS R) (aAo T):=uCk (bJy N) bMP
def aAs (k0:zk1 (zk0 (Option R)))(k1:zk0 (Option R)):Nat->zt8->zk1 (zk0 (Option R))
 | 0,_,_,_,_,_,_,_,_,_,_=>none
 | n+1,b0,b1,b2,b3,b4,b5,b6,b7,b8,b9=>(bif decide (b2<b1)then ((at? b0 b2).bind fun x1=>(aC7 N b2 x1.1 x1.2.1 x1.2.2 b3 b4 b5 b6 b7 b8 b9 (fun y2 y3 y4 y5 y6 y7 y8 y9=>(bif decide (y2≠0)then (k0 b2 y2 y3 y4 y5 y6 y7 y8 y9)else (aAs k0 k1 n b0 b1 (w64 (b2+1)) y3 y4 y5 y6 y7 y8 y9)))))else (k1 b3 b4 b5 b6 b7 b8 b9))
def P37_l0:SP:=⟨[(1,.fn 233 [.ptr 0 0]),(9,pL zs5),(10,pI),(11,pI),(100001,.fn 233 [.ptr 0 0])],[(0,.box zb2)]⟩
def bA3:Nat->P37_l0.den->KS R->Option R:=eS P37_l0 fun k=>aAs N (qS k .ret ⟨[(4,pI),(5,pI),(100001,.fn 233 [.ptr 0 0])],[(0,.box zb2)]⟩) (qS k (.ex 0) ⟨[(100001,.fn 233 [.ptr 0 0])],[(0,.box zb2)]⟩)
theorem bId:LpG T P37_l0 (bA3 N (R:=R)) [1,9,10,11] aS9:=lpk (bAU N) 26
def bMn:LpS R:=aCc noL 26 (aAx P37_l0 (bA3 N N))
def aBI (a0:zt8)(a1:ByteArray)(a2:zt7)(a3:zt1)(a4:zt2)(a5:zt0)(a6:zt7)(a7:zt6)(k0:zk1 (zk0 (Option R))):Option R:=(aAs N k0 (fun z19 z20 z21 z22 z23 z24 z25=>(k0 0 0 z19 z20 z21 z22 z23 z24 z25)) N a0 ((a0.length:Nat):Int) 0 a1 a2 a3 a4 a5 a6 a7)
def F37:CfS R:=u2 (F36 N) 232 ⟨[pL zs5,.fn 233 [.ptr 0 0]],[(0,.box zb2)]⟩ (aBI N) fun f k=>f (qA k [0] ⟨[pI,pI],[(0,.box zb2)]⟩)
theorem bGU:FOK (F37 N:CfS R) (aAo T):=uCk (bAU N) bL5 (Lp:=(bMn N)) (hl:=(aAi (l:=[(26,[1,9,10,11],aS9)]) (by kernel_rfl) ⟨(aAf (bId N N)),trivial⟩))
def H38:Nat->Option (List Sh):=fun n=>if n=17000 then some [hI]else if n=31000 then some [hI]else none
def aCN (a0:Int)(a1:ByteArray)(a2:Int)(a3:zt8)(a4:Nat)(a5:zt3)(a6:ByteArray)(a7:zt7)(a8:zt1)(a9:zt2)(a10:zt0)(a11:zt7)(a12:zt6)(k0:Int->zk8 (zk0 (Option R))):Option R:=(aCs N a1 a4 a5 (fun y1 y2 y3=>(aDv N a6 a7 a8 a9 a10 a11 a12 a2 (fun y4=>(aAj N y4 9 (fun y5=>(aAj N (decide (((a3.length:Nat):Int)<=16)) 8 (fun y6=>(aAY N [y1,y5,y6] (fun y7=>(aBI N a3 a6 a7 a8 a9 a10 a11 a12 (fun y8 y9 y10 y11 y12 y13 y14 y15 y16=>(aAY N [y7,y9] (fun y17=>(k0 y17 y2 y3 y10 y11 y12 y13 y14 y15 y16)))))))))))))))
def F38:CfS R:=u2 (F37 N) 230 ⟨[pI,.agg [pS,pI,pL zs5],.ptr 0 0,.ptr 2 0],[(0,.box [.mp 1]),(1,.mp .s .b),(2,.box zb2)]⟩ (aCN N) fun f k=>f (qA k [0,2,1] ⟨[pI],[(0,.box [.mp 1]),(1,.mp .s .b),(2,.box zb2)]⟩)
theorem bAz:FOK (F38 N:CfS R) (aAo T):=uCk (bGU N) bOP (H:=H38)
def aAA (k0:zk1 (zk8 (zk0 (Option R))))(k1:zk8 (zk0 (Option R))):Nat->zt0->zk1 (zk8 (zk0 (Option R)))
 | 0,_,_,_,_,_,_,_,_,_,_,_,_=>none
 | n+1,b0,b1,b2,b3,b4,b5,b6,b7,b8,b9,b10,b11=>(bif decide (b2<b1)then ((at? b0 b2).bind fun x1=>(aCN N b2 x1.1 x1.2.1 x1.2.2 b3 b4 b5 b6 b7 b8 b9 b10 b11 (fun y2 y3 y4 y5 y6 y7 y8 y9 y10 y11=>(bif decide (y2≠0)then (k0 b2 y2 y3 y4 y5 y6 y7 y8 y9 y10 y11)else (aAA k0 k1 n b0 b1 (w64 (b2+1)) y3 y4 y5 y6 y7 y8 y9 y10 y11)))))else (k1 b3 b4 b5 b6 b7 b8 b9 b10 b11))
def P39_l0:SP:=⟨[(1,.fn 230 [.ptr 0 0,.ptr 2 0]),(9,pL zs0),(10,pI),(11,pI),(100001,.fn 230 [.ptr 0 0,.ptr 2 0]),(100002,.mp 1)],[(0,.box [.mp 1]),(1,.mp .s .b),(2,.box zb2)]⟩
def bAZ:Nat->P39_l0.den->KS R->Option R:=eS P39_l0 fun k=>aAA N (qS k .ret ⟨[(4,pI),(5,pI),(100001,.fn 230 [.ptr 0 0,.ptr 2 0]),(100002,.mp 1)],[(0,.box [.mp 1]),(1,.mp .s .b),(2,.box zb2)]⟩) (qS k (.ex 0) ⟨[(100001,.fn 230 [.ptr 0 0,.ptr 2 0]),(100002,.mp 1)],[(0,.box [.mp 1]),(1,.mp .s .b),(2,.box zb2)]⟩)
theorem bHj:LpG T P39_l0 (bAZ N (R:=R)) [1,9,10,11] aUQ:=lpk (bAz N) 26
def bPm:LpS R:=aCc noL 26 (aAx P39_l0 (bAZ N N))
def aCf (a0:zt0)(a1:Nat)(a2:zt3)(a3:ByteArray)(a4:zt7)(a5:zt1)(a6:zt2)(a7:zt0)(a8:zt7)(a9:zt6)(k0:zk1 (zk8 (zk0 (Option R)))):Option R:=(aAA N k0 (fun z23 z24 z25 z26 z27 z28 z29 z30 z31=>(k0 0 0 z23 z24 z25 z26 z27 z28 z29 z30 z31)) N a0 ((a0.length:Nat):Int) 0 a1 a2 a3 a4 a5 a6 a7 a8 a9)
def F39:CfS R:=u2 (F38 N) 229 ⟨[pL zs0,.fn 230 [.ptr 0 0,.ptr 2 0]],[(0,.box [.mp 1]),(1,.mp .s .b),(2,.box zb2)]⟩ (aCf N) fun f k=>f (qA k [0,2,1] ⟨[pI,pI],[(0,.box [.mp 1]),(1,.mp .s .b),(2,.box zb2)]⟩)
theorem bIR:FOK (F39 N:CfS R) (aAo T):=uCk (bAz N) bLE (Lp:=(bPm N)) (hl:=(aAi (l:=[(26,[1,9,10,11],aUQ)]) (by kernel_rfl) ⟨(aAf (bHj N N)),trivial⟩))
def aED (a0:ByteArray)(a1:zt7)(a2:zt1)(a3:zt2)(a4:zt0)(a5:zt7)(a6:zt6)(a7:Nat)(a8:zt3)(k0:zk1 (zk0 (zk8 (Option R)))):Option R:=(aCf N a4 a7 a8 a0 a1 a2 a3 a4 a5 a6 (fun y1 y2 y3 y4 y5 y6 y7 y8 y9 y10 y11=>(k0 y1 y2 y5 y6 y7 y8 y9 y10 y11 y3 y4)))
def F40:CfS R:=u2 (F39 N) 228 ⟨[.ptr 0 0,.ptr 1 0],[(0,.box zb2),(1,.box [.mp 2]),(2,.mp .s .b)]⟩ (aED N) fun f k=>f (qA k [0,1,2] ⟨[pI,pI],[(0,.box zb2),(1,.box [.mp 2]),(2,.mp .s .b)]⟩)
theorem bK3:FOK (F40 N:CfS R) (aAo T):=uCk (bIR N) bOL
def aEx (a0:ByteArray)(a1:zt7)(a2:zt1)(a3:zt2)(a4:zt0)(a5:zt7)(a6:zt6)(k0:zk1 (zk0 (Option R))):Option R:=(aAj N (decide (((a4.length:Nat):Int)<=16)) 8 (fun y1=>(k0 0 y1 a0 a1 a2 a3 a4 a5 a6)))
def F41:CfS R:=u2 (F40 N) 227 ⟨[.ptr 0 0],[(0,.box zb2)]⟩ (aEx N) fun f k=>f (qA k [0] ⟨[pI,pI],[(0,.box zb2)]⟩)
theorem aVi:FOK (F41 N:CfS R) (aAo T):=uCk (bK3 N) bMg
def H42:Nat->Option (List Sh):=fun n=>if n=16000 then some [hI]else if n=33000 then some [hI]else none
def aDl (N:Nat)(k0:zk0 (List Int->Option R)):Nat->zt7->zk1 (zk0 (List Int->Option R))
 | 0,_,_,_,_,_,_,_,_,_,_,_=>none
 | n+1,b0,b1,b2,b3,b4,b5,b6,b7,b8,b9,b10=>(bif decide (b2<b1)then ((at? b0 b2).bind fun x1=>(bif aBU (b10.length+1) 8 then (aDl N k0 n b0 b1 (w64 (b2+1)) b3 b4 b5 b6 b7 b8 b9 (b10++[x1.2]))else none))else (k0 b3 b4 b5 b6 b7 b8 b9 b10))
def P42_l0:SP:=⟨[(1,.ptr 0 0),(3,.own 1),(9,pL [.s,hI]),(10,pI),(11,pI)],[(0,.box zb2),(1,.arr [hI])]⟩
def aZs:Nat->P42_l0.den->KS R->Option R:=eS P42_l0 fun k=>aDl N (qS k (.ex 0) ⟨[(1,.ptr 0 0),(3,.own 1)],[(0,.box zb2),(1,.arr [hI])]⟩)
theorem bKh:LpG T P42_l0 (aZs N (R:=R)) [1,3,9,10,11] aWC:=lpk (aVi N) 58 (H:=H42)
def bJd:LpS R:=aCc noL 58 (aAx P42_l0 (aZs N N))
def aDn (N:Nat)(k0:List Int->Option R):Nat->zt1->zk1 (List Int->Option R)
 | 0,_,_,_,_=>none
 | n+1,b0,b1,b2,b3=>(bif decide (b2<b1)then ((at? b0 b2).bind fun x1=>(bif aBU (b3.length+1) 8 then (aDn N k0 n b0 b1 (w64 (b2+1)) (b3++[x1.2.2.1]))else none))else (k0 b3))
def P42_l1:SP:=⟨[(3,.own 0),(22,pL zs2),(23,pI),(24,pI)],[(0,.arr [hI])]⟩
def bAa:Nat->P42_l1.den->KS R->Option R:=eS P42_l1 fun k=>aDn N (qS k (.ex 2) ⟨[(3,.own 0)],[(0,.arr [hI])]⟩)
theorem bKb:LpG T P42_l1 (bAa N (R:=R)) [3,22,23,24] aV6:=lpk (aVi N) 122 (H:=H42) (Lp:=(bJd N))
def bPP:LpS R:=aCc (bJd N) 122 (aAx P42_l1 (bAa N N))
def aFI (a0:ByteArray)(a1:zt7)(a2:zt1)(a3:zt2)(a4:zt0)(a5:zt7)(a6:zt6)(k0:List Int->Option R):Option R:=(aDl N (fun z2 z3 z4 z5 z6 z7 z8 z9=>(aDn N k0 N z4 ((z4.length:Nat):Int) 0 z9)) N a1 ((a1.length:Nat):Int) 0 a0 a1 a2 a3 a4 a5 a6 [])
def F42:CfS R:=u1 (F41 N) 206 ⟨[.agg zb2],[]⟩ ⟨[pL [hI]],[]⟩ (aFI N)
theorem bHc:FOK (F42 N:CfS R) (aAo T):=uCk (aVi N) bGX (H:=H42) (Lp:=(bPP N)) (hl:=(aAi (l:=[(58,[1,3,9,10,11],aWC),(122,[3,22,23,24],aV6)]) (by kernel_rfl) ⟨(aDL (by decide) (aAf (bKh N N))),(aAf (bKb N N)),trivial⟩))
def aC6 (N:Nat)(a0 a1 a2:Int)(k0:Bool->Option R):Option R:=(bif decide (a1<=a0)then (k0 (decide (a0<=a2)))else (k0 false))
def F43:CfS R:=u1 (F42 N) 274 ⟨[pI,pI,pI],[]⟩ ⟨[pB],[]⟩ (aC6 N)
theorem bJC:FOK (F43 N:CfS R) (aAo T):=uCk (bHc N) bOf
def aFy (a0:Int)(k0:Bool->Option R):Option R:=(aC6 N a0 1 16 k0)
def F44:CfS R:=u1 (F43 N) 270 ⟨[pI],[]⟩ ⟨[pB],[]⟩ (aFy N)
theorem bJs:FOK (F44 N:CfS R) (aAo T):=uCk (bJC N) bOB
def aAy (N:Nat)(a0:Bool)(a1:Int)(k0:Int->Option R):Option R:=(bif a0 then (k0 0)else (k0 a1))
def F45:CfS R:=u1 (F44 N) 259 ⟨[pB,pI],[]⟩ ⟨[pI],[]⟩ (aAy N)
theorem bKR:FOK (F45 N:CfS R) (aAo T):=uCk (bJs N) bQi
def aFj (a0 a1:Int)(k0:Int->Option R):Option R:=(aFy N a1 (fun y1=>(aAy N y1 2 k0)))
def F46:CfS R:=u1 (F45 N) 269 ⟨[pI,pI],[]⟩ ⟨[pI],[]⟩ (aFj N)
theorem bBb:FOK (F46 N:CfS R) (aAo T):=uCk (bKR N) bQb
def aAT (k0:zk1 (Option R))(k1:Option R):zk5 (zk1 (Option R))
 | 0,_,_,_=>none
 | n+1,b0,b1,b2=>(bif decide (b2<b1)then ((at? b0 b2).bind fun x1=>(aFj N b2 x1 (fun y2=>(bif decide (y2≠0)then (k0 b2 y2)else (aAT k0 k1 n b0 b1 (w64 (b2+1)))))))else k1)
def P47_l0:SP:=⟨[(1,.p (.fn 269 [])),(9,pL [hI]),(10,pI),(11,pI)],[]⟩
def aZO:Nat->P47_l0.den->KS R->Option R:=eS P47_l0 fun k=>aAT N (qS k .ret ⟨[(4,pI),(5,pI)],[]⟩) (qS k (.ex 0) ⟨[],[]⟩)
theorem bHa:LpG T P47_l0 (aZO N (R:=R)) [1,9,10,11] aNh:=lpk (bBb N) 26
def bN3:LpS R:=aCc noL 26 (aAx P47_l0 (aZO N N))
def aC4 (a0:List Int)(k0:zk1 (Option R)):Option R:=(aAT N k0 (k0 0 0) N a0 ((a0.length:Nat):Int) 0)
def F47:CfS R:=u1 (F46 N) 260 ⟨[pL [hI],.p (.fn 269 [])],[]⟩ ⟨[pI,pI],[]⟩ (aC4 N)
theorem bKa:FOK (F47 N:CfS R) (aAo T):=uCk (bBb N) bJ3 (Lp:=(bN3 N)) (hl:=(aAi (l:=[(26,[1,9,10,11],aNh)]) (by kernel_rfl) ⟨(aAf (bHa N N)),trivial⟩))
def aES (N:Nat)(k0:Option R):Option R:=k0
def F48:CfS R:=u1 (F47 N) 303 ⟨[.p (.ks (ByteArray.mk #[97,110,100])),.p (.fn 304 [])],[]⟩ ⟨[.agg [.p (.ks (ByteArray.mk #[97,110,100])),.p (.ki .i64 2),.p (.kb false),.p (.fn 300 []),.p (.fn 340 [.cp [.fn 304 []]])]],[]⟩ (aES N)
theorem bIX:FOK (F48 N:CfS R) (aAo T):=uCk (bKa N) bAI
def aET (N:Nat)(k0:Option R):Option R:=k0
def F49:CfS R:=u1 (F48 N) 303 ⟨[.p (.ks (ByteArray.mk #[111,114])),.p (.fn 305 [])],[]⟩ ⟨[.agg [.p (.ks (ByteArray.mk #[111,114])),.p (.ki .i64 2),.p (.kb false),.p (.fn 300 []),.p (.fn 340 [.cp [.fn 305 []]])]],[]⟩ (aET N)
theorem bHQ:FOK (F49 N:CfS R) (aAo T):=uCk (bIX N) bAI
def aEY (N:Nat)(k0:Option R):Option R:=k0
def F50:CfS R:=u1 (F49 N) 303 ⟨[.p (.ks (ByteArray.mk #[120,111,114])),.p (.fn 306 [])],[]⟩ ⟨[.agg [.p (.ks (ByteArray.mk #[120,111,114])),.p (.ki .i64 2),.p (.kb false),.p (.fn 300 []),.p (.fn 340 [.cp [.fn 306 []]])]],[]⟩ (aEY N)
theorem bIs:FOK (F50 N:CfS R) (aAo T):=uCk (bHQ N) bAI
def aEU (N:Nat)(k0:Option R):Option R:=k0
def F51:CfS R:=u1 (F50 N) 303 ⟨[.p (.ks (ByteArray.mk #[97,100,100])),.p (.fn 307 [])],[]⟩ ⟨[.agg [.p (.ks (ByteArray.mk #[97,100,100])),.p (.ki .i64 2),.p (.kb false),.p (.fn 300 []),.p (.fn 340 [.cp [.fn 307 []]])]],[]⟩ (aEU N)
theorem bH6:FOK (F51 N:CfS R) (aAo T):=uCk (bIs N) bAI
def aER (N:Nat)(k0:Option R):Option R:=k0
def F52:CfS R:=u1 (F51 N) 303 ⟨[.p (.ks (ByteArray.mk #[115,117,98])),.p (.fn 308 [])],[]⟩ ⟨[.agg [.p (.ks (ByteArray.mk #[115,117,98])),.p (.ki .i64 2),.p (.kb false),.p (.fn 300 []),.p (.fn 340 [.cp [.fn 308 []]])]],[]⟩ (aER N)
theorem bIM:FOK (F52 N:CfS R) (aAo T):=uCk (bH6 N) bAI
def aEX (N:Nat)(k0:Option R):Option R:=k0
def F53:CfS R:=u1 (F52 N) 303 ⟨[.p (.ks (ByteArray.mk #[109,117,108])),.p (.fn 309 [])],[]⟩ ⟨[.agg [.p (.ks (ByteArray.mk #[109,117,108])),.p (.ki .i64 2),.p (.kb false),.p (.fn 300 []),.p (.fn 340 [.cp [.fn 309 []]])]],[]⟩ (aEX N)
theorem bHo:FOK (F53 N:CfS R) (aAo T):=uCk (bIM N) bAI
def aEt (N:Nat)(k0:Option R):Option R:=k0
def F54:CfS R:=u1 (F53 N) 310 ⟨[.p (.ks (ByteArray.mk #[101,113])),.p (.fn 311 [])],[]⟩ ⟨[.agg [.p (.ks (ByteArray.mk #[101,113])),.p (.ki .i64 2),.p (.kb false),.p (.fn 341 []),.p (.fn 342 [.cp [.fn 311 []]])]],[]⟩ (aEt N)
theorem bHI:FOK (F54 N:CfS R) (aAo T):=uCk (bHo N) bHW
def aEf (N:Nat)(k0:Option R):Option R:=k0
def F55:CfS R:=u1 (F54 N) 310 ⟨[.p (.ks (ByteArray.mk #[108,116])),.p (.fn 312 [])],[]⟩ ⟨[.agg [.p (.ks (ByteArray.mk #[108,116])),.p (.ki .i64 2),.p (.kb false),.p (.fn 341 []),.p (.fn 342 [.cp [.fn 312 []]])]],[]⟩ (aEf N)
theorem bGJ:FOK (F55 N:CfS R) (aAo T):=uCk (bHI N) bHW
def aD4 (N:Nat)(k0:Option R):Option R:=k0
def F56:CfS R:=u1 (F55 N) 310 ⟨[.p (.ks (ByteArray.mk #[115,108,116])),.p (.fn 313 [])],[]⟩ ⟨[.agg [.p (.ks (ByteArray.mk #[115,108,116])),.p (.ki .i64 2),.p (.kb false),.p (.fn 341 []),.p (.fn 342 [.cp [.fn 313 []]])]],[]⟩ (aD4 N)
theorem bJb:FOK (F56 N:CfS R) (aAo T):=uCk (bGJ N) bHW
def aFg (k0:Option R):Option R:=(aES N (aET N (aEY N (aEU N (aER N (aEX N (aEt N (aEf N (aD4 N k0)))))))))
def P57:AP:=⟨[],[]⟩
def E57 (x:P57.den)(k:KK R):Option R:=aFg N (k [] [.agg zd1] [])
def F57:CfS R:=uC (F56 N) 271 P57 (E57 N)
theorem bA7:FOK (F57 N:CfS R) (aAo T):=uCk (bJb N) bOA
def aEh (N:Nat)(k0:Int->Option R)(k1:Option R):zk5 (zk1 (Option R))
 | 0,_,_,_=>none
 | n+1,b0,b1,b2=>(bif decide (b2<b1)then ((at? b0 b2).bind fun x1=>(bif decide (x1≠0)then (k0 x1)else (aEh N k0 k1 n b0 b1 (w64 (b2+1)))))else k1)
def P58_l0:SP:=⟨[(5,pL [hI]),(6,pI),(7,pI)],[]⟩
def bAE:Nat->P58_l0.den->KS R->Option R:=eS P58_l0 fun k=>aEh N (qS k .ret ⟨[(2,pI)],[]⟩) (qS k (.ex 0) ⟨[],[]⟩)
theorem bH4:LpG T P58_l0 (bAE N (R:=R)) [5,6,7] aWM:=lpk (bA7 N) 26
def bMS:LpS R:=aCc noL 26 (aAx P58_l0 (bAE N N))
def aC8 (a0:List Int)(k0:Int->Option R):Option R:=(aEh N k0 (k0 0) N a0 ((a0.length:Nat):Int) 0)
def F58:CfS R:=u1 (F57 N) 257 ⟨[pL [hI]],[]⟩ ⟨[pI],[]⟩ (aC8 N)
theorem bID:FOK (F58 N:CfS R) (aAo T):=uCk (bA7 N) bL3 (Lp:=(bMS N)) (hl:=(aAi (l:=[(26,[5,6,7],aWM)]) (by kernel_rfl) ⟨(aAf (bH4 N N)),trivial⟩))
def aEl (a0 a1:Int)(k0:Bool->Int->Option R):Option R:=(aC6 N a0 0 (w64 (a1-1)) (fun y1=>(k0 (!y1) a1)))
def F59:CfS R:=u2 (F58 N) 276 ⟨[pI,.ptr 0 0],[(0,.box [pI])]⟩ (aEl N) fun f k=>f (qA k [0] ⟨[pB],[(0,.box [pI])]⟩)
theorem bBt:FOK (F59 N:CfS R) (aAo T):=uCk (bID N) bNx
def aAn (k0:zk1 (Option R))(k1:Int->Option R):zk5 (zk1 (Int->Option R))
 | 0,_,_,_,_=>none
 | n+1,b0,b1,b2,b3=>(bif decide (b2<b1)then ((at? b0 b2).bind fun x1=>(aEl N x1 b3 (fun y2 y3=>(bif y2 then (k0 b2 y3)else (aAn k0 k1 n b0 b1 (w64 (b2+1)) y3)))))else (k1 b3))
def P60_l0:SP:=⟨[(0,pL [hI]),(1,.fn 276 [.ptr 0 0]),(7,pI),(8,pI),(100001,.fn 276 [.ptr 0 0])],[(0,.box [pI])]⟩
def bBr:Nat->P60_l0.den->KS R->Option R:=eS P60_l0 fun k=>aAn N (qS k .ret ⟨[(4,pI),(100001,.fn 276 [.ptr 0 0])],[(0,.box [pI])]⟩) (qS k (.ex 0) ⟨[(100001,.fn 276 [.ptr 0 0])],[(0,.box [pI])]⟩)
theorem bJR:LpG T P60_l0 (bBr N (R:=R)) [0,1,7,8] aJF:=lpk (bBt N) 26
def bOj:LpS R:=aCc noL 26 (aAx P60_l0 (bBr N N))
def aBf (a0:List Int)(a1:Int)(k0:zk1 (Option R)):Option R:=(aAn N k0 (fun z6=>(k0 (-1) z6)) N a0 ((a0.length:Nat):Int) 0 a1)
def F60:CfS R:=u2 (F59 N) 327 ⟨[pL [hI],.fn 276 [.ptr 0 0]],[(0,.box [pI])]⟩ (aBf N) fun f k=>f (qA k [0] ⟨[pI],[(0,.box [pI])]⟩)
theorem bIO:FOK (F60 N:CfS R) (aAo T):=uCk (bBt N) bGy (Lp:=(bOj N)) (hl:=(aAi (l:=[(26,[0,1,7,8],aJF)]) (by kernel_rfl) ⟨(aAf (bJR N N)),trivial⟩))
def aAb (a0:List Int)(a1:Int)(k0:Bool->Int->Option R):Option R:=(aBf N a0 a1 (fun y1 y2=>(k0 (decide (0<=y1)) y2)))
def F61:CfS R:=u2 (F60 N) 275 ⟨[pL [hI],.fn 276 [.ptr 0 0]],[(0,.box [pI])]⟩ (aAb N) fun f k=>f (qA k [0] ⟨[pB],[(0,.box [pI])]⟩)
theorem bK2:FOK (F61 N:CfS R) (aAo T):=uCk (bIO N) bHV
def aHu (a0 a1:Int)(k0:Bool->Option R):Option R:=(bif decide (0<=a1)then (bif decide (a1<0)then none else (aC6 N a0 0 (w64 ((aPi .i64 1 a1)-1)) k0))else (k0 false))
def F62:CfS R:=u1 (F61 N) 262 ⟨[pI,pI],[]⟩ ⟨[pB],[]⟩ (aHu N)
theorem bKD:FOK (F62 N:CfS R) (aAo T):=uCk (bK2 N) bNN
def aGI (N:Nat)(a0:Int)(a1:List Int)(a2:Int)(k0:Bool->Option R):Option R:=((at? a1 0).bind fun x1=>(k0 (decide (x1=a0))))
def F63:CfS R:=u1 (F62 N) 324 ⟨[pI,pL [hI],pI],[]⟩ ⟨[pB],[]⟩ (aGI N)
theorem bKj:FOK (F63 N:CfS R) (aAo T):=uCk (bKD N) bNM
def aF9 (N:Nat)(a0:Int)(a1:List Int)(a2:Int)(k0:Bool->Option R):Option R:=((at? a1 0).bind fun x1=>(k0 (decide (x1<=a0))))
def F64:CfS R:=u1 (F63 N) 321 ⟨[pI,pL [hI],pI],[]⟩ ⟨[pB],[]⟩ (aF9 N)
theorem bKr:FOK (F64 N:CfS R) (aAo T):=uCk (bKj N) bPQ
def aDC (N:Nat)(a0:Int)(a1:List Int)(a2:Int)(k0:Bool->Option R):Option R:=((at? a1 0).bind fun x1=>(k0 (decide ((w64 (a2+a0))<=x1))))
def F65:CfS R:=u1 (F64 N) 319 ⟨[pI,pL [hI],pI],[]⟩ ⟨[pB],[]⟩ (aDC N)
theorem bGQ:FOK (F65 N:CfS R) (aAo T):=uCk (bKr N) bNn
def aDF (N:Nat)(a0:Int)(a1:List Int)(a2:Int)(k0:Bool->Option R):Option R:=((at? a1 0).bind fun x1=>((at? a1 1).bind fun x2=>(k0 (decide ((w64 (x1+x2))=a0)))))
def F66:CfS R:=u1 (F65 N) 317 ⟨[pI,pL [hI],pI],[]⟩ ⟨[pB],[]⟩ (aDF N)
theorem bHC:FOK (F66 N:CfS R) (aAo T):=uCk (bGQ N) bPf
def aDE (N:Nat)(a0:Int)(a1:List Int)(a2:Int)(k0:Bool->Option R):Option R:=((at? a1 0).bind fun x1=>(bif decide (x1=1)then ((at? a1 1).bind fun x2=>(bif decide (x2=a0)then ((at? a1 2).bind fun x3=>(k0 (decide (x3=a0))))else (k0 false)))else (k0 false)))
def F67:CfS R:=u1 (F66 N) 315 ⟨[pI,pL [hI],pI],[]⟩ ⟨[pB],[]⟩ (aDE N)
theorem bHO:FOK (F67 N:CfS R) (aAo T):=uCk (bHC N) bOU
def aF5 (N:Nat)(a0:Int)(a1:List Int)(a2:Int)(k0:Bool->Option R):Option R:=(bif decide (a0=1)then ((at? a1 0).bind fun x1=>((at? a1 1).bind fun x2=>(k0 (decide (x1=x2)))))else (k0 false))
def F68:CfS R:=u1 (F67 N) 341 ⟨[pI,pL [hI],pI],[]⟩ ⟨[pB],[]⟩ (aF5 N)
theorem bIc:FOK (F68 N:CfS R) (aAo T):=uCk (bHO N) bOs
def aHN (N:Nat)(a0 a1:Int)(k0:Bool->Int->Option R):Option R:=(k0 (decide (a0≠a1)) a1)
def F69:CfS R:=u2 (F68 N) 339 ⟨[pI,.ptr 0 0],[(0,.box [pI])]⟩ (aHN N) fun f k=>f (qA k [0] ⟨[pB],[(0,.box [pI])]⟩)
theorem bBf:FOK (F69 N:CfS R) (aAo T):=uCk (bIc N) bN8
def aAD (k0:zk1 (Option R))(k1:Int->Option R):zk5 (zk1 (Int->Option R))
 | 0,_,_,_,_=>none
 | n+1,b0,b1,b2,b3=>(bif decide (b2<b1)then ((at? b0 b2).bind fun x1=>(aHN N x1 b3 (fun y2 y3=>(bif y2 then (k0 b2 y3)else (aAD k0 k1 n b0 b1 (w64 (b2+1)) y3)))))else (k1 b3))
def P70_l0:SP:=⟨[(0,pL [hI]),(1,.fn 339 [.ptr 0 0]),(7,pI),(8,pI),(100001,.fn 339 [.ptr 0 0])],[(0,.box [pI])]⟩
def aZC:Nat->P70_l0.den->KS R->Option R:=eS P70_l0 fun k=>aAD N (qS k .ret ⟨[(4,pI),(100001,.fn 339 [.ptr 0 0])],[(0,.box [pI])]⟩) (qS k (.ex 0) ⟨[(100001,.fn 339 [.ptr 0 0])],[(0,.box [pI])]⟩)
theorem bKK:LpG T P70_l0 (aZC N (R:=R)) [0,1,7,8] aJF:=lpk (bBf N) 26
def bMF:LpS R:=aCc noL 26 (aAx P70_l0 (aZC N N))
def aCh (a0:List Int)(a1:Int)(k0:zk1 (Option R)):Option R:=(aAD N k0 (fun z6=>(k0 (-1) z6)) N a0 ((a0.length:Nat):Int) 0 a1)
def F70:CfS R:=u2 (F69 N) 327 ⟨[pL [hI],.fn 339 [.ptr 0 0]],[(0,.box [pI])]⟩ (aCh N) fun f k=>f (qA k [0] ⟨[pI],[(0,.box [pI])]⟩)
theorem bI7:FOK (F70 N:CfS R) (aAo T):=uCk (bBf N) bGy (Lp:=(bMF N)) (hl:=(aAi (l:=[(26,[0,1,7,8],aJF)]) (by kernel_rfl) ⟨(aAf (bKK N N)),trivial⟩))
def aB0 (a0:List Int)(a1:Int)(k0:Bool->Int->Option R):Option R:=(aCh N a0 a1 (fun y1 y2=>(k0 (decide (0<=y1)) y2)))
def F71:CfS R:=u2 (F70 N) 275 ⟨[pL [hI],.fn 339 [.ptr 0 0]],[(0,.box [pI])]⟩ (aB0 N) fun f k=>f (qA k [0] ⟨[pB],[(0,.box [pI])]⟩)
theorem bJQ:FOK (F71 N:CfS R) (aAo T):=uCk (bI7 N) bHV
def aIh (a0:Int)(a1:List Int)(a2:Int)(k0:Bool->Option R):Option R:=(aB0 N a1 a0 (fun y1 y2=>(k0 (!y1))))
def F72:CfS R:=u1 (F71 N) 300 ⟨[pI,pL [hI],pI],[]⟩ ⟨[pB],[]⟩ (aIh N)
theorem bJ0:FOK (F72 N:CfS R) (aAo T):=uCk (bJQ N) bMz
def aE8 (a0:List Int)(a1 a2:Int)(a3:List Int)(a4:Int)(a5:ByteArray)(a6:Int)(a7:Bool)(a8 a9:Nat)(a10:List S)(k0:Int->Option R):Option R:=(bif decide (a1=0)then (aHu N a4 a2 (fun y1=>(aAy N y1 2 k0)))else (bif decide (a1=1)then (aC6 N a4 0 (w64 (((a0.length:Nat):Int)-1)) (fun y3=>(bif (!y3)then (k0 6)else ((at? a0 a4).bind fun x4=>(aAy N (decide (x4=a2)) 25 k0)))))else (bif decide (a1=14)then (aC6 N a4 0 15 (fun y6=>(aAy N y6 2 k0)))else (bif a7 then (aAy N true 3 k0)else (aAy N (decide (a4=0)) 3 k0)))))
def F73:CfS R:=u1 (F72 N) 277 ⟨[pL [hI],.agg zb8,.agg [pS,pI,pB,.p (.fv []),.p (.fa)]],[]⟩ ⟨[pI],[]⟩ (aE8 N)
theorem bIS:FOK (F73 N:CfS R) (aAo T):=uCk (bJ0 N) bPu
def aF6 (N:Nat)(a0:Int)(a1:List Int)(a2:Int)(k0:Bool->Option R):Option R:=(k0 true)
def F74:CfS R:=u1 (F73 N) 299 ⟨[pI,pL [hI],pI],[]⟩ ⟨[pB],[]⟩ (aF6 N)
theorem aWQ:FOK (F74 N:CfS R) (aAo T):=uCk (bIS N) bMR
def H75:Nat->Option (List Sh):=fun n=>if n=12000 then some [hI]else if n=44000 then some [hI]else if n=66000 then some [hI]else none
def aBp (N:Nat)(k0:zk1 (zk4 (ByteArray->Int->Bool->Nat->Nat->List S->zk3 (zt2->Option R)))):zk5 (zk1 (zt2->zk1 (zk4 (ByteArray->Int->Bool->Nat->Nat->List S->zk3 (Option R)))))
 | 0,_,_,_,_,_,_,_,_,_,_,_,_,_,_,_,_=>none
 | n+1,b0,b1,b2,b3,b4,b5,b6,b7,b8,b9,b10,b11,b12,b13,b14,b15=>(bif decide (b2<b1)then ((at? b0 b2).bind fun x1=>((at? b3 x1).bind fun x2=>(bif aBU (b14.length+1) 8 then (aBp N k0 n b0 b1 (w64 (b2+1)) b3 b4 b5 b6 b7 b8 b9 b10 b11 b12 b13 (b14++[x2.2.1]) b15)else none)))else (k0 b4 b5 b6 b7 b8 b9 b10 b11 b12 b13 b14 b15 b3))
def P75_l0:SP:=⟨[(4,.ptr 0 0),(6,.ptr 1 0),(9,.ptr 2 0),(12,.own 3),(56,pL [hI]),(57,pI),(58,pI),(100002,.ptr 4 0),(100003,.ptr 5 0),(100004,.ptr 0 0)],[(0,.box [pL zs1]),(1,.box zb8),(2,.box [pS,pI,pB,.p (.fv []),.p (.fa)]),(3,.arr [hI]),(4,.box zb0),(5,.box [pL [hI]])]⟩
def aZZ (n:Nat)(x:P75_l0.den)(k:KS R):Option R:=aBp N (fun r0 r1 r2 r3 r4 r5 r6 r7 r8 r9 r10 r11 r12=>k (.ex 0) ⟨[(6,.ptr 0 0),(9,.ptr 1 0),(12,.own 2),(100002,.ptr 3 0),(100003,.ptr 4 0),(100004,.ptr 5 0)],[(0,.box [dI r0,dI r1,dL [hI] r2,dI r3]),(1,.box [dS r4,dI r5,dB r6,.p (.fn r7 []),.p (.fn r8 r9)]),(2,.arr (.t [hI] r10)),(3,.box zd1),(4,.box [dL [hI] r11]),(5,.box [dL zs1 r12])]⟩) n x.1.2.2.2.2.1 x.1.2.2.2.2.2.1 x.1.2.2.2.2.2.2.1 x.2.1.1 x.2.2.1.1 x.2.2.1.2.1 x.2.2.1.2.2.1 x.2.2.1.2.2.2.1 x.2.2.2.1.1 x.2.2.2.1.2.1 x.2.2.2.1.2.2.1 x.2.2.2.1.2.2.2.1.1 x.2.2.2.1.2.2.2.2.1.1 x.2.2.2.1.2.2.2.2.1.2 x.2.2.2.2.1 x.2.2.2.2.2.2.1.1
theorem bJr:LpG T P75_l0 (aZZ N (R:=R)) [4,6,9,12,56,57,58] aVL:=lpk (aWQ N) 7962 (H:=H75)
def bKe:LpS R:=aCc noL 7962 (aAx P75_l0 (aZZ N N))
def aAg (k0:zk9 (zt2->Option R))(b0:Bool)(b1:List Int)(b2:zt2)(b3 b4:Int)(b5:List Int)(b6:Int)(b7:ByteArray)(b8:Int)(b9:Bool)(b10 b11:Nat)(b12:List S):Option R:=(aAy N (decide (((b5.length:Nat):Int)=b8)) 10 (fun y1=>(aAy N (!b0) 9 (fun y2=>(aE8 N b1 b3 b4 b5 b6 b7 b8 b9 b10 b11 b12 (fun y3=>(aC8 N [y1,y2,y3] (fun y4=>(bif decide (y4≠0)then (k0 y4 b1 b2)else (aBp N (fun z5 z6 z7 z8 z9 z10 z11 z12 z13 z14 z15 z16 z17=>(bif decide (z12=299)then (aF6 N z6 z15 z8 (fun y18=>(aAy N y18 25 (fun y19=>(k0 y19 z16 z17)))))else (bif decide (z12=300)then (aIh N z6 z15 z8 (fun y20=>(aAy N y20 25 (fun y21=>(k0 y21 z16 z17)))))else (bif decide (z12=315)then (aDE N z6 z15 z8 (fun y22=>(aAy N y22 25 (fun y23=>(k0 y23 z16 z17)))))else (bif decide (z12=317)then (aDF N z6 z15 z8 (fun y24=>(aAy N y24 25 (fun y25=>(k0 y25 z16 z17)))))else (bif decide (z12=319)then (aDC N z6 z15 z8 (fun y26=>(aAy N y26 25 (fun y27=>(k0 y27 z16 z17)))))else (bif decide (z12=321)then (aF9 N z6 z15 z8 (fun y28=>(aAy N y28 25 (fun y29=>(k0 y29 z16 z17)))))else (bif decide (z12=324)then (aGI N z6 z15 z8 (fun y30=>(aAy N y30 25 (fun y31=>(k0 y31 z16 z17)))))else (bif decide (z12=341)then (aF5 N z6 z15 z8 (fun y32=>(aAy N y32 25 (fun y33=>(k0 y33 z16 z17)))))else none))))))))) N b5 ((b5.length:Nat):Int) 0 b2 b3 b4 b5 b6 b7 b8 b9 b10 b11 b12 [] b1))))))))))
def P75_j0:SP:=⟨[(3,.ptr 0 0),(4,.ptr 1 0),(6,.ptr 2 0),(9,.ptr 3 0),(10,pB),(100002,.ptr 4 0),(100003,.ptr 0 0),(100004,.ptr 1 0)],[(0,.box [pL [hI]]),(1,.box [pL zs1]),(2,.box zb8),(3,.box [pS,pI,pB,.p (.fv []),.p (.fa)]),(4,.box zb0)]⟩
def bBg (n:Nat)(x:P75_j0.den)(k:KS R):Option R:=match n with
 | 0=>none
 | _+1=>aAg N (fun r0 r1 r2=>k .ret ⟨[(7,dI r0),(100002,.ptr 0 0),(100003,.ptr 1 0),(100004,.ptr 2 0)],[(0,.box zd1),(1,.box [dL [hI] r1]),(2,.box [dL zs1 r2])]⟩) x.1.2.2.2.2.1 x.2.1.1 x.2.2.1.1 x.2.2.2.1.1 x.2.2.2.1.2.1 x.2.2.2.1.2.2.1 x.2.2.2.1.2.2.2.1 x.2.2.2.2.1.1 x.2.2.2.2.1.2.1 x.2.2.2.2.1.2.2.1 x.2.2.2.2.1.2.2.2.1.1 x.2.2.2.2.1.2.2.2.2.1.1 x.2.2.2.2.1.2.2.2.2.1.2
theorem bJ4:LpG T P75_j0 (bBg N (R:=R)) [3,4,6,9,10] aVJ:=lpk (aWQ N) 62 (H:=H75) (Lp:=(bKe N)) (hl:=(aAi (l:=[(7962,[4,6,9,12,56,57,58],aVL)]) (by kernel_rfl) ⟨(aAf (bJr N N)),trivial⟩))
def bNu:LpS R:=aCc (bKe N) 62 (aAx P75_j0 (bBg N 1))
def aDZ (a0 a1 a2:Int)(a3:List Int)(a4:Int)(a5:List Int)(a6:zt2)(k0:zk9 (zt2->Option R)):Option R:=(aC6 N a1 0 18 (fun y1=>(aAy N y1 15 (fun y2=>(aFy N a2 (fun y3=>(aAy N y3 2 (fun y4=>(aC8 N [y2,y4] (fun y5=>(bif decide (y5≠0)then (k0 y5 a5 a6)else (bif decide (a1=18)then (aAb N a3 a0 (fun y6 y7=>(aAg N k0 y6 a5 a6 a1 a2 a3 a4 (ByteArray.mk #[115,104,114]) 2 false 324 326 ([]:List S))))else (bif decide (a1=17)then (aAb N a3 a0 (fun y37 y38=>(aAg N k0 y37 a5 a6 a1 a2 a3 a4 (ByteArray.mk #[115,104,108]) 2 false 324 325 ([]:List S))))else (bif decide (a1=16)then (aAb N a3 a0 (fun y42 y43=>(aAg N k0 y42 a5 a6 a1 a2 a3 a4 (ByteArray.mk #[115,101,120,116]) 1 false 321 323 ([]:List S))))else (bif decide (a1=15)then (aAb N a3 a0 (fun y47 y48=>(aAg N k0 y47 a5 a6 a1 a2 a3 a4 (ByteArray.mk #[122,101,120,116]) 1 false 321 322 ([]:List S))))else (bif decide (a1=14)then (aAb N a3 a0 (fun y52 y53=>(aAg N k0 y52 a5 a6 a1 a2 a3 a4 (ByteArray.mk #[115,108,105,99,101]) 1 true 319 320 ([]:List S))))else (bif decide (a1=13)then (aAb N a3 a0 (fun y57 y58=>(aAg N k0 y57 a5 a6 a1 a2 a3 a4 (ByteArray.mk #[106,111,105,110]) 2 false 317 318 ([]:List S))))else (bif decide (a1=12)then (aAb N a3 a0 (fun y62 y63=>(aAg N k0 y62 a5 a6 a1 a2 a3 a4 (ByteArray.mk #[109,117,120]) 3 false 315 316 ([]:List S))))else (bif decide (a1=11)then (aAb N a3 a0 (fun y67 y68=>(aAg N k0 y67 a5 a6 a1 a2 a3 a4 (ByteArray.mk #[115,108,116]) 2 false 341 342 ([.cp [.fn 313 []]]:List S))))else (bif decide (a1=10)then (aAb N a3 a0 (fun y72 y73=>(aAg N k0 y72 a5 a6 a1 a2 a3 a4 (ByteArray.mk #[108,116]) 2 false 341 342 ([.cp [.fn 312 []]]:List S))))else (bif decide (a1=9)then (aAb N a3 a0 (fun y77 y78=>(aAg N k0 y77 a5 a6 a1 a2 a3 a4 (ByteArray.mk #[101,113]) 2 false 341 342 ([.cp [.fn 311 []]]:List S))))else (bif decide (a1=8)then (aAb N a3 a0 (fun y82 y83=>(aAg N k0 y82 a5 a6 a1 a2 a3 a4 (ByteArray.mk #[109,117,108]) 2 false 300 340 ([.cp [.fn 309 []]]:List S))))else (bif decide (a1=7)then (aAb N a3 a0 (fun y87 y88=>(aAg N k0 y87 a5 a6 a1 a2 a3 a4 (ByteArray.mk #[115,117,98]) 2 false 300 340 ([.cp [.fn 308 []]]:List S))))else (bif decide (a1=6)then (aAb N a3 a0 (fun y92 y93=>(aAg N k0 y92 a5 a6 a1 a2 a3 a4 (ByteArray.mk #[97,100,100]) 2 false 300 340 ([.cp [.fn 307 []]]:List S))))else (bif decide (a1=5)then (aAb N a3 a0 (fun y97 y98=>(aAg N k0 y97 a5 a6 a1 a2 a3 a4 (ByteArray.mk #[120,111,114]) 2 false 300 340 ([.cp [.fn 306 []]]:List S))))else (bif decide (a1=4)then (aAb N a3 a0 (fun y102 y103=>(aAg N k0 y102 a5 a6 a1 a2 a3 a4 (ByteArray.mk #[111,114]) 2 false 300 340 ([.cp [.fn 305 []]]:List S))))else (bif decide (a1=3)then (aAb N a3 a0 (fun y107 y108=>(aAg N k0 y107 a5 a6 a1 a2 a3 a4 (ByteArray.mk #[97,110,100]) 2 false 300 340 ([.cp [.fn 304 []]]:List S))))else (bif decide (a1=2)then (aAb N a3 a0 (fun y112 y113=>(aAg N k0 y112 a5 a6 a1 a2 a3 a4 (ByteArray.mk #[110,111,116]) 1 false 300 301 ([]:List S))))else (bif decide (a1=1)then (aAb N a3 a0 (fun y117 y118=>(aAg N k0 y117 a5 a6 a1 a2 a3 a4 (ByteArray.mk #[108,101,97,102]) 0 true 299 298 ([]:List S))))else (bif decide (a1=0)then (aAb N a3 a0 (fun y122 y123=>(aAg N k0 y122 a5 a6 a1 a2 a3 a4 (ByteArray.mk #[99,111,110,115,116]) 0 true 299 298 ([]:List S))))else none))))))))))))))))))))))))))))))
def P75:AP:=⟨[pI,.agg zb8,.ptr 0 0,.ptr 1 0,.ptr 2 0],[(0,.box zb0),(1,.box [pL [hI]]),(2,.box [pL zs1])]⟩
def E75 (x:P75.den)(k:KK R):Option R:=aDZ N x.1.1 x.1.2.1.1 x.1.2.1.2.1 x.1.2.1.2.2.1 x.1.2.1.2.2.2.1 x.2.2.1.1 x.2.2.2.1.1 (fun r0 r1 r2=>k [0,1,2] [dI r0] [(0,.box zd1),(1,.box [dL [hI] r1]),(2,.box [dL zs1 r2])])
def F75:CfS R:=uC (F74 N) 273 P75 (E75 N)
theorem bAG:FOK (F75 N:CfS R) (aAo T):=uCk (aWQ N) bIq (H:=H75) (Lp:=(bNu N)) (hl:=(aAi (l:=[(62,[3,4,6,9,10],aVJ)]) (by kernel_rfl) ⟨(aAf (bJ4 N 1)),trivial⟩))
def aCk (k0:zk1 (List Int->zt2->Option R))(k1:List Int->zt2->Option R):Nat->zt2->zk1 (List Int->zt2->Option R)
 | 0,_,_,_,_,_=>none
 | n+1,b0,b1,b2,b3,b4=>(bif decide (b2<b1)then ((at? b0 b2).bind fun x1=>(aDZ N b2 x1.1 x1.2.1 x1.2.2.1 x1.2.2.2 b3 b4 (fun y2 y3 y4=>(bif decide (y2≠0)then (k0 b2 y2 y3 y4)else (aCk k0 k1 n b0 b1 (w64 (b2+1)) y3 y4)))))else (k1 b3 b4))
def P76_l0:SP:=⟨[(1,.fn 273 [.ptr 0 0,.ptr 1 0,.ptr 2 0]),(9,pL zs1),(10,pI),(11,pI),(100001,.fn 273 [.ptr 0 0,.ptr 1 0,.ptr 2 0])],[(0,.box zb0),(1,.box [pL [hI]]),(2,.box [pL zs1])]⟩
def bAC (n:Nat)(x:P76_l0.den)(k:KS R):Option R:=aCk N (fun r0 r1 r2 r3=>k .ret ⟨[(4,dI r0),(5,dI r1),(100001,.fn 273 [.ptr 0 0,.ptr 1 0,.ptr 2 0])],[(0,.box zd1),(1,.box [dL [hI] r2]),(2,.box [dL zs1 r3])]⟩) (fun r0 r1=>k (.ex 0) ⟨[(100001,.fn 273 [.ptr 0 0,.ptr 1 0,.ptr 2 0])],[(0,.box zd1),(1,.box [dL [hI] r0]),(2,.box [dL zs1 r1])]⟩) n x.1.2.1 x.1.2.2.1 x.1.2.2.2.1 x.2.2.1.1 x.2.2.2.1.1
theorem bGP:LpG T P76_l0 (bAC N (R:=R)) [1,9,10,11] aWg:=lpk (bAG N) 26
def bPw:LpS R:=aCc noL 26 (aAx P76_l0 (bAC N N))
def aG4 (a0:zt2)(a1:List Int)(a2:zt2)(k0:zk1 (List Int->zt2->Option R)):Option R:=(aCk N k0 (fun z9 z10=>(k0 0 0 z9 z10)) N a0 ((a0.length:Nat):Int) 0 a1 a2)
def P76:AP:=⟨[pL zs1,.fn 273 [.ptr 0 0,.ptr 1 0,.ptr 2 0]],[(0,.box zb0),(1,.box [pL [hI]]),(2,.box [pL zs1])]⟩
def E76 (x:P76.den)(k:KK R):Option R:=aG4 N x.1.1 x.2.2.1.1 x.2.2.2.1.1 (fun r0 r1 r2 r3=>k [0,1,2] [dI r0,dI r1] [(0,.box zd1),(1,.box [dL [hI] r2]),(2,.box [dL zs1 r3])])
def F76:CfS R:=uC (F75 N) 272 P76 (E76 N)
theorem bHY:FOK (F76 N:CfS R) (aAo T):=uCk (bAG N) bLQ (Lp:=(bPw N)) (hl:=(aAi (l:=[(26,[1,9,10,11],aWg)]) (by kernel_rfl) ⟨(aAf (bGP N N)),trivial⟩))
def aD8 (a0:List Int)(a1:zt2)(k0:zk1 (Option R)):Option R:=(bif decide (40<((a0.length:Nat):Int))then (k0 0 8)else (aC4 N a0 (fun y1 y2=>(bif decide (y2≠0)then (k0 y1 y2)else (bif decide (400<((a1.length:Nat):Int))then (k0 0 8)else (aFg N (aG4 N a1 a0 a1 (fun y3 y4 y5 y6=>(k0 y3 y4)))))))))
def F77:CfS R:=u1 (F76 N) 226 ⟨[pL [hI],pL zs1],[]⟩ ⟨[pI,pI],[]⟩ (aD8 N)
theorem bJa:FOK (F77 N:CfS R) (aAo T):=uCk (bHY N) bNv
def aEy (a0:ByteArray)(a1:zt7)(a2:zt1)(a3:zt2)(a4:zt0)(a5:zt7)(a6:zt6)(k0:zk1 (zk0 (Option R))):Option R:=(aFI N a0 a1 a2 a3 a4 a5 a6 (fun y1=>(aD8 N y1 a3 (fun y2 y3=>(k0 y2 y3 a0 a1 a2 a3 a4 a5 a6)))))
def F78:CfS R:=u2 (F77 N) 225 ⟨[.ptr 0 0],[(0,.box zb2)]⟩ (aEy N) fun f k=>f (qA k [0] ⟨[pI,pI],[(0,.box zb2)]⟩)
theorem bKI:FOK (F78 N:CfS R) (aAo T):=uCk (bJa N) bMG
def aFc (a0:Int)(k0:Bool->Option R):Option R:=(aAF N a0 1 16 k0)
def F79:CfS R:=u1 (F78 N) 220 ⟨[pI],[]⟩ ⟨[pB],[]⟩ (aFc N)
theorem bKW:FOK (F79 N:CfS R) (aAo T):=uCk (bKI N) bPz
def aF4 (a0 a1:Int)(k0:Bool->Option R):Option R:=(bif decide (0<=a1)then (bif decide (a1<0)then none else (aAF N a0 0 (w64 ((aPi .i64 1 a1)-1)) k0))else (k0 false))
def F80:CfS R:=u1 (F79 N) 203 ⟨[pI,pI],[]⟩ ⟨[pB],[]⟩ (aF4 N)
theorem bIt:FOK (F80 N:CfS R) (aAo T):=uCk (bKW N) bPD
def H81:Nat->Option (List Sh):=fun n=>if n=15000 then some [hI]else none
def aCO (a0:Int)(a1:ByteArray)(a2 a3 a4 a5:Int)(a6:Nat)(a7:zt3)(k0:Int->zk8 (Option R)):Option R:=(aCs N a1 a6 a7 (fun y1 y2 y3=>(aAF N a2 0 1 (fun y4=>(aAj N y4 15 (fun y5=>(aFc N a3 (fun y6=>(aAj N y6 2 (fun y7=>(aAY N [y1,y5,y7] (fun y8=>(bif decide (y8≠0)then (k0 y8 y2 y3)else (aF4 N a4 a3 (fun y9=>(bif y9 then (aAF N a5 0 3 (fun y10=>(aAj N y10 2 (fun y11=>(k0 y11 y2 y3)))))else (aAj N false 2 (fun y12=>(k0 y12 y2 y3)))))))))))))))))))
def F81:CfS R:=u2 (F80 N) 224 ⟨[pI,.agg [pS,pI,pI,pI,pI],.ptr 0 0],[(0,.box [.mp 1]),(1,.mp .s .b)]⟩ (aCO N) fun f k=>f (qA k [0,1] ⟨[pI],[(0,.box [.mp 1]),(1,.mp .s .b)]⟩)
theorem aZf:FOK (F81 N:CfS R) (aAo T):=uCk (bIt N) bOp (H:=H81)
def aAt (k0:zk1 (zk8 (Option R)))(k1:zk8 (Option R)):Nat->zt1->zk1 (zk8 (Option R))
 | 0,_,_,_,_,_=>none
 | n+1,b0,b1,b2,b3,b4=>(bif decide (b2<b1)then ((at? b0 b2).bind fun x1=>(aCO N b2 x1.1 x1.2.1 x1.2.2.1 x1.2.2.2.1 x1.2.2.2.2 b3 b4 (fun y2 y3 y4=>(bif decide (y2≠0)then (k0 b2 y2 y3 y4)else (aAt k0 k1 n b0 b1 (w64 (b2+1)) y3 y4)))))else (k1 b3 b4))
def P82_l0:SP:=⟨[(1,.fn 224 [.ptr 0 0]),(9,pL zs2),(10,pI),(11,pI),(100001,.fn 224 [.ptr 0 0]),(100002,.mp 1)],[(0,.box [.mp 1]),(1,.mp .s .b)]⟩
def bAy:Nat->P82_l0.den->KS R->Option R:=eS P82_l0 fun k=>aAt N (qS k .ret ⟨[(4,pI),(5,pI),(100001,.fn 224 [.ptr 0 0]),(100002,.mp 1)],[(0,.box [.mp 1]),(1,.mp .s .b)]⟩) (qS k (.ex 0) ⟨[(100001,.fn 224 [.ptr 0 0]),(100002,.mp 1)],[(0,.box [.mp 1]),(1,.mp .s .b)]⟩)
theorem bJM:LpG T P82_l0 (bAy N (R:=R)) [1,9,10,11] aTt:=lpk (aZf N) 26
def bOr:LpS R:=aCc noL 26 (aAx P82_l0 (bAy N N))
def aBT (a0:zt1)(a1:Nat)(a2:zt3)(k0:zk1 (zk8 (Option R))):Option R:=(aAt N k0 (fun z9 z10=>(k0 0 0 z9 z10)) N a0 ((a0.length:Nat):Int) 0 a1 a2)
def F82:CfS R:=u2 (F81 N) 223 ⟨[pL zs2,.fn 224 [.ptr 0 0]],[(0,.box [.mp 1]),(1,.mp .s .b)]⟩ (aBT N) fun f k=>f (qA k [0,1] ⟨[pI,pI],[(0,.box [.mp 1]),(1,.mp .s .b)]⟩)
theorem bI3:FOK (F82 N:CfS R) (aAo T):=uCk (aZf N) bLq (Lp:=(bOr N)) (hl:=(aAi (l:=[(26,[1,9,10,11],aTt)]) (by kernel_rfl) ⟨(aAf (bJM N N)),trivial⟩))
def aEE (a0:ByteArray)(a1:zt7)(a2:zt1)(a3:zt2)(a4:zt0)(a5:zt7)(a6:zt6)(a7:Nat)(a8:zt3)(k0:zk1 (zk0 (zk8 (Option R)))):Option R:=(aBT N a2 a7 a8 (fun y1 y2 y3 y4=>(k0 y1 y2 a0 a1 a2 a3 a4 a5 a6 y3 y4)))
def F83:CfS R:=u2 (F82 N) 222 ⟨[.ptr 0 0,.ptr 1 0],[(0,.box zb2),(1,.box [.mp 2]),(2,.mp .s .b)]⟩ (aEE N) fun f k=>f (qA k [0,1,2] ⟨[pI,pI],[(0,.box zb2),(1,.box [.mp 2]),(2,.mp .s .b)]⟩)
theorem bH1:FOK (F83 N:CfS R) (aAo T):=uCk (bI3 N) bO1
def aEK (a0:ByteArray)(a1:zt7)(a2:zt1)(a3:zt2)(a4:zt0)(a5:zt7)(a6:zt6)(k0:zk1 (zk0 (Option R))):Option R:=(aAj N (decide ((w64 (((a1.length:Nat):Int)+((a2.length:Nat):Int)))<=40)) 8 (fun y1=>(k0 0 y1 a0 a1 a2 a3 a4 a5 a6)))
def F84:CfS R:=u2 (F83 N) 221 ⟨[.ptr 0 0],[(0,.box zb2)]⟩ (aEK N) fun f k=>f (qA k [0] ⟨[pI,pI],[(0,.box zb2)]⟩)
theorem bGK:FOK (F84 N:CfS R) (aAo T):=uCk (bH1 N) bL8
def H85:Nat->Option (List Sh):=fun n=>if n=15000 then some [hI]else none
def aDS (a0:Int)(a1:ByteArray)(a2:Int)(a3:Nat)(a4:zt3)(a5:Nat)(a6:zt3)(k0:Int->zk8 (zk8 (Option R))):Option R:=(aCs N a1 a3 a4 (fun y1 y2 y3=>(aCs N a1 a5 a6 (fun y4 y5 y6=>(aFc N a2 (fun y7=>(aAj N y7 2 (fun y8=>(aAY N [y1,y4,y8] (fun y9=>(k0 y9 y2 y3 y5 y6)))))))))))
def F85:CfS R:=u2 (F84 N) 218 ⟨[pI,.agg [pS,pI],.ptr 0 0,.ptr 2 0],[(0,.box [.mp 1]),(1,.mp .s .b),(2,.box [.mp 3]),(3,.mp .s .b)]⟩ (aDS N) fun f k=>f (qA k [0,2,1,3] ⟨[pI],[(0,.box [.mp 1]),(1,.mp .s .b),(2,.box [.mp 3]),(3,.mp .s .b)]⟩)
theorem bAr:FOK (F85 N:CfS R) (aAo T):=uCk (bGK N) bQd (H:=H85)
def aAB (k0:zk1 (zk8 (zk8 (Option R))))(k1:zk8 (zk8 (Option R))):Nat->zt7->zk1 (zk8 (zk8 (Option R)))
 | 0,_,_,_,_,_,_,_=>none
 | n+1,b0,b1,b2,b3,b4,b5,b6=>(bif decide (b2<b1)then ((at? b0 b2).bind fun x1=>(aDS N b2 x1.1 x1.2 b3 b4 b5 b6 (fun y2 y3 y4 y5 y6=>(bif decide (y2≠0)then (k0 b2 y2 y3 y4 y5 y6)else (aAB k0 k1 n b0 b1 (w64 (b2+1)) y3 y4 y5 y6)))))else (k1 b3 b4 b5 b6))
def P86_l0:SP:=⟨[(1,.fn 218 [.ptr 0 0,.ptr 2 0]),(9,pL [.s,hI]),(10,pI),(11,pI),(100001,.fn 218 [.ptr 0 0,.ptr 2 0]),(100002,.mp 1),(100003,.mp 3)],[(0,.box [.mp 1]),(1,.mp .s .b),(2,.box [.mp 3]),(3,.mp .s .b)]⟩
def bAO:Nat->P86_l0.den->KS R->Option R:=eS P86_l0 fun k=>aAB N (qS k .ret ⟨[(4,pI),(5,pI),(100001,.fn 218 [.ptr 0 0,.ptr 2 0]),(100002,.mp 1),(100003,.mp 3)],[(0,.box [.mp 1]),(1,.mp .s .b),(2,.box [.mp 3]),(3,.mp .s .b)]⟩) (qS k (.ex 0) ⟨[(100001,.fn 218 [.ptr 0 0,.ptr 2 0]),(100002,.mp 1),(100003,.mp 3)],[(0,.box [.mp 1]),(1,.mp .s .b),(2,.box [.mp 3]),(3,.mp .s .b)]⟩)
theorem bIr:LpG T P86_l0 (bAO N (R:=R)) [1,9,10,11] aV0:=lpk (bAr N) 26
def bN9:LpS R:=aCc noL 26 (aAx P86_l0 (bAO N N))
def aCe (a0:zt7)(a1:Nat)(a2:zt3)(a3:Nat)(a4:zt3)(k0:zk1 (zk8 (zk8 (Option R)))):Option R:=(aAB N k0 (fun z13 z14 z15 z16=>(k0 0 0 z13 z14 z15 z16)) N a0 ((a0.length:Nat):Int) 0 a1 a2 a3 a4)
def F86:CfS R:=u2 (F85 N) 217 ⟨[pL [.s,hI],.fn 218 [.ptr 0 0,.ptr 2 0]],[(0,.box [.mp 1]),(1,.mp .s .b),(2,.box [.mp 3]),(3,.mp .s .b)]⟩ (aCe N) fun f k=>f (qA k [0,2,1,3] ⟨[pI,pI],[(0,.box [.mp 1]),(1,.mp .s .b),(2,.box [.mp 3]),(3,.mp .s .b)]⟩)
theorem bJ6:FOK (F86 N:CfS R) (aAo T):=uCk (bAr N) bLU (Lp:=(bN9 N)) (hl:=(aAi (l:=[(26,[1,9,10,11],aV0)]) (by kernel_rfl) ⟨(aAf (bIr N N)),trivial⟩))
def aEH (a0:ByteArray)(a1:zt7)(a2:zt1)(a3:zt2)(a4:zt0)(a5:zt7)(a6:zt6)(a7:Nat)(a8:zt3)(a9:Nat)(a10:zt3)(k0:zk1 (zk0 (zk8 (zk8 (Option R))))):Option R:=(aCe N a1 a7 a8 a9 a10 (fun y1 y2 y3 y4 y5 y6=>(k0 y1 y2 a0 a1 a2 a3 a4 a5 a6 y3 y4 y5 y6)))
def F87:CfS R:=u2 (F86 N) 216 ⟨[.ptr 0 0,.ptr 1 0,.ptr 3 0],[(0,.box zb2),(1,.box [.mp 2]),(2,.mp .s .b),(3,.box [.mp 4]),(4,.mp .s .b)]⟩ (aEH N) fun f k=>f (qA k [0,1,3,2,4] ⟨[pI,pI],[(0,.box zb2),(1,.box [.mp 2]),(2,.mp .s .b),(3,.box [.mp 4]),(4,.mp .s .b)]⟩)
theorem bJT:FOK (F87 N:CfS R) (aAo T):=uCk (bJ6 N) bPo
def H88:Nat->Option (List Sh):=fun n=>if n=12000 then some [hI]else none
def aEv (a0:ByteArray)(a1:zt7)(a2:zt1)(a3:zt2)(a4:zt0)(a5:zt7)(a6:zt6)(k0:zk1 (zk0 (Option R))):Option R:=(aFt N a0 (fun y1=>(aAj N y1 4 (fun y2=>(aAj N (decide (((a1.length:Nat):Int)<=12)) 8 (fun y3=>(aAY N [y2,y3] (fun y4=>(k0 0 y4 a0 a1 a2 a3 a4 a5 a6)))))))))
def F88:CfS R:=u2 (F87 N) 214 ⟨[.ptr 0 0],[(0,.box zb2)]⟩ (aEv N) fun f k=>f (qA k [0] ⟨[pI,pI],[(0,.box zb2)]⟩)
theorem aZ6:FOK (F88 N:CfS R) (aAo T):=uCk (bJT N) bPc (H:=H88)
def H89:Nat->Option (List Sh):=fun n=>if n=4000 then some [.s,.b]else if n=7000 then some [.s,.b]else if n=8000 then some [.s,.b]else if n=9000 then some [.s,.b]else none
def aAa (k0:zk1 (Option R))(k1:Option R):Nat->Int->zk0 (zk8 (zk8 (zk8 (zk8 (Option R)))))
 | 0,_,_,_,_,_,_,_,_,_,_,_,_,_,_,_,_=>none
 | n+1,b0,b1,b2,b3,b4,b5,b6,b7,b8,b9,b10,b11,b12,b13,b14,b15=>(bif decide (b0<11)then (bif decide (b0=10)then (aEj N b1 b2 b3 b4 b5 b6 b7 (fun y1 y2 y3 y4 y5 y6 y7 y8 y9=>(bif decide (y2≠0)then (k0 y1 y2)else (aAa k0 k1 n (w64 (b0+1)) y3 y4 y5 y6 y7 y8 y9 b8 b9 b10 b11 b12 b13 b14 b15))))else (bif decide (b0=9)then (aEm N b1 b2 b3 b4 b5 b6 b7 (fun y10 y11 y12 y13 y14 y15 y16 y17 y18=>(bif decide (y11≠0)then (k0 y10 y11)else (aAa k0 k1 n (w64 (b0+1)) y12 y13 y14 y15 y16 y17 y18 b8 b9 b10 b11 b12 b13 b14 b15))))else (bif decide (b0=8)then (aEF N b1 b2 b3 b4 b5 b6 b7 b14 b15 (fun y19 y20 y21 y22 y23 y24 y25 y26 y27 y28 y29=>(bif decide (y20≠0)then (k0 y19 y20)else (aAa k0 k1 n (w64 (b0+1)) y21 y22 y23 y24 y25 y26 y27 b8 b9 b10 b11 b12 b13 y28 y29))))else (bif decide (b0=7)then (aEC N b1 b2 b3 b4 b5 b6 b7 (fun y30 y31 y32 y33 y34 y35 y36 y37 y38=>(bif decide (y31≠0)then (k0 y30 y31)else (aAa k0 k1 n (w64 (b0+1)) y32 y33 y34 y35 y36 y37 y38 b8 b9 b10 b11 b12 b13 b14 b15))))else (bif decide (b0=6)then (aED N b1 b2 b3 b4 b5 b6 b7 b12 b13 (fun y39 y40 y41 y42 y43 y44 y45 y46 y47 y48 y49=>(bif decide (y40≠0)then (k0 y39 y40)else (aAa k0 k1 n (w64 (b0+1)) y41 y42 y43 y44 y45 y46 y47 b8 b9 b10 b11 y48 y49 b14 b15))))else (bif decide (b0=5)then (aEx N b1 b2 b3 b4 b5 b6 b7 (fun y50 y51 y52 y53 y54 y55 y56 y57 y58=>(bif decide (y51≠0)then (k0 y50 y51)else (aAa k0 k1 n (w64 (b0+1)) y52 y53 y54 y55 y56 y57 y58 b8 b9 b10 b11 b12 b13 b14 b15))))else (bif decide (b0=4)then (aEy N b1 b2 b3 b4 b5 b6 b7 (fun y59 y60 y61 y62 y63 y64 y65 y66 y67=>(bif decide (y60≠0)then (k0 y59 y60)else (aAa k0 k1 n (w64 (b0+1)) y61 y62 y63 y64 y65 y66 y67 b8 b9 b10 b11 b12 b13 b14 b15))))else (bif decide (b0=3)then (aEE N b1 b2 b3 b4 b5 b6 b7 b8 b9 (fun y68 y69 y70 y71 y72 y73 y74 y75 y76 y77 y78=>(bif decide (y69≠0)then (k0 y68 y69)else (aAa k0 k1 n (w64 (b0+1)) y70 y71 y72 y73 y74 y75 y76 y77 y78 b10 b11 b12 b13 b14 b15))))else (bif decide (b0=2)then (aEK N b1 b2 b3 b4 b5 b6 b7 (fun y79 y80 y81 y82 y83 y84 y85 y86 y87=>(bif decide (y80≠0)then (k0 y79 y80)else (aAa k0 k1 n (w64 (b0+1)) y81 y82 y83 y84 y85 y86 y87 b8 b9 b10 b11 b12 b13 b14 b15))))else (bif decide (b0=1)then (aEH N b1 b2 b3 b4 b5 b6 b7 b8 b9 b10 b11 (fun y88 y89 y90 y91 y92 y93 y94 y95 y96 y97 y98 y99 y100=>(bif decide (y89≠0)then (k0 y88 y89)else (aAa k0 k1 n (w64 (b0+1)) y90 y91 y92 y93 y94 y95 y96 y97 y98 y99 y100 b12 b13 b14 b15))))else (bif decide (b0=0)then (aEv N b1 b2 b3 b4 b5 b6 b7 (fun y101 y102 y103 y104 y105 y106 y107 y108 y109=>(bif decide (y102≠0)then (k0 y101 y102)else (aAa k0 k1 n (w64 (b0+1)) y103 y104 y105 y106 y107 y108 y109 b8 b9 b10 b11 b12 b13 b14 b15))))else none)))))))))))else k1)
def P89_l0:SP:=⟨[(29,.agg [.fn 214 [.ptr 0 0],.fn 216 [.ptr 0 0,.ptr 1 0,.ptr 3 0],.fn 221 [.ptr 0 0],.fn 222 [.ptr 0 0,.ptr 1 0],.fn 225 [.ptr 0 0],.fn 227 [.ptr 0 0],.fn 228 [.ptr 0 0,.ptr 5 0],.fn 235 [.ptr 0 0],.fn 236 [.ptr 0 0,.ptr 7 0],.fn 240 [.ptr 0 0],.fn 241 [.ptr 0 0]]),(30,pI)],[(0,.box zb2),(1,.box [.mp 2]),(2,.mp .s .b),(3,.box [.mp 4]),(4,.mp .s .b),(5,.box [.mp 6]),(6,.mp .s .b),(7,.box [.mp 8]),(8,.mp .s .b)]⟩
def aZN:Nat->P89_l0.den->KS R->Option R:=eS P89_l0 fun k=>aAa N (qS k .ret ⟨[(2,pI),(3,pI)],[]⟩) (qS k (.ex 0) ⟨[],[]⟩)
theorem bG3:LpG T P89_l0 (aZN N (R:=R)) [29,30] aR8:=lpk (aZ6 N) 250 (H:=H89)
def bOO:LpS R:=aCc noL 250 (aAx P89_l0 (aZN N N))
def aDr (a0:ByteArray)(a1:zt7)(a2:zt1)(a3:zt2)(a4:zt0)(a5:zt7)(a6:zt6)(k0:zk1 (Option R)):Option R:=(aAa N k0 (k0 0 0) N 0 a0 a1 a2 a3 a4 a5 a6 0 [] 0 [] 0 [] 0 [])
def F89:CfS R:=u1 (F88 N) 162 ⟨[.agg zb2],[]⟩ ⟨[pI,pI],[]⟩ (aDr N)
theorem bH0:FOK (F89 N:CfS R) (aAo T):=uCk (aZ6 N) bLf (H:=H89) (Lp:=(bOO N)) (hl:=(aAi (l:=[(250,[29,30],aR8)]) (by kernel_rfl) ⟨(aAf (bG3 N N)),trivial⟩))
def aA8 (N:Nat)(a0:Bool)(a1:Int)(k0:Int->Option R):Option R:=(bif a0 then (k0 0)else (k0 a1))
def F90:CfS R:=u1 (F89 N) 141 ⟨[pB,pI],[]⟩ ⟨[pI],[]⟩ (aA8 N)
theorem bIw:FOK (F90 N:CfS R) (aAo T):=uCk (bH0 N) bMT
def aCY (N:Nat)(a0:Int)(a1:ByteArray)(a2:zt7)(a3:zt1)(a4:zt2)(a5:zt0)(a6:zt7)(a7:zt6)(a8:List Int)(k0:Int->zk0 (List Int->Option R)):Option R:=((at? a3 a0).bind fun x1=>(k0 x1.2.2.2.2 a1 a2 a3 a4 a5 a6 a7 a8))
def F91:CfS R:=u2 (F90 N) 166 ⟨[.ptr 0 0,pI],[(0,.box [pS,pL [.s,hI],pL zs2,pL zs1,pL zs0,pL [.s,hI],pL zs3,.own 1]),(1,.arr [hI])]⟩ (aCY N) fun f k=>f (qA k [0] ⟨[pI],[(0,.box [pS,pL [.s,hI],pL zs2,pL zs1,pL zs0,pL [.s,hI],pL zs3,.own 1]),(1,.arr [hI])]⟩)
theorem bGO:FOK (F91 N:CfS R) (aAo T):=uCk (bIw N) bLB
def aFl (a0 a1 a2:Int)(a3:ByteArray)(a4:zt7)(a5:zt1)(a6:zt2)(a7:zt0)(a8:zt7)(a9:zt6)(a10:List Int)(a11:ByteArray)(a12:Int)(a13:zt8)(k0:Bool->zk0 (List Int->zk6 (Option R))):Option R:=(aCY N a0 a3 a4 a5 a6 a7 a8 a9 a10 (fun y1 y2 y3 y4 y5 y6 y7 y8 y9=>((at? a13 0).bind fun x10=>(aCY N x10.1 y2 y3 y4 y5 y6 y7 y8 y9 (fun y11 y12 y13 y14 y15 y16 y17 y18 y19=>(k0 (decide (y1≠y11)) y12 y13 y14 y15 y16 y17 y18 y19 a11 a12 a13))))))
def F92:CfS R:=u2 (F91 N) 165 ⟨[.agg [pI,pI,pI],.ptr 0 0,.ptr 3 0],[(0,.box [.ptr 1 0]),(1,.box zb6),(2,.arr [hI]),(3,.box [pS,pI,pL zs5])]⟩ (aFl N) fun f k=>f (qA k [0,3,1] ⟨[pB],[(0,.box [.ptr 1 0]),(1,.box zb6),(2,.arr [hI]),(3,.box [pS,pI,pL zs5])]⟩)
theorem aZV:FOK (F92 N:CfS R) (aAo T):=uCk (bGO N) bN0
def aAk (k0:Int->zk0 (List Int->zk6 (Option R)))(k1:zk0 (List Int->zk6 (Option R))):Nat->zt8->zk1 (zk0 (List Int->zk6 (Option R)))
 | 0,_,_,_,_,_,_,_,_,_,_,_,_,_,_=>none
 | n+1,b0,b1,b2,b3,b4,b5,b6,b7,b8,b9,b10,b11,b12,b13=>(bif decide (b2<b1)then ((at? b0 b2).bind fun x1=>(aFl N x1.1 x1.2.1 x1.2.2 b3 b4 b5 b6 b7 b8 b9 b10 b11 b12 b13 (fun y2 y3 y4 y5 y6 y7 y8 y9 y10 y11 y12 y13=>(bif y2 then (k0 b2 y3 y4 y5 y6 y7 y8 y9 y10 y11 y12 y13)else (aAk k0 k1 n b0 b1 (w64 (b2+1)) y3 y4 y5 y6 y7 y8 y9 y10 y11 y12 y13)))))else (k1 b3 b4 b5 b6 b7 b8 b9 b10 b11 b12 b13))
def P93_l0:SP:=⟨[(0,pL zs5),(1,.fn 165 [.ptr 0 0,.ptr 3 0]),(7,pI),(8,pI),(100001,.fn 165 [.ptr 0 0,.ptr 3 0]),(100002,.ptr 1 0)],[(0,.box [.ptr 1 0]),(1,.box zb6),(2,.arr [hI]),(3,.box [pS,pI,pL zs5])]⟩
def aZg:Nat->P93_l0.den->KS R->Option R:=eS P93_l0 fun k=>aAk N (qS k .ret ⟨[(4,pI),(100001,.fn 165 [.ptr 0 0,.ptr 3 0]),(100002,.ptr 1 0)],[(0,.box [.ptr 1 0]),(1,.box zb6),(2,.arr [hI]),(3,.box [pS,pI,pL zs5])]⟩) (qS k (.ex 0) ⟨[(100001,.fn 165 [.ptr 0 0,.ptr 3 0]),(100002,.ptr 1 0)],[(0,.box [.ptr 1 0]),(1,.box zb6),(2,.arr [hI]),(3,.box [pS,pI,pL zs5])]⟩)
theorem bGV:LpG T P93_l0 (aZg N (R:=R)) [0,1,7,8] aWI:=lpk (aZV N) 26
def bOd:LpS R:=aCc noL 26 (aAx P93_l0 (aZg N N))
def aBn (a0:zt8)(a1:ByteArray)(a2:zt7)(a3:zt1)(a4:zt2)(a5:zt0)(a6:zt7)(a7:zt6)(a8:List Int)(a9:ByteArray)(a10:Int)(a11:zt8)(k0:Int->zk0 (List Int->zk6 (Option R))):Option R:=(aAk N k0 (fun z26 z27 z28 z29 z30 z31 z32 z33 z34 z35 z36=>(k0 (-1) z26 z27 z28 z29 z30 z31 z32 z33 z34 z35 z36)) N a0 ((a0.length:Nat):Int) 0 a1 a2 a3 a4 a5 a6 a7 a8 a9 a10 a11)
def F93:CfS R:=u2 (F92 N) 245 ⟨[pL zs5,.fn 165 [.ptr 0 0,.ptr 3 0]],[(0,.box [.ptr 1 0]),(1,.box zb6),(2,.arr [hI]),(3,.box [pS,pI,pL zs5])]⟩ (aBn N) fun f k=>f (qA k [0,3,1] ⟨[pI],[(0,.box [.ptr 1 0]),(1,.box zb6),(2,.arr [hI]),(3,.box [pS,pI,pL zs5])]⟩)
theorem bGS:FOK (F93 N:CfS R) (aAo T):=uCk (aZV N) bLF (Lp:=(bOd N)) (hl:=(aAi (l:=[(26,[0,1,7,8],aWI)]) (by kernel_rfl) ⟨(aAf (bGV N N)),trivial⟩))
def aAO (a0:zt8)(a1:ByteArray)(a2:zt7)(a3:zt1)(a4:zt2)(a5:zt0)(a6:zt7)(a7:zt6)(a8:List Int)(a9:ByteArray)(a10:Int)(a11:zt8)(k0:Bool->zk0 (List Int->zk6 (Option R))):Option R:=(aBn N a0 a1 a2 a3 a4 a5 a6 a7 a8 a9 a10 a11 (fun y1 y2 y3 y4 y5 y6 y7 y8 y9 y10 y11 y12=>(k0 (decide (0<=y1)) y2 y3 y4 y5 y6 y7 y8 y9 y10 y11 y12)))
def F94:CfS R:=u2 (F93 N) 167 ⟨[pL zs5,.fn 165 [.ptr 0 0,.ptr 3 0]],[(0,.box [.ptr 1 0]),(1,.box zb6),(2,.arr [hI]),(3,.box [pS,pI,pL zs5])]⟩ (aAO N) fun f k=>f (qA k [0,3,1] ⟨[pB],[(0,.box [.ptr 1 0]),(1,.box zb6),(2,.arr [hI]),(3,.box [pS,pI,pL zs5])]⟩)
theorem bJz:FOK (F94 N:CfS R) (aAo T):=uCk (bGS N) bMo
def aFe (a0:Int)(a1:ByteArray)(a2:Int)(a3:zt8)(a4:ByteArray)(a5:zt7)(a6:zt1)(a7:zt2)(a8:zt0)(a9:zt7)(a10:zt6)(a11:List Int)(k0:Int->zk0 (List Int->Option R)):Option R:=(aAO N a3 a4 a5 a6 a7 a8 a9 a10 a11 a1 a2 a3 (fun y1 y2 y3 y4 y5 y6 y7 y8 y9 y10 y11 y12=>(aA8 N (!y1) 30 (fun y13=>(k0 y13 y2 y3 y4 y5 y6 y7 y8 y9)))))
def F95:CfS R:=u2 (F94 N) 164 ⟨[pI,.agg [pS,pI,pL zs5],.ptr 0 0],[(0,.box [.ptr 1 0]),(1,.box zb6),(2,.arr [hI])]⟩ (aFe N) fun f k=>f (qA k [0,1] ⟨[pI],[(0,.box [.ptr 1 0]),(1,.box zb6),(2,.arr [hI])]⟩)
theorem bBh:FOK (F95 N:CfS R) (aAo T):=uCk (bJz N) bM8
def aA2 (k0:Int->zk0 (List Int->Option R))(k1:zk0 (List Int->Option R)):Nat->zt0->zk1 (zk0 (List Int->Option R))
 | 0,_,_,_,_,_,_,_,_,_,_,_=>none
 | n+1,b0,b1,b2,b3,b4,b5,b6,b7,b8,b9,b10=>(bif decide (b2<b1)then ((at? b0 b2).bind fun x1=>(aFe N b2 x1.1 x1.2.1 x1.2.2 b3 b4 b5 b6 b7 b8 b9 b10 (fun y2 y3 y4 y5 y6 y7 y8 y9 y10=>(bif decide (y2≠0)then (k0 y2 y3 y4 y5 y6 y7 y8 y9 y10)else (aA2 k0 k1 n b0 b1 (w64 (b2+1)) y3 y4 y5 y6 y7 y8 y9 y10)))))else (k1 b3 b4 b5 b6 b7 b8 b9 b10))
def P96_l0:SP:=⟨[(1,.fn 164 [.ptr 0 0]),(8,pL zs0),(9,pI),(10,pI),(100001,.fn 164 [.ptr 0 0]),(100002,.ptr 1 0)],[(0,.box [.ptr 1 0]),(1,.box zb6),(2,.arr [hI])]⟩
def aZ3:Nat->P96_l0.den->KS R->Option R:=eS P96_l0 fun k=>aA2 N (qS k .ret ⟨[(4,pI),(100001,.fn 164 [.ptr 0 0]),(100002,.ptr 1 0)],[(0,.box [.ptr 1 0]),(1,.box zb6),(2,.arr [hI])]⟩) (qS k (.ex 0) ⟨[(100001,.fn 164 [.ptr 0 0]),(100002,.ptr 1 0)],[(0,.box [.ptr 1 0]),(1,.box zb6),(2,.arr [hI])]⟩)
theorem bG9:LpG T P96_l0 (aZ3 N (R:=R)) [1,8,9,10] aXr:=lpk (bBh N) 26
def bMQ:LpS R:=aCc noL 26 (aAx P96_l0 (aZ3 N N))
def aCv (a0:zt0)(a1:ByteArray)(a2:zt7)(a3:zt1)(a4:zt2)(a5:zt0)(a6:zt7)(a7:zt6)(a8:List Int)(k0:Int->zk0 (List Int->Option R)):Option R:=(aA2 N k0 (fun z20 z21 z22 z23 z24 z25 z26 z27=>(k0 0 z20 z21 z22 z23 z24 z25 z26 z27)) N a0 ((a0.length:Nat):Int) 0 a1 a2 a3 a4 a5 a6 a7 a8)
def F96:CfS R:=u2 (F95 N) 163 ⟨[pL zs0,.fn 164 [.ptr 0 0]],[(0,.box [.ptr 1 0]),(1,.box zb6),(2,.arr [hI])]⟩ (aCv N) fun f k=>f (qA k [0,1] ⟨[pI],[(0,.box [.ptr 1 0]),(1,.box zb6),(2,.arr [hI])]⟩)
theorem aV1:FOK (F96 N:CfS R) (aAo T):=uCk (bBh N) bLk (Lp:=(bMQ N)) (hl:=(aAi (l:=[(26,[1,8,9,10],aXr)]) (by kernel_rfl) ⟨(aAf (bG9 N N)),trivial⟩))
def H97:Nat->Option (List Sh):=fun n=>if n=37000 then some [hI]else if n=60000 then some [hI]else none
def aCV (N:Nat)(k0:zk0 (zk0 (List Int->Option R))):Nat->zt7->zk1 (zk0 (zk0 (List Int->Option R)))
 | 0,_,_,_,_,_,_,_,_,_,_,_,_,_,_,_,_,_,_=>none
 | n+1,b0,b1,b2,b3,b4,b5,b6,b7,b8,b9,b10,b11,b12,b13,b14,b15,b16,b17=>(bif decide (b2<b1)then ((at? b0 b2).bind fun x1=>(bif aBU (b17.length+1) 8 then (aCV N k0 n b0 b1 (w64 (b2+1)) b3 b4 b5 b6 b7 b8 b9 b10 b11 b12 b13 b14 b15 b16 (b17++[x1.2]))else none))else (k0 b3 b4 b5 b6 b7 b8 b9 b10 b11 b12 b13 b14 b15 b16 b17))
def P97_l0:SP:=⟨[(1,.ptr 0 0),(6,.ptr 1 0),(24,pL [.s,hI]),(25,pI),(26,pI)],[(0,.box zb2),(1,.box [.ptr 2 0]),(2,.box bLn),(3,.arr [hI])]⟩
def aZQ:Nat->P97_l0.den->KS R->Option R:=eS P97_l0 fun k=>aCV N (qS k (.ex 0) ⟨[(1,.ptr 0 0),(6,.ptr 1 0)],[(0,.box zb2),(1,.box [.ptr 2 0]),(2,.box bLn),(3,.arr [hI])]⟩)
theorem bKJ:LpG T P97_l0 (aZQ N (R:=R)) [1,6,24,25,26] aWk:=lpk (aV1 N) 122 (H:=H97)
def bJi:LpS R:=aCc noL 122 (aAx P97_l0 (aZQ N N))
def aCW (N:Nat)(k0:zk0 (zk0 (List Int->Option R))):Nat->zt1->zk1 (zk0 (zk0 (List Int->Option R)))
 | 0,_,_,_,_,_,_,_,_,_,_,_,_,_,_,_,_,_,_=>none
 | n+1,b0,b1,b2,b3,b4,b5,b6,b7,b8,b9,b10,b11,b12,b13,b14,b15,b16,b17=>(bif decide (b2<b1)then ((at? b0 b2).bind fun x1=>(bif aBU (b17.length+1) 8 then (aCW N k0 n b0 b1 (w64 (b2+1)) b3 b4 b5 b6 b7 b8 b9 b10 b11 b12 b13 b14 b15 b16 (b17++[x1.2.2.1]))else none))else (k0 b3 b4 b5 b6 b7 b8 b9 b10 b11 b12 b13 b14 b15 b16 b17))
def P97_l1:SP:=⟨[(1,.ptr 0 0),(6,.ptr 1 0),(43,pL zs2),(44,pI),(45,pI)],[(0,.box zb2),(1,.box [.ptr 2 0]),(2,.box bLn),(3,.arr [hI])]⟩
def bA5:Nat->P97_l1.den->KS R->Option R:=eS P97_l1 fun k=>aCW N (qS k (.ex 2) ⟨[(1,.ptr 0 0),(6,.ptr 1 0)],[(0,.box zb2),(1,.box [.ptr 2 0]),(2,.box bLn),(3,.arr [hI])]⟩)
theorem bJx:LpG T P97_l1 (bA5 N (R:=R)) [1,6,43,44,45] aVt:=lpk (aV1 N) 250 (H:=H97) (Lp:=(bJi N))
def bMO:LpS R:=aCc (bJi N) 250 (aAx P97_l1 (bA5 N N))
def aDo (a0:ByteArray)(a1:zt7)(a2:zt1)(a3:zt2)(a4:zt0)(a5:zt7)(a6:zt6)(k0:Int->Option R)(k1:zk0 (zk4 (Option R))):Option R:=(aDr N a0 a1 a2 a3 a4 a5 a6 (fun y1 y2=>(bif decide (y2≠0)then (k0 y2)else (aCV N (fun z3 z4 z5 z6 z7 z8 z9 z10 z11 z12 z13 z14 z15 z16 z17=>(aCW N (fun z18 z19 z20 z21 z22 z23 z24 z25 z26 z27 z28 z29 z30 z31 z32=>(aCv N z22 z25 z26 z27 z28 z29 z30 z31 z32 (fun y33 y34 y35 y36 y37 y38 y39 y40 y41=>(k1 y34 y35 y36 y37 y38 y39 y40 y41 y33)))) N z5 ((z5.length:Nat):Int) 0 z3 z4 z5 z6 z7 z8 z9 z10 z11 z12 z13 z14 z15 z16 z17)) N a1 ((a1.length:Nat):Int) 0 a0 a1 a2 a3 a4 a5 a6 a0 a1 a2 a3 a4 a5 a6 []))))
def F97:CfS R:=u2 (F96 N) 113 ⟨[.agg zb2],[]⟩ (aDo N) fun f k=>f (qA k [] ⟨[.p (.nl 0),pI],[]⟩) (qA k [] ⟨[.p (.cp [.s .s,.s (.sl [.s,hI]),.s (.sl [.s,hI,hI,hI,hI]),.s (.sl [hI,hI,.sl [hI],hI]),.s (.sl [.s,hI,.sl [hI,hI,hI]]),.s (.sl [.s,hI]),.s (.sl [hI,.sl [hI]]),.s (.sl [hI])]),pI],[]⟩)
theorem bHZ:FOK (F97 N:CfS R) (aAo T):=uCk (aV1 N) bHl (H:=H97) (Lp:=(bMO N)) (hl:=(aAi (l:=[(122,[1,6,24,25,26],aWk),(250,[1,6,43,44,45],aVt)]) (by kernel_rfl) ⟨(aDL (by decide) (aAf (bKJ N N))),(aAf (bJx N N)),trivial⟩))
def aAQ (N:Nat)(a0:ByteArray)(a1:zt7)(a2:zt1)(a3:zt2)(a4:zt0)(a5:zt7)(a6:zt6)(a7:List Int)(a8:Int)(k0:Int->Option R):Option R:=((at? a2 a8).bind fun x1=>(k0 x1.2.2.2.2))
def F98:CfS R:=u1 (F97 N) 166 ⟨[.p (.cp [.s .s,.s (.sl [.s,hI]),.s (.sl [.s,hI,hI,hI,hI]),.s (.sl [hI,hI,.sl [hI],hI]),.s (.sl [.s,hI,.sl [hI,hI,hI]]),.s (.sl [.s,hI]),.s (.sl [hI,.sl [hI]]),.s (.sl [hI])]),pI],[]⟩ ⟨[pI],[]⟩ (aAQ N)
theorem bIk:FOK (F98 N:CfS R) (aAo T):=uCk (bHZ N) bLB
def aDk (a0:ByteArray)(a1:zt7)(a2:zt1)(a3:zt2)(a4:zt0)(a5:zt7)(a6:zt6)(a7:List Int)(a8:ByteArray)(a9:Int)(a10:zt8)(k0:Int->Option R):Option R:=(bif decide (((a10.length:Nat):Int)=0)then (k0 (-1))else ((at? a10 0).bind fun x1=>(aAQ N a0 a1 a2 a3 a4 a5 a6 a7 x1.1 k0)))
def F99:CfS R:=u1 (F98 N) 114 ⟨[.p (.cp [.s .s,.s (.sl [.s,hI]),.s (.sl [.s,hI,hI,hI,hI]),.s (.sl [hI,hI,.sl [hI],hI]),.s (.sl [.s,hI,.sl [hI,hI,hI]]),.s (.sl [.s,hI]),.s (.sl [hI,.sl [hI]]),.s (.sl [hI])]),.agg [pS,pI,pL zs5]],[]⟩ ⟨[pI],[]⟩ (aDk N)
theorem aZq:FOK (F99 N:CfS R) (aAo T):=uCk (bIk N) bOW
def bR6:Nat->List SP:=fun p=>if p=117 then [⟨[(2,.own 0),(3,pI)],[(0,.arr [hI])]⟩]else []
def bRF:Nat->Option (List Sh):=fun n=>if n=30000 then some [hI]else none
def aCy (k0:List Int->Option R):Nat->zk0 (List Int->zt0->zk1 (List Int->Option R))
 | 0,_,_,_,_,_,_,_,_,_,_,_,_=>none
 | n+1,b0,b1,b2,b3,b4,b5,b6,b7,b8,b9,b10,b11=>(bif decide (b10<b9)then ((at? b8 b10).bind fun x1=>(aDk N b0 b1 b2 b3 b4 b5 b6 b7 x1.1 x1.2.1 x1.2.2 (fun y2=>(bif aBU (b11.length+1) 8 then (aCy k0 n b0 b1 b2 b3 b4 b5 b6 b7 b8 b9 (w64 (b10+1)) (b11++[y2]))else none))))else (k0 b11))
def P100_l0:SP:=⟨[(4,.p (.cp [.s .s,.s (.sl [.s,hI]),.s (.sl [.s,hI,hI,hI,hI]),.s (.sl [hI,hI,.sl [hI],hI]),.s (.sl [.s,hI,.sl [hI,hI,hI]]),.s (.sl [.s,hI]),.s (.sl [hI,.sl [hI]]),.s (.sl [hI])])),(6,.own 0),(18,pL zs0),(19,pI),(20,pI)],[(0,.arr [hI])]⟩
def aXh:Nat->P100_l0.den->KS R->Option R:=eS P100_l0 fun k=>aCy N (qS k (.ex 0) ⟨[(6,.own 0)],[(0,.arr [hI])]⟩)
theorem bEI:LpG T P100_l0 (aXh N (R:=R)) [4,6,18,19,20] bBm:=lpk (aZq N) 250 (H:=bRF) (X:=bR6)
def bJ8:LpS R:=aCc noL 250 (aAx P100_l0 (aXh N N))
def aDm (a0:ByteArray)(a1:zt7)(a2:zt1)(a3:zt2)(a4:zt0)(a5:zt7)(a6:zt6)(k0:zk4 (Option R)):Option R:=(aDo N a0 a1 a2 a3 a4 a5 a6 (fun y1=>(bif decide (y1≠0)then (k0 [] y1)else none)) (fun y2 y3 y4 y5 y6 y7 y8 y9 y10=>(bif decide (y10≠0)then (k0 [] y10)else (aCy N (fun z11=>(k0 z11 0)) N y2 y3 y4 y5 y6 y7 y8 y9 a4 ((a4.length:Nat):Int) 0 []))))
def bSf:CfS R:=u1 (F99 N) 38 ⟨[.agg zb2],[]⟩ ⟨[pL [hI],pI],[]⟩ (aDm N)
theorem bB1:FOK (bSf N:CfS R) (aAo T):=uCk (aZq N) c38 (H:=bRF) (Lp:=(bJ8 N)) (X:=bR6) (hl:=(aAi (l:=[(250,[4,6,18,19,20],bBm)]) (by kernel_rfl) ⟨(aAf (bEI N N)),trivial⟩))
def bTO:Nat->Option (List Sh):=fun n=>if n=68000 then some [hI,hI,hI]else none
def aG9 (N:Nat):Option R:=none
def bS7:CfS R:=u2 (bSf N) 136 ⟨[.p (.nl 0)],[]⟩ (aG9 N) fun f k=>f
theorem aPA:FOK (bS7 N:CfS R) (aAo T):=uCk (bB1 N) bKt (H:=bTO) (hl:=(aAi (l:=[(58,[0,3,15,16],aPq)]) (by kernel_rfl) ⟨(fun _ _ _ h=>by cases h),trivial⟩))
def bOc:Nat->Option (List Sh):=fun n=>if n=37000 then some [hI,hI]else none
def aDy (N:Nat)(k0:Int->zt0->zk1 (zk1 ((List (Int×Int))->Option R))):Nat->zk1 (zt0->zk1 (zt8->zk1 (zk1 ((List (Int×Int))->Option R))))
 | 0,_,_,_,_,_,_,_,_,_,_,_=>none
 | n+1,b0,b1,b2,b3,b4,b5,b6,b7,b8,b9,b10=>(bif decide (b7<b6)then ((at? b5 b7).bind fun x1=>(bif decide (x1.1=b0)then (bif aBU (b10.length+1) 16 then (aDy N k0 n b0 b1 b2 b3 b4 b5 b6 (w64 (b7+1)) b8 b9 (b10++[(b1,b7)]))else none)else (aDy N k0 n b0 b1 b2 b3 b4 b5 b6 (w64 (b7+1)) b8 b9 b10)))else (k0 b0 b2 b3 b4 b8 b9 b10))
def P102_l1:SP:=⟨[(1,pI),(4,.ptr 0 0),(6,.own 1),(7,pI),(15,pL zs0),(16,pI),(17,pI),(23,pL zs5),(24,pI),(25,pI)],[(0,.box [pI,pI]),(1,.arr [hI,hI])]⟩
def aVH:Nat->P102_l1.den->KS R->Option R:=eS P102_l1 fun k=>aDy N (qS k (.ex 2) ⟨[(1,pI),(4,.ptr 0 0),(6,.own 1),(15,pL zs0),(16,pI),(17,pI)],[(0,.box [pI,pI]),(1,.arr [hI,hI])]⟩)
theorem bEj:LpG T P102_l1 (aVH N (R:=R)) [1,4,6,7,15,16,17,23,24,25] aU3:=lpk (aPA N) 14950 (H:=bOc)
def bAW:LpS R:=aCc noL 14950 (aAx P102_l1 (aVH N N))
def aEG (k0:zk1 ((List (Int×Int))->Option R)):Nat->Int->zt0->zk1 (zk1 ((List (Int×Int))->Option R))
 | 0,_,_,_,_,_,_,_=>none
 | n+1,b0,b1,b2,b3,b4,b5,b6=>(bif decide (b3<b2)then ((at? b1 b3).bind fun x1=>(aDy N (fun z2 z3 z4 z5 z6 z7 z8=>(aEG k0 n z2 z3 z4 (w64 (z5+1)) z6 z7 z8)) N b0 b3 b1 b2 b3 x1.2.2 ((x1.2.2.length:Nat):Int) 0 b4 b5 b6))else (k0 b4 b5 b6))
def P102_l0:SP:=⟨[(1,pI),(4,.ptr 0 0),(6,.own 1),(15,pL zs0),(16,pI),(17,pI)],[(0,.box [pI,pI]),(1,.arr [hI,hI])]⟩
def aUL:Nat->P102_l0.den->KS R->Option R:=eS P102_l0 fun k=>aEG N (qS k (.ex 0) ⟨[(4,.ptr 0 0),(6,.own 1)],[(0,.box [pI,pI]),(1,.arr [hI,hI])]⟩)
theorem bDJ:LpG T P102_l0 (aUL N (R:=R)) [1,4,6,15,16,17] aTB:=lpk (aPA N) 58 (H:=bOc) (Lp:=(bAW N)) (hl:=(aAi (l:=[(14950,[1,4,6,7,15,16,17,23,24,25],aU3)]) (by kernel_rfl) ⟨(aAf (bEj N N)),trivial⟩))
def bK0:LpS R:=aCc (bAW N) 58 (aAx P102_l0 (aUL N N))
def aHi (a0:ByteArray)(a1:zt7)(a2:zt1)(a3:zt2)(a4:zt0)(a5:zt7)(a6:zt6)(a7:List Int)(a8:Int)(k0:zk1 (Bool->Option R)):Option R:=(aEG N (fun z9 z10 z11=>(bif decide (((z11.length:Nat):Int)≠1)then (k0 0 0 false)else (bif inR 0 z11.length then ((z11[0]?).bind fun x12=>(k0 x12.1 x12.2 true))else none))) N a8 a4 ((a4.length:Nat):Int) 0 0 0 [])
def bQM:CfS R:=u1 (bS7 N) 249 ⟨[.p (.cp [.s .s,.s (.sl [.s,hI]),.s (.sl [.s,hI,hI,hI,hI]),.s (.sl [hI,hI,.sl [hI],hI]),.s (.sl [.s,hI,.sl [hI,hI,hI]]),.s (.sl [.s,hI]),.s (.sl [hI,.sl [hI]]),.s (.sl [hI])]),pI],[]⟩ ⟨[.agg [pI,pI],pB],[]⟩ (aHi N)
theorem bBz:FOK (bQM N:CfS R) (aAo T):=uCk (aPA N) bIv (H:=bOc) (Lp:=(bK0 N)) (hl:=(aAi (l:=[(58,[1,4,6,15,16,17],aTB)]) (by kernel_rfl) ⟨(aAf (bDJ N N)),trivial⟩))
def aDX (N:Nat)(a0:Int)(a1:ByteArray)(a2:zt7)(a3:zt1)(a4:zt2)(a5:zt0)(a6:zt7)(a7:zt6)(a8:List Int)(k0:Bool->zk0 (List Int->Option R)):Option R:=((at? a4 a0).bind fun x1=>(bif decide (x1.1=0)then ((at? a4 a0).bind fun x2=>(k0 (decide (x2.2.2.2=1)) a1 a2 a3 a4 a5 a6 a7 a8))else (k0 false a1 a2 a3 a4 a5 a6 a7 a8)))
def bRh:CfS R:=u2 (bQM N) 280 ⟨[pI,.ptr 0 0],[(0,.box zb3)]⟩ (aDX N) fun f k=>f (qA k [0] ⟨[pB],[(0,.box zb3)]⟩)
theorem bE9:FOK (bRh N:CfS R) (aAo T):=uCk (bBz N) bMj
def aGt (a0:ByteArray)(a1:zt7)(a2:zt1)(a3:zt2)(a4:zt0)(a5:zt7)(a6:zt6)(a7:List Int)(a8 a9:Int)(k0:Bool->Option R):Option R:=((at? a4 a8).bind fun x1=>(aDX N x1.2.1 a0 a1 a2 a3 a4 a5 a6 a7 (fun y2 y3 y4 y5 y6 y7 y8 y9 y10=>(bif y2 then ((at? x1.2.2 a9).bind fun x11=>(aDX N x11.2.1 y3 y4 y5 y6 y7 y8 y9 y10 (fun y12 y13 y14 y15 y16 y17 y18 y19 y20=>(k0 y12))))else (k0 false)))))
def bSv:CfS R:=u1 (bRh N) 250 ⟨[.p (.cp [.s .s,.s (.sl [.s,hI]),.s (.sl [.s,hI,hI,hI,hI]),.s (.sl [hI,hI,.sl [hI],hI]),.s (.sl [.s,hI,.sl [hI,hI,hI]]),.s (.sl [.s,hI]),.s (.sl [hI,.sl [hI]]),.s (.sl [hI])]),.agg [pI,pI]],[]⟩ ⟨[pB],[]⟩ (aGt N)
theorem bBX:FOK (bSv N:CfS R) (aAo T):=uCk (bE9 N) bOx
def aGD (N:Nat)(a0:ByteArray)(a1:zt7)(a2:zt1)(a3:zt2)(a4:zt0)(a5:zt7)(a6:zt6)(a7:List Int)(a8 a9:Int)(k0:Int->Bool->Option R):Option R:=((at? a4 a8).bind fun x1=>((at? x1.2.2 a9).bind fun x2=>((at? a3 x2.2.2).bind fun x3=>(bif decide (x3.1=1)then (k0 (w64 (x3.2.2.2-((a1.length:Nat):Int))) (decide (((a1.length:Nat):Int)<=x3.2.2.2)))else (k0 (w64 (x3.2.2.2-((a1.length:Nat):Int))) false)))))
def bQv:CfS R:=u1 (bSv N) 251 ⟨[.p (.cp [.s .s,.s (.sl [.s,hI]),.s (.sl [.s,hI,hI,hI,hI]),.s (.sl [hI,hI,.sl [hI],hI]),.s (.sl [.s,hI,.sl [hI,hI,hI]]),.s (.sl [.s,hI]),.s (.sl [hI,.sl [hI]]),.s (.sl [hI])]),.agg [pI,pI]],[]⟩ ⟨[pI,pB],[]⟩ (aGD N)
theorem bCu:FOK (bQv N:CfS R) (aAo T):=uCk (bBX N) bNG
def aFu (a0:ByteArray)(a1:zt7)(a2:zt1)(a3:zt2)(a4:zt0)(a5:zt7)(a6:zt6)(a7:List Int)(a8:Int)(k0:zk1 (Int->Bool->Option R)):Option R:=((at? a2 a8).bind fun x1=>(bif decide (x1.2.1≠0)then (k0 0 0 0 false)else (aHi N a0 a1 a2 a3 a4 a5 a6 a7 a8 (fun y2 y3 y4=>(bif (!y4)then (k0 0 y2 y3 false)else (aGt N a0 a1 a2 a3 a4 a5 a6 a7 y2 y3 (fun y5=>(bif (!y5)then (k0 0 y2 y3 false)else (aGD N a0 a1 a2 a3 a4 a5 a6 a7 y2 y3 (fun y6 y7=>(k0 y6 y2 y3 y7)))))))))))
def bRr:CfS R:=u1 (bQv N) 184 ⟨[.p (.cp [.s .s,.s (.sl [.s,hI]),.s (.sl [.s,hI,hI,hI,hI]),.s (.sl [hI,hI,.sl [hI],hI]),.s (.sl [.s,hI,.sl [hI,hI,hI]]),.s (.sl [.s,hI]),.s (.sl [hI,.sl [hI]]),.s (.sl [hI])]),pI],[]⟩ ⟨[pI,.agg [pI,pI],pB],[]⟩ (aFu N)
theorem aU8:FOK (bRr N:CfS R) (aAo T):=uCk (bCu N) bMD
def bQy:Nat->Option (List Sh):=fun n=>if n=6000 then some [hI,hI]else if n=27000 then some [hI,hI]else none
def aDK (N:Nat)(k0:(List (Int×Int))->Option R):Nat->zt8->zk1 ((List (Int×Int))->Option R)
 | 0,_,_,_,_=>none
 | n+1,b0,b1,b2,b3=>(bif decide (b2<b1)then ((at? b0 b2).bind fun x1=>(bif aBU (b3.length+2) 16 then (aDK N k0 n b0 b1 (w64 (b2+1)) (b3++[(x1.2.1,(-1)),(x1.2.2,b2)]))else none))else (k0 b3))
def P107_l0:SP:=⟨[(3,.own 0),(11,pL zs5),(12,pI),(13,pI)],[(0,.arr [hI,hI])]⟩
def aSh:Nat->P107_l0.den->KS R->Option R:=eS P107_l0 fun k=>aDK N (qS k (.ex 0) ⟨[(3,.own 0)],[(0,.arr [hI,hI])]⟩)
theorem bCQ:LpG T P107_l0 (aSh N (R:=R)) [3,11,12,13] aVx:=lpk (aU8 N) 58 (H:=bQy)
def bHe:LpS R:=aCc noL 58 (aAx P107_l0 (aSh N N))
def aGn (a0:ByteArray)(a1:Int)(a2:zt8)(k0:(List (Int×Int))->Option R):Option R:=(aDK N k0 N a2 ((a2.length:Nat):Int) 0 [(a1,(-1))])
def bRs:CfS R:=u1 (bRr N) 188 ⟨[.agg [pS,pI,pL zs5]],[]⟩ ⟨[pL [hI,hI]],[]⟩ (aGn N)
theorem bCd:FOK (bRs N:CfS R) (aAo T):=uCk (aU8 N) bLw (H:=bQy) (Lp:=(bHe N)) (hl:=(aAi (l:=[(58,[3,11,12,13],aVx)]) (by kernel_rfl) ⟨(aAf (bCQ N N)),trivial⟩))
def aFS (a0:Int)(a1:zt2)(k0:Bool->zt2->Option R):Option R:=(aC6 N a0 0 (w64 (((a1.length:Nat):Int)-1)) (fun y1=>(k0 (!y1) a1)))
def bQQ:CfS R:=u2 (bRs N) 333 ⟨[pI,.ptr 0 0],[(0,.box [pL zs1])]⟩ (aFS N) fun f k=>f (qA k [0] ⟨[pB],[(0,.box [pL zs1])]⟩)
theorem aSb:FOK (bQQ N:CfS R) (aAo T):=uCk (bCd N) bOz
def aAv (k0:Int->zt2->Option R)(k1:zt2->Option R):zk5 (zk1 (zt2->Option R))
 | 0,_,_,_,_=>none
 | n+1,b0,b1,b2,b3=>(bif decide (b2<b1)then ((at? b0 b2).bind fun x1=>(aFS N x1 b3 (fun y2 y3=>(bif y2 then (k0 b2 y3)else (aAv k0 k1 n b0 b1 (w64 (b2+1)) y3)))))else (k1 b3))
def P109_l0:SP:=⟨[(0,pL [hI]),(1,.fn 333 [.ptr 0 0]),(7,pI),(8,pI),(100001,.fn 333 [.ptr 0 0])],[(0,.box [pL zs1])]⟩
def aXs:Nat->P109_l0.den->KS R->Option R:=eS P109_l0 fun k=>aAv N (qS k .ret ⟨[(4,pI),(100001,.fn 333 [.ptr 0 0])],[(0,.box [pL zs1])]⟩) (qS k (.ex 0) ⟨[(100001,.fn 333 [.ptr 0 0])],[(0,.box [pL zs1])]⟩)
theorem bDK:LpG T P109_l0 (aXs N (R:=R)) [0,1,7,8] aJF:=lpk (aSb N) 26
def bIZ:LpS R:=aCc noL 26 (aAx P109_l0 (aXs N N))
def aBV (a0:List Int)(a1:zt2)(k0:Int->zt2->Option R):Option R:=(aAv N k0 (fun z6=>(k0 (-1) z6)) N a0 ((a0.length:Nat):Int) 0 a1)
def bQk:CfS R:=u2 (bQQ N) 327 ⟨[pL [hI],.fn 333 [.ptr 0 0]],[(0,.box [pL zs1])]⟩ (aBV N) fun f k=>f (qA k [0] ⟨[pI],[(0,.box [pL zs1])]⟩)
theorem bDh:FOK (bQk N:CfS R) (aAo T):=uCk (aSb N) bGy (Lp:=(bIZ N)) (hl:=(aAi (l:=[(26,[0,1,7,8],aJF)]) (by kernel_rfl) ⟨(aAf (bDK N N)),trivial⟩))
def aBu (a0:List Int)(a1:zt2)(k0:Bool->zt2->Option R):Option R:=(aBV N a0 a1 (fun y1 y2=>(k0 (decide (0<=y1)) y2)))
def bQ1:CfS R:=u2 (bQk N) 275 ⟨[pL [hI],.fn 333 [.ptr 0 0]],[(0,.box [pL zs1])]⟩ (aBu N) fun f k=>f (qA k [0] ⟨[pB],[(0,.box [pL zs1])]⟩)
theorem bDu:FOK (bQ1 N:CfS R) (aAo T):=uCk (bDh N) bHV
def aGa (a0:List Int)(a1:zt2)(k0:Int->Option R):Option R:=(aD8 N a0 a1 (fun y1 y2=>(k0 y2)))
def bSS:CfS R:=u1 (bQ1 N) 258 ⟨[pL [hI],pL zs1],[]⟩ ⟨[pI],[]⟩ (aGa N)
theorem bDT:FOK (bSS N:CfS R) (aAo T):=uCk (bDu N) bN2
def bWx:Nat->Option (List Sh):=fun n=>if n=13000 then some [hI]else none
def aHl (a0:List Int)(a1:zt2)(a2:List Int)(k0:Int->Option R):Option R:=(aBu N a2 a1 (fun y1 y2=>(aGa N a0 y2 (fun y3=>(aAy N (!y1) 6 (fun y4=>(aC8 N [y3,y4] k0)))))))
def bTq:CfS R:=u1 (bSS N) 291 ⟨[pL [hI],pL zs1,pL [hI]],[]⟩ ⟨[pI],[]⟩ (aHl N)
theorem aUN:FOK (bTq N:CfS R) (aAo T):=uCk (bDT N) bOQ (H:=bWx)
def bR8:Nat->Option (List Sh):=fun n=>if n=29000 then some [hI]else none
def aBl (N:Nat)(k0:List Int->Option R):Nat->zt2->zk1 (List Int->List Bool->Option R)
 | 0,_,_,_,_,_=>none
 | n+1,b0,b1,b2,b3,b4=>(bif decide (b2<b1)then ((at? b0 b2).bind fun x1=>(bif inR b2 b4.length then ((b4[b2.toNat]?).bind fun x2=>(bif x2 then (bif decide (x1.1=1)then (bif aBU (b3.length+1) 8 then (aBl N k0 n b0 b1 (w64 (b2+1)) (b3++[x1.2.2.2]) b4)else none)else (aBl N k0 n b0 b1 (w64 (b2+1)) b3 b4))else (aBl N k0 n b0 b1 (w64 (b2+1)) b3 b4)))else none))else (k0 b3))
def P113_l0:SP:=⟨[(5,.own 0),(6,.own 1),(12,pL zs1),(13,pI),(14,pI)],[(0,.arr [hI]),(1,.arr [.b])]⟩
def aVD:Nat->P113_l0.den->KS R->Option R:=eS P113_l0 fun k=>aBl N (qS k (.ex 0) ⟨[(5,.own 0)],[(0,.arr [hI])]⟩)
theorem bE0:LpG T P113_l0 (aVD N (R:=R)) [5,6,12,13,14] aTb:=lpk (aUN N) 122 (H:=bR8)
def bHU:LpS R:=aCc noL 122 (aAx P113_l0 (aVD N N))
def aDN (a0:zt2)(a1:List Int)(k0:List Int->Option R):Option R:=(bif aOe (aEr a0) a1 then (aBl N (fun z3=>(bif decide (z3.length<4611686018427387904)then (bif decide ((aNV z3).length<4611686018427387904)then (k0 (aLR (aNV z3)))else none)else none)) N a0 ((a0.length:Nat):Int) 0 [] (aOd (aEr a0) a1))else none)
def bQH:CfS R:=u1 (bTq N) 292 ⟨[pL zs1,pL [hI]],[]⟩ ⟨[pL [hI]],[]⟩ (aDN N)
theorem bCH:FOK (bQH N:CfS R) (aAo T):=uCk (aUN N) bLG (H:=bR8) (Lp:=(bHU N)) (hl:=(aAi (l:=[(122,[5,6,12,13,14],aTb)]) (by kernel_rfl) ⟨(aAf (bE0 N N)),trivial⟩))
def aF7 (a0:List Int)(a1:zt2)(a2:List Int)(k0:zk4 (Option R)):Option R:=(aHl N a0 a1 a2 (fun y1=>(bif decide (y1≠0)then (k0 [] y1)else (aDN N a1 a2 (fun y2=>(k0 y2 0))))))
def bR0:CfS R:=u1 (bQH N) 254 ⟨[pL [hI],pL zs1,pL [hI]],[]⟩ ⟨[pL [hI],pI],[]⟩ (aF7 N)
theorem aWT:FOK (bR0 N:CfS R) (aAo T):=uCk (bCH N) bME (rp:=[⟨[pL [hI],pI],[]⟩])
def bRv:Nat->Option (List Sh):=fun n=>if n=43000 then some [hI]else none
def aBo (N:Nat)(k0:List Int->Option R):Nat->zk0 (zk3 (zk1 (List Int->Option R)))
 | 0,_,_,_,_,_,_,_,_,_,_,_,_=>none
 | n+1,b0,b1,b2,b3,b4,b5,b6,b7,b8,b9,b10,b11=>(bif decide (b10<b9)then ((at? b8 b10).bind fun x1=>(bif decide (((b1.length:Nat):Int)<=x1)then (bif aBU (b11.length+1) 8 then (aBo N k0 n b0 b1 b2 b3 b4 b5 b6 b7 b8 b9 (w64 (b10+1)) (b11++[(w64 (x1-((b1.length:Nat):Int)))]))else none)else (aBo N k0 n b0 b1 b2 b3 b4 b5 b6 b7 b8 b9 (w64 (b10+1)) b11)))else (k0 b11))
def P115_l0:SP:=⟨[(0,.p (.cp [.s .s,.s (.sl [.s,hI]),.s (.sl [.s,hI,hI,hI,hI]),.s (.sl [hI,hI,.sl [hI],hI]),.s (.sl [.s,hI,.sl [hI,hI,hI]]),.s (.sl [.s,hI]),.s (.sl [hI,.sl [hI]]),.s (.sl [hI])])),(7,.own 0),(24,pL [hI]),(25,pI),(26,pI)],[(0,.arr [hI])]⟩
def aTV:Nat->P115_l0.den->KS R->Option R:=eS P115_l0 fun k=>aBo N (qS k (.ex 0) ⟨[(7,.own 0)],[(0,.arr [hI])]⟩)
theorem bEt:LpG T P115_l0 (aTV N (R:=R)) [0,7,24,25,26] aWN:=lpk (aWT N) 122 (H:=bRv)
def bH2:LpS R:=aCc noL 122 (aAx P115_l0 (aTV N N))
def aDc (a0:ByteArray)(a1:zt7)(a2:zt1)(a3:zt2)(a4:zt0)(a5:zt7)(a6:zt6)(a7 a8:List Int)(k0:List Int->Option R):Option R:=(aF7 N a7 a3 a8 (fun y1 y2=>(aBo N k0 N a0 a1 a2 a3 a4 a5 a6 a7 y1 ((y1.length:Nat):Int) 0 [])))
def bRQ:CfS R:=u1 (bR0 N) 189 ⟨[.p (.cp [.s .s,.s (.sl [.s,hI]),.s (.sl [.s,hI,hI,hI,hI]),.s (.sl [hI,hI,.sl [hI],hI]),.s (.sl [.s,hI,.sl [hI,hI,hI]]),.s (.sl [.s,hI]),.s (.sl [hI,.sl [hI]]),.s (.sl [hI])]),pL [hI]],[]⟩ ⟨[pL [hI]],[]⟩ (aDc N)
theorem aPV:FOK (bRQ N:CfS R) (aAo T):=uCk (aWT N) bLX (H:=bRv) (Lp:=(bH2 N)) (hl:=(aAi (l:=[(122,[0,7,24,25,26],aWN)]) (by kernel_rfl) ⟨(aAf (bEt N N)),trivial⟩))
def bM1:Nat->Option (List Sh):=fun n=>if n=36000 then some [hI]else none
def aDf (k0:Bool->Option R)(k1:zk0 (zk4 (zt0->zk1 (zk1 (Option R))))):Nat->zk0 (List Int->zk1 (zt0->zk1 ((List (Int×Int))->zk1 (zk1 (Option R)))))
 | 0,_,_,_,_,_,_,_,_,_,_,_,_,_,_,_,_,_,_=>none
 | n+1,b0,b1,b2,b3,b4,b5,b6,b7,b8,b9,b10,b11,b12,b13,b14,b15,b16,b17=>(bif decide (b15<b14)then ((at? b13 b15).bind fun x1=>(bif (true != (decide (b9=b16)&&(decide (x1.2=b17)&&true)))then (aDc N b0 b1 b2 b3 b4 b5 b6 b7 [x1.1] (fun y2=>(aB7 N y2 b8 (fun y3=>(bif y3 then (k0 false)else (aDf k0 k1 n b0 b1 b2 b3 b4 b5 b6 b7 b8 b9 b10 b11 b12 b13 b14 (w64 (b15+1)) b16 b17))))))else (aDf k0 k1 n b0 b1 b2 b3 b4 b5 b6 b7 b8 b9 b10 b11 b12 b13 b14 (w64 (b15+1)) b16 b17)))else (k1 b0 b1 b2 b3 b4 b5 b6 b7 b8 b10 b11 b12 b16 b17))
def P116_l1:SP:=⟨[(0,.p (.cp [.s .s,.s (.sl [.s,hI]),.s (.sl [.s,hI,hI,hI,hI]),.s (.sl [hI,hI,.sl [hI],hI]),.s (.sl [.s,hI,.sl [hI,hI,hI]]),.s (.sl [.s,hI]),.s (.sl [hI,.sl [hI]]),.s (.sl [hI])])),(1,pI),(5,.ptr 0 0),(7,pI),(15,pL zs0),(16,pI),(17,pI),(23,pL [hI,hI]),(24,pI),(25,pI)],[(0,.box [pI,pI])]⟩
def aSN:Nat->P116_l1.den->KS R->Option R:=eS P116_l1 fun k=>aDf N (qS k .ret ⟨[(6,pB)],[]⟩) (qS k (.ex 2) ⟨[(0,.p (.cp [.s .s,.s (.sl [.s,hI]),.s (.sl [.s,hI,hI,hI,hI]),.s (.sl [hI,hI,.sl [hI],hI]),.s (.sl [.s,hI,.sl [hI,hI,hI]]),.s (.sl [.s,hI]),.s (.sl [hI,.sl [hI]]),.s (.sl [hI])])),(1,pI),(5,.ptr 0 0),(15,pL zs0),(16,pI),(17,pI)],[(0,.box [pI,pI])]⟩)
theorem bF1:LpG T P116_l1 (aSN N (R:=R)) [0,1,5,7,15,16,17,23,24,25] aTj:=lpk (aPV N) 6758 (H:=bM1)
def bAm:LpS R:=aCc noL 6758 (aAx P116_l1 (aSN N N))
def aEk (k0:Bool->Option R)(k1:Option R):Nat->zk0 (zk4 (zt0->zk1 (zk1 (Option R))))
 | 0,_,_,_,_,_,_,_,_,_,_,_,_,_,_=>none
 | n+1,b0,b1,b2,b3,b4,b5,b6,b7,b8,b9,b10,b11,b12,b13=>(bif decide (b11<b10)then ((at? b9 b11).bind fun x1=>(aGn N x1.1 x1.2.1 x1.2.2 (fun y2=>(aDf N k0 (fun z5 z6 z7 z8 z9 z10 z11 z12 z13 z14 z15 z16 z17 z18=>(aEk k0 k1 n z5 z6 z7 z8 z9 z10 z11 z12 z13 z14 z15 (w64 (z16+1)) z17 z18)) N b0 b1 b2 b3 b4 b5 b6 b7 b8 b11 b9 b10 b11 y2 ((y2.length:Nat):Int) 0 b12 b13))))else k1)
def P116_l0:SP:=⟨[(0,.p (.cp [.s .s,.s (.sl [.s,hI]),.s (.sl [.s,hI,hI,hI,hI]),.s (.sl [hI,hI,.sl [hI],hI]),.s (.sl [.s,hI,.sl [hI,hI,hI]]),.s (.sl [.s,hI]),.s (.sl [hI,.sl [hI]]),.s (.sl [hI])])),(1,pI),(5,.ptr 0 0),(15,pL zs0),(16,pI),(17,pI)],[(0,.box [pI,pI])]⟩
def aWd:Nat->P116_l0.den->KS R->Option R:=eS P116_l0 fun k=>aEk N (qS k .ret ⟨[(6,pB)],[]⟩) (qS k (.ex 0) ⟨[],[]⟩)
theorem bBA:LpG T P116_l0 (aWd N (R:=R)) [0,1,5,15,16,17] aVS:=lpk (aPV N) 26 (H:=bM1) (Lp:=(bAm N)) (hl:=(aAi (l:=[(6758,[0,1,5,7,15,16,17,23,24,25],aTj)]) (by kernel_rfl) ⟨(aAf (bF1 N N)),trivial⟩))
def bKS:LpS R:=aCc (bAm N) 26 (aAx P116_l0 (aWd N N))
def aGT (a0:ByteArray)(a1:zt7)(a2:zt1)(a3:zt2)(a4:zt0)(a5:zt7)(a6:zt6)(a7:List Int)(a8 a9 a10:Int)(k0:Bool->Option R):Option R:=(aEk N k0 (k0 true) N a0 a1 a2 a3 a4 a5 a6 a7 a8 a4 ((a4.length:Nat):Int) 0 a9 a10)
def bQ4:CfS R:=u1 (bRQ N) 185 ⟨[.p (.cp [.s .s,.s (.sl [.s,hI]),.s (.sl [.s,hI,hI,hI,hI]),.s (.sl [hI,hI,.sl [hI],hI]),.s (.sl [.s,hI,.sl [hI,hI,hI]]),.s (.sl [.s,hI]),.s (.sl [hI,.sl [hI]]),.s (.sl [hI])]),pI,.agg [pI,pI]],[]⟩ ⟨[pB],[]⟩ (aGT N)
theorem bF3:FOK (bQ4 N:CfS R) (aAo T):=uCk (aPV N) bG5 (H:=bM1) (Lp:=(bKS N)) (hl:=(aAi (l:=[(26,[0,1,5,15,16,17],aVS)]) (by kernel_rfl) ⟨(aAf (bBA N N)),trivial⟩))
def aMw (N:Nat)(a0:Int)(k0:Int->Option R):Option R:=(bif decide (4294967296<=a0)then (bif decide (65536<=(aLT .u64 a0 32))then (bif decide (256<=(aLT .u64 (aLT .u64 a0 32) 16))then ((aJd (ByteArray.mk #[0,1,2,2,3,3,3,3,4,4,4,4,4,4,4,4,5,5,5,5,5,5,5,5,5,5,5,5,5,5,5,5,6,6,6,6,6,6,6,6,6,6,6,6,6,6,6,6,6,6,6,6,6,6,6,6,6,6,6,6,6,6,6,6,7,7,7,7,7,7,7,7,7,7,7,7,7,7,7,7,7,7,7,7,7,7,7,7,7,7,7,7,7,7,7,7,7,7,7,7,7,7,7,7,7,7,7,7,7,7,7,7,7,7,7,7,7,7,7,7,7,7,7,7,7,7,7,7,8,8,8,8,8,8,8,8,8,8,8,8,8,8,8,8,8,8,8,8,8,8,8,8,8,8,8,8,8,8,8,8,8,8,8,8,8,8,8,8,8,8,8,8,8,8,8,8,8,8,8,8,8,8,8,8,8,8,8,8,8,8,8,8,8,8,8,8,8,8,8,8,8,8,8,8,8,8,8,8,8,8,8,8,8,8,8,8,8,8,8,8,8,8,8,8,8,8,8,8,8,8,8,8,8,8,8,8,8,8,8,8,8,8,8,8,8,8,8,8,8,8,8,8,8,8,8,8]) (IntKind.wrap .u8 (aLT .u64 (aLT .u64 (aLT .u64 a0 32) 16) 8))).bind fun x1=>(k0 (w64 (56+(w64 x1)))))else ((aJd (ByteArray.mk #[0,1,2,2,3,3,3,3,4,4,4,4,4,4,4,4,5,5,5,5,5,5,5,5,5,5,5,5,5,5,5,5,6,6,6,6,6,6,6,6,6,6,6,6,6,6,6,6,6,6,6,6,6,6,6,6,6,6,6,6,6,6,6,6,7,7,7,7,7,7,7,7,7,7,7,7,7,7,7,7,7,7,7,7,7,7,7,7,7,7,7,7,7,7,7,7,7,7,7,7,7,7,7,7,7,7,7,7,7,7,7,7,7,7,7,7,7,7,7,7,7,7,7,7,7,7,7,7,8,8,8,8,8,8,8,8,8,8,8,8,8,8,8,8,8,8,8,8,8,8,8,8,8,8,8,8,8,8,8,8,8,8,8,8,8,8,8,8,8,8,8,8,8,8,8,8,8,8,8,8,8,8,8,8,8,8,8,8,8,8,8,8,8,8,8,8,8,8,8,8,8,8,8,8,8,8,8,8,8,8,8,8,8,8,8,8,8,8,8,8,8,8,8,8,8,8,8,8,8,8,8,8,8,8,8,8,8,8,8,8,8,8,8,8,8,8,8,8,8,8,8,8,8,8,8,8]) (IntKind.wrap .u8 (aLT .u64 (aLT .u64 a0 32) 16))).bind fun x2=>(k0 (w64 (48+(w64 x2))))))else (bif decide (256<=(aLT .u64 a0 32))then ((aJd (ByteArray.mk #[0,1,2,2,3,3,3,3,4,4,4,4,4,4,4,4,5,5,5,5,5,5,5,5,5,5,5,5,5,5,5,5,6,6,6,6,6,6,6,6,6,6,6,6,6,6,6,6,6,6,6,6,6,6,6,6,6,6,6,6,6,6,6,6,7,7,7,7,7,7,7,7,7,7,7,7,7,7,7,7,7,7,7,7,7,7,7,7,7,7,7,7,7,7,7,7,7,7,7,7,7,7,7,7,7,7,7,7,7,7,7,7,7,7,7,7,7,7,7,7,7,7,7,7,7,7,7,7,8,8,8,8,8,8,8,8,8,8,8,8,8,8,8,8,8,8,8,8,8,8,8,8,8,8,8,8,8,8,8,8,8,8,8,8,8,8,8,8,8,8,8,8,8,8,8,8,8,8,8,8,8,8,8,8,8,8,8,8,8,8,8,8,8,8,8,8,8,8,8,8,8,8,8,8,8,8,8,8,8,8,8,8,8,8,8,8,8,8,8,8,8,8,8,8,8,8,8,8,8,8,8,8,8,8,8,8,8,8,8,8,8,8,8,8,8,8,8,8,8,8,8,8,8,8,8,8]) (IntKind.wrap .u8 (aLT .u64 (aLT .u64 a0 32) 8))).bind fun x3=>(k0 (w64 (40+(w64 x3)))))else ((aJd (ByteArray.mk #[0,1,2,2,3,3,3,3,4,4,4,4,4,4,4,4,5,5,5,5,5,5,5,5,5,5,5,5,5,5,5,5,6,6,6,6,6,6,6,6,6,6,6,6,6,6,6,6,6,6,6,6,6,6,6,6,6,6,6,6,6,6,6,6,7,7,7,7,7,7,7,7,7,7,7,7,7,7,7,7,7,7,7,7,7,7,7,7,7,7,7,7,7,7,7,7,7,7,7,7,7,7,7,7,7,7,7,7,7,7,7,7,7,7,7,7,7,7,7,7,7,7,7,7,7,7,7,7,8,8,8,8,8,8,8,8,8,8,8,8,8,8,8,8,8,8,8,8,8,8,8,8,8,8,8,8,8,8,8,8,8,8,8,8,8,8,8,8,8,8,8,8,8,8,8,8,8,8,8,8,8,8,8,8,8,8,8,8,8,8,8,8,8,8,8,8,8,8,8,8,8,8,8,8,8,8,8,8,8,8,8,8,8,8,8,8,8,8,8,8,8,8,8,8,8,8,8,8,8,8,8,8,8,8,8,8,8,8,8,8,8,8,8,8,8,8,8,8,8,8,8,8,8,8,8,8]) (IntKind.wrap .u8 (aLT .u64 a0 32))).bind fun x4=>(k0 (w64 (32+(w64 x4)))))))else (bif decide (65536<=a0)then (bif decide (256<=(aLT .u64 a0 16))then ((aJd (ByteArray.mk #[0,1,2,2,3,3,3,3,4,4,4,4,4,4,4,4,5,5,5,5,5,5,5,5,5,5,5,5,5,5,5,5,6,6,6,6,6,6,6,6,6,6,6,6,6,6,6,6,6,6,6,6,6,6,6,6,6,6,6,6,6,6,6,6,7,7,7,7,7,7,7,7,7,7,7,7,7,7,7,7,7,7,7,7,7,7,7,7,7,7,7,7,7,7,7,7,7,7,7,7,7,7,7,7,7,7,7,7,7,7,7,7,7,7,7,7,7,7,7,7,7,7,7,7,7,7,7,7,8,8,8,8,8,8,8,8,8,8,8,8,8,8,8,8,8,8,8,8,8,8,8,8,8,8,8,8,8,8,8,8,8,8,8,8,8,8,8,8,8,8,8,8,8,8,8,8,8,8,8,8,8,8,8,8,8,8,8,8,8,8,8,8,8,8,8,8,8,8,8,8,8,8,8,8,8,8,8,8,8,8,8,8,8,8,8,8,8,8,8,8,8,8,8,8,8,8,8,8,8,8,8,8,8,8,8,8,8,8,8,8,8,8,8,8,8,8,8,8,8,8,8,8,8,8,8,8]) (IntKind.wrap .u8 (aLT .u64 (aLT .u64 a0 16) 8))).bind fun x5=>(k0 (w64 (24+(w64 x5)))))else ((aJd (ByteArray.mk #[0,1,2,2,3,3,3,3,4,4,4,4,4,4,4,4,5,5,5,5,5,5,5,5,5,5,5,5,5,5,5,5,6,6,6,6,6,6,6,6,6,6,6,6,6,6,6,6,6,6,6,6,6,6,6,6,6,6,6,6,6,6,6,6,7,7,7,7,7,7,7,7,7,7,7,7,7,7,7,7,7,7,7,7,7,7,7,7,7,7,7,7,7,7,7,7,7,7,7,7,7,7,7,7,7,7,7,7,7,7,7,7,7,7,7,7,7,7,7,7,7,7,7,7,7,7,7,7,8,8,8,8,8,8,8,8,8,8,8,8,8,8,8,8,8,8,8,8,8,8,8,8,8,8,8,8,8,8,8,8,8,8,8,8,8,8,8,8,8,8,8,8,8,8,8,8,8,8,8,8,8,8,8,8,8,8,8,8,8,8,8,8,8,8,8,8,8,8,8,8,8,8,8,8,8,8,8,8,8,8,8,8,8,8,8,8,8,8,8,8,8,8,8,8,8,8,8,8,8,8,8,8,8,8,8,8,8,8,8,8,8,8,8,8,8,8,8,8,8,8,8,8,8,8,8,8]) (IntKind.wrap .u8 (aLT .u64 a0 16))).bind fun x6=>(k0 (w64 (16+(w64 x6))))))else (bif decide (256<=a0)then ((aJd (ByteArray.mk #[0,1,2,2,3,3,3,3,4,4,4,4,4,4,4,4,5,5,5,5,5,5,5,5,5,5,5,5,5,5,5,5,6,6,6,6,6,6,6,6,6,6,6,6,6,6,6,6,6,6,6,6,6,6,6,6,6,6,6,6,6,6,6,6,7,7,7,7,7,7,7,7,7,7,7,7,7,7,7,7,7,7,7,7,7,7,7,7,7,7,7,7,7,7,7,7,7,7,7,7,7,7,7,7,7,7,7,7,7,7,7,7,7,7,7,7,7,7,7,7,7,7,7,7,7,7,7,7,8,8,8,8,8,8,8,8,8,8,8,8,8,8,8,8,8,8,8,8,8,8,8,8,8,8,8,8,8,8,8,8,8,8,8,8,8,8,8,8,8,8,8,8,8,8,8,8,8,8,8,8,8,8,8,8,8,8,8,8,8,8,8,8,8,8,8,8,8,8,8,8,8,8,8,8,8,8,8,8,8,8,8,8,8,8,8,8,8,8,8,8,8,8,8,8,8,8,8,8,8,8,8,8,8,8,8,8,8,8,8,8,8,8,8,8,8,8,8,8,8,8,8,8,8,8,8,8]) (IntKind.wrap .u8 (aLT .u64 a0 8))).bind fun x7=>(k0 (w64 (8+(w64 x7)))))else ((aJd (ByteArray.mk #[0,1,2,2,3,3,3,3,4,4,4,4,4,4,4,4,5,5,5,5,5,5,5,5,5,5,5,5,5,5,5,5,6,6,6,6,6,6,6,6,6,6,6,6,6,6,6,6,6,6,6,6,6,6,6,6,6,6,6,6,6,6,6,6,7,7,7,7,7,7,7,7,7,7,7,7,7,7,7,7,7,7,7,7,7,7,7,7,7,7,7,7,7,7,7,7,7,7,7,7,7,7,7,7,7,7,7,7,7,7,7,7,7,7,7,7,7,7,7,7,7,7,7,7,7,7,7,7,8,8,8,8,8,8,8,8,8,8,8,8,8,8,8,8,8,8,8,8,8,8,8,8,8,8,8,8,8,8,8,8,8,8,8,8,8,8,8,8,8,8,8,8,8,8,8,8,8,8,8,8,8,8,8,8,8,8,8,8,8,8,8,8,8,8,8,8,8,8,8,8,8,8,8,8,8,8,8,8,8,8,8,8,8,8,8,8,8,8,8,8,8,8,8,8,8,8,8,8,8,8,8,8,8,8,8,8,8,8,8,8,8,8,8,8,8,8,8,8,8,8,8,8,8,8,8,8]) (IntKind.wrap .u8 a0)).bind fun x8=>(k0 (w64 (0+(w64 x8))))))))
def bRA:CfS R:=u1 (bQ4 N) 290 ⟨[.p (.s (.i .u64))],[]⟩ ⟨[pI],[]⟩ (aMw N)
theorem bFo:FOK (bRA N:CfS R) (aAo T):=uCk (bF3 N) bQa
def aQf (a0:Int)(k0:Int->Option R):Option R:=(aMw N a0 k0)
def bSs:CfS R:=u1 (bRA N) 253 ⟨[.p (.s (.i .u64))],[]⟩ ⟨[pI],[]⟩ (aQf N)
theorem bFR:FOK (bSs N:CfS R) (aAo T):=uCk (bFo N) bP8
def aFQ (N:Nat)(a0 a1 a2 a3 a4 a5:Int)(k0:Int->Option R):Option R:=(k0 (w64 (a1-a4)))
def bRY:CfS R:=u1 (bSs N) 187 ⟨[.agg [pI,pI,pI],.agg [pI,pI,pI]],[]⟩ ⟨[pI],[]⟩ (aFQ N)
theorem aP8:FOK (bRY N:CfS R) (aAo T):=uCk (bFR N) bPB
def aAK (k0:zk1 (Int->zt8->Option R)):Nat->zk1 (zk1 (zt8->Option R))
 | 0,_,_,_,_,_=>none
 | n+1,b0,b1,b2,b3,b4=>(bif decide (b0<b3)then (bif inR b3 b4.length then ((b4[b3.toNat]?).bind fun x1=>(bif inR (w64 (b3-1)) b4.length then ((b4[(w64 (b3-1)).toNat]?).bind fun x2=>(aFQ N x1.1 x1.2.1 x1.2.2 x2.1 x2.2.1 x2.2.2 (fun y3=>(bif decide (y3<0)then (bif inR (w64 (b3-1)) b4.length then ((b4[(w64 (b3-1)).toNat]?).bind fun x4=>(bif inR b3 b4.length then ((b4[b3.toNat]?).bind fun x5=>(bif inR b3 b4.length then ((b4[b3.toNat]?).bind fun x6=>(bif inR (w64 (b3-1)) ((List.set b4 b3.toNat x4).length)then (((List.set b4 b3.toNat x4)[(w64 (b3-1)).toNat]?).bind fun x7=>(aAK k0 n b0 b1 b2 (w64 (b3-1)) (List.set (List.set b4 b3.toNat x4) ((w64 (b3-1)).toNat) x5)))else none))else none))else none))else none)else (k0 b0 b1 b2 b4)))))else none))else none)else (k0 b0 b1 b2 b4))
def P120_l1:SP:=⟨[(0,.own 0),(1,pI),(2,pI),(3,.p (.fn 187 [])),(8,pI),(9,pI),(100000,.own 0)],[(0,.arr zs5)]⟩
def aSS:Nat->P120_l1.den->KS R->Option R:=eS P120_l1 fun k=>aAK N (qS k (.ex 2) ⟨[(0,.own 0),(1,pI),(2,pI),(3,.p (.fn 187 [])),(8,pI),(100000,.own 0)],[(0,.arr zs5)]⟩)
theorem bBZ:LpG T P120_l1 (aSS N (R:=R)) [0,1,2,3,8,9] aR1:=lpk (aP8 N) 402
def aYZ:LpS R:=aCc noL 402 (aAx P120_l1 (aSS N N))
def aAJ (k0:zt8->Option R):Nat->zk1 (Int->zt8->Option R)
 | 0,_,_,_,_=>none
 | n+1,b0,b1,b2,b3=>(bif decide (b2<b1)then (aAK N (fun z8 z9 z10 z11=>(aAJ k0 n z8 z9 (w64 (z10+1)) z11)) N b0 b1 b2 b2 b3)else (k0 b3))
def P120_l0:SP:=⟨[(0,.own 0),(1,pI),(2,pI),(3,.p (.fn 187 [])),(8,pI),(100000,.own 0)],[(0,.arr zs5)]⟩
def aU9:Nat->P120_l0.den->KS R->Option R:=eS P120_l0 fun k=>aAJ N (qS k (.ex 0) ⟨[(100000,.own 0)],[(0,.arr zs5)]⟩)
theorem bCN:LpG T P120_l0 (aU9 N (R:=R)) [0,1,2,3,8] aTJ:=lpk (aP8 N) 6 (Lp:=(aYZ N)) (hl:=(aAi (l:=[(402,[0,1,2,3,8,9],aR1)]) (by kernel_rfl) ⟨(aAf (bBZ N N)),trivial⟩))
def bJw:LpS R:=aCc (aYZ N) 6 (aAx P120_l0 (aU9 N N))
def aBr (a0 a1:Int)(a2:zt8)(k0:zt8->Option R):Option R:=(aAJ N k0 N a0 a1 (w64 (a0+1)) a2)
def bSD:CfS R:=u2 (bRY N) 281 ⟨[.own 0,pI,pI,.p (.fn 187 [])],[(0,.arr zs5)]⟩ (aBr N) fun f k=>f (qA k [0] ⟨[],[(0,.arr zs5)]⟩)
theorem aUk:FOK (bSD N:CfS R) (aAo T):=uCk (aP8 N) bIG (Lp:=(bJw N)) (hl:=(aAi (l:=[(6,[0,1,2,3,8],aTJ)]) (by kernel_rfl) ⟨(aAf (bCN N N)),trivial⟩))
def aBF (k0:zt8->Option R):Nat->zk1 (Int->Bool->Bool->zt8->Option R)
 | 0,_,_,_,_,_,_=>none
 | n+1,b0,b1,b2,b3,b4,b5=>(bif decide ((w64 (b1-b0))<=12)then (aBr N b0 b1 b5 k0)else (bif decide (b2=0)then none else (bif (!b3)then none else none)))
def P121_l0:SP:=⟨[(0,.own 0),(1,pI),(2,pI),(3,pI),(4,.p (.fn 187 [])),(10,pB),(11,pB),(100000,.own 0)],[(0,.arr zs5)]⟩
def aWU:Nat->P121_l0.den->KS R->Option R:=eS P121_l0 fun k=>aBF N (qS k .ret ⟨[(100000,.own 0)],[(0,.arr zs5)]⟩)
theorem bBJ:LpG T P121_l0 (aWU N (R:=R)) [0,1,2,3,4,10,11] aWX:=lpk (aUk N) 14 (hl:=(aAi (l:=[(7294,[0,1,2,3,4,10,11,12,13,14],bDV)]) (by kernel_rfl) ⟨(fun _ _ _ h=>by cases h),trivial⟩))
def bKc:LpS R:=aCc noL 14 (aAx P121_l0 (aWU N N))
def aB2 (a0 a1 a2:Int)(a3:zt8)(k0:zt8->Option R):Option R:=(aBF N k0 N a0 a1 a2 true true a3)
def bSt:CfS R:=u2 (bSD N) 252 ⟨[.own 0,pI,pI,pI,.p (.fn 187 [])],[(0,.arr zs5)]⟩ (aB2 N) fun f k=>f (qA k [0] ⟨[],[(0,.arr zs5)]⟩)
theorem bBD:FOK (bSt N:CfS R) (aAo T):=uCk (aUk N) bDs (Lp:=(bKc N)) (hl:=(aAi (l:=[(14,[0,1,2,3,4,10,11],aWX)]) (by kernel_rfl) ⟨(aAf (bBJ N N)),trivial⟩))
def aBD (a0:zt8)(k0:zt8->Option R):Option R:=(aQf N (IntKind.wrap .u64 ((a0.length:Nat):Int)) (fun y1=>(aB2 N 0 ((a0.length:Nat):Int) y1 a0 k0)))
def bQG:CfS R:=u2 (bSt N) 186 ⟨[.own 0,.p (.fn 187 [])],[(0,.arr zs5)]⟩ (aBD N) fun f k=>f (qA k [0] ⟨[],[(0,.arr zs5)]⟩)
theorem aTu:FOK (bQG N:CfS R) (aAo T):=uCk (bBD N) bNr
def bSM:Nat->Option (List Sh):=fun n=>if n=68000 then some [hI,hI,hI]else none
def aAS (k0:zt8->Option R):Nat->zk0 (List Int->zk1 (zt8->Option R))
 | 0,_,_,_,_,_,_,_,_,_,_,_=>none
 | n+1,b0,b1,b2,b3,b4,b5,b6,b7,b8,b9,b10=>(bif decide (b9<b8)then (aFu N b0 b1 b2 b3 b4 b5 b6 b7 b9 (fun y1 y2 y3 y4=>(bif (!y4)then (aAS k0 n b0 b1 b2 b3 b4 b5 b6 b7 b8 (w64 (b9+1)) b10)else (aGT N b0 b1 b2 b3 b4 b5 b6 b7 y1 y2 y3 (fun y5=>(bif (!y5)then (aAS k0 n b0 b1 b2 b3 b4 b5 b6 b7 b8 (w64 (b9+1)) b10)else (aFu N b0 b1 b2 b3 b4 b5 b6 b7 y1 (fun y6 y7 y8 y9=>(bif y9 then (aAQ N b0 b1 b2 b3 b4 b5 b6 b7 y1 (fun y10=>(aAQ N b0 b1 b2 b3 b4 b5 b6 b7 b9 (fun y11=>(bif decide (y10=y11)then (aAQ N b0 b1 b2 b3 b4 b5 b6 b7 y6 (fun y12=>(aAQ N b0 b1 b2 b3 b4 b5 b6 b7 y1 (fun y13=>(bif decide (y12≠y13)then (bif aBU (b10.length+1) 24 then (aAS k0 n b0 b1 b2 b3 b4 b5 b6 b7 b8 (w64 (b9+1)) (b10++[(y6,y1,b9)]))else none)else (aAS k0 n b0 b1 b2 b3 b4 b5 b6 b7 b8 (w64 (b9+1)) b10))))))else (aAS k0 n b0 b1 b2 b3 b4 b5 b6 b7 b8 (w64 (b9+1)) b10))))))else (aAS k0 n b0 b1 b2 b3 b4 b5 b6 b7 b8 (w64 (b9+1)) b10))))))))))else (k0 b10))
def P123_l0:SP:=⟨[(0,.p (.cp [.s .s,.s (.sl [.s,hI]),.s (.sl [.s,hI,hI,hI,hI]),.s (.sl [hI,hI,.sl [hI],hI]),.s (.sl [.s,hI,.sl [hI,hI,hI]]),.s (.sl [.s,hI]),.s (.sl [hI,.sl [hI]]),.s (.sl [hI])])),(3,.own 0),(15,pI),(16,pI)],[(0,.arr zs5)]⟩
def aSK:Nat->P123_l0.den->KS R->Option R:=eS P123_l0 fun k=>aAS N (qS k (.ex 0) ⟨[(3,.own 0)],[(0,.arr zs5)]⟩)
theorem bDd:LpG T P123_l0 (aSK N (R:=R)) [0,3,15,16] aPq:=lpk (aTu N) 58 (H:=bSM)
def bHu:LpS R:=aCc noL 58 (aAx P123_l0 (aSK N N))
def aFO (a0:ByteArray)(a1:zt7)(a2:zt1)(a3:zt2)(a4:zt0)(a5:zt7)(a6:zt6)(a7:List Int)(k0:zt8->Option R):Option R:=(aAS N (fun z14=>(aBD N z14 k0)) N a0 a1 a2 a3 a4 a5 a6 a7 ((a2.length:Nat):Int) 0 [])
def bSj:CfS R:=u1 (bQG N) 136 ⟨[.p (.cp [.s .s,.s (.sl [.s,hI]),.s (.sl [.s,hI,hI,hI,hI]),.s (.sl [hI,hI,.sl [hI],hI]),.s (.sl [.s,hI,.sl [hI,hI,hI]]),.s (.sl [.s,hI]),.s (.sl [hI,.sl [hI]]),.s (.sl [hI])])],[]⟩ ⟨[pL zs5],[]⟩ (aFO N)
theorem bBL:FOK (bSj N:CfS R) (aAo T):=uCk (aTu N) bKt (H:=bSM) (Lp:=(bHu N)) (hl:=(aAi (l:=[(58,[0,3,15,16],aPq)]) (by kernel_rfl) ⟨(aAf (bDd N N)),trivial⟩))
def aIB (a0:ByteArray)(a1:zt7)(a2:zt1)(a3:zt2)(a4:zt0)(a5:zt7)(a6:zt6)(k0:zt8->Int->Option R):Option R:=(aDo N a0 a1 a2 a3 a4 a5 a6 (fun y1=>(bif decide (y1≠0)then (k0 [] y1)else (aG9 N))) (fun y2 y3 y4 y5 y6 y7 y8 y9 y10=>(bif decide (y10≠0)then (k0 [] y10)else (aFO N y2 y3 y4 y5 y6 y7 y8 y9 (fun y11=>(k0 y11 0))))))
def bTj:CfS R:=u1 (bSj N) 59 ⟨[.agg zb2],[]⟩ ⟨[pL zs5,pI],[]⟩ (aIB N)
theorem bFJ:FOK (bTj N:CfS R) (aAo T):=uCk (bBL N) c59 (rp:=[⟨[pL zs5,pI],[]⟩])
def bVa:Nat->Option (List Sh):=fun n=>if n=19000 then some [hI]else none
def aGd (a0:Int)(a1:List Int):Option R:=(aCm N a0 0 3 (fun y1=>(aA8 N y1 2 (fun y2=>none))))
def bSP:CfS R:=u2 (bTj N) 126 ⟨[.p (.nl 0),.agg [pI,pL [hI]]],[]⟩ (aGd N) fun f k=>f
theorem bEh:FOK (bSP N:CfS R) (aAo T):=uCk (bFJ N) bLD (H:=bVa)
def aE9 (a0 a1:Int)(a2:List Int):Option R:=(aGd N a1 a2)
def bRu:CfS R:=u2 (bSP N) 195 ⟨[pI,.agg [pI,pL [hI]],.ptr 0 0],[(0,.box [.p (.nl 0)])]⟩ (aE9 N) fun f k=>f
theorem aSE:FOK (bRu N:CfS R) (aAo T):=uCk (bEh N) bLo
def aCj (k0:Option R):Nat->zt6->zk1 (Option R)
 | 0,_,_,_=>none
 | n+1,b0,b1,b2=>(bif decide (b2<b1)then ((at? b0 b2).bind fun x1=>(aE9 N b2 x1.1 x1.2))else k0)
def P127_l0:SP:=⟨[(1,.fn 195 [.ptr 0 0]),(8,pL zs3),(9,pI),(10,pI),(100001,.fn 195 [.ptr 0 0])],[(0,.box [.p (.nl 0)])]⟩
def aWA:Nat->P127_l0.den->KS R->Option R:=eS P127_l0 fun k=>aCj N (qS k (.ex 0) ⟨[(100001,.fn 195 [.ptr 0 0])],[(0,.box [.p (.nl 0)])]⟩)
theorem bGe:LpG T P127_l0 (aWA N (R:=R)) [1,8,9,10] aNn:=lpk (aSE N) 26
def bG1:LpS R:=aCc noL 26 (aAx P127_l0 (aWA N N))
def aCC (a0:zt6)(k0:Int->Option R):Option R:=(aCj N (k0 0) N a0 ((a0.length:Nat):Int) 0)
def bSG:CfS R:=u2 (bRu N) 194 ⟨[pL zs3,.fn 195 [.ptr 0 0]],[(0,.box [.p (.nl 0)])]⟩ (aCC N) fun f k=>f (qA k [0] ⟨[pI],[(0,.box [.p (.nl 0)])]⟩)
theorem bDv:FOK (bSG N:CfS R) (aAo T):=uCk (aSE N) bJf (Lp:=(bG1 N)) (hl:=(aAi (l:=[(26,[1,8,9,10],aNn)]) (by kernel_rfl) ⟨(aAf (bGe N N)),trivial⟩))
def aFN (a0:zt6)(k0:Int->Option R):Option R:=(bif decide (60<((a0.length:Nat):Int))then (k0 8)else (aCC N a0 k0))
def bQX:CfS R:=u1 (bSG N) 139 ⟨[.p (.nl 0),pL zs3],[]⟩ ⟨[pI],[]⟩ (aFN N)
theorem bCj:FOK (bQX N:CfS R) (aAo T):=uCk (bDv N) bLI
def bWT:Nat->Option (List Sh):=fun n=>if n=13000 then some [.sl [hI]]else if n=33000 then some [.sl [hI]]else none
def aFV (N:Nat)(a0:zt6):Option R:=none
def bSi:CfS R:=u2 (bQX N) 140 ⟨[.p (.nl 0),pL zs3],[]⟩ (aFV N) fun f k=>f
theorem aVK:FOK (bSi N:CfS R) (aAo T):=uCk (bCj N) bI1 (H:=bWT) (hl:=(aAi (l:=[(122,[0,5,7,20,21,22],aPY)]) (by kernel_rfl) ⟨(fun _ _ _ h=>by cases h),trivial⟩))
def aG0 (N:Nat)(k0:Int->Option R)(k1:Option R):zk5 (zk1 (Option R))
 | 0,_,_,_=>none
 | n+1,b0,b1,b2=>(bif decide (b2<b1)then ((at? b0 b2).bind fun x1=>(bif decide (x1≠0)then (k0 x1)else (aG0 N k0 k1 n b0 b1 (w64 (b2+1)))))else k1)
def P130_l0:SP:=⟨[(5,pL [hI]),(6,pI),(7,pI)],[]⟩
def aSP:Nat->P130_l0.den->KS R->Option R:=eS P130_l0 fun k=>aG0 N (qS k .ret ⟨[(2,pI)],[]⟩) (qS k (.ex 0) ⟨[],[]⟩)
theorem bFn:LpG T P130_l0 (aSP N (R:=R)) [5,6,7] aSF:=lpk (aVK N) 26
def bHg:LpS R:=aCc noL 26 (aAx P130_l0 (aSP N N))
def aHk (a0:List Int)(k0:Int->Option R):Option R:=(aG0 N k0 (k0 0) N a0 ((a0.length:Nat):Int) 0)
def bQ3:CfS R:=u1 (bSi N) 125 ⟨[pL [hI]],[]⟩ ⟨[pI],[]⟩ (aHk N)
theorem bFU:FOK (bQ3 N:CfS R) (aAo T):=uCk (aVK N) bLt (Lp:=(bHg N)) (hl:=(aAi (l:=[(26,[5,6,7],aSF)]) (by kernel_rfl) ⟨(aAf (bFn N N)),trivial⟩))
def aFo (a0 a1:Int)(a2:ByteArray)(a3:zt7)(a4:zt1)(a5:zt2)(a6:zt0)(a7:zt7)(a8:zt6)(a9:List Int)(k0:Int->zk0 (List Int->Option R)):Option R:=((at? a9 a0).bind fun x1=>(bif decide (x1<0)then none else (aCm N a1 0 (w64 ((aPi .i64 1 x1)-1)) (fun y2=>(aA8 N y2 2 (fun y3=>(k0 y3 a2 a3 a4 a5 a6 a7 a8 a9)))))))
def bRm:CfS R:=u2 (bQ3 N) 179 ⟨[pI,pI,.ptr 0 0],[(0,.box zb3)]⟩ (aFo N) fun f k=>f (qA k [0] ⟨[pI],[(0,.box zb3)]⟩)
theorem aR4:FOK (bRm N:CfS R) (aAo T):=uCk (bFU N) bN5
def aB1 (k0:Int->zk0 (List Int->Option R))(k1:zk0 (List Int->Option R)):zk5 (zk1 (zk0 (List Int->Option R)))
 | 0,_,_,_,_,_,_,_,_,_,_,_=>none
 | n+1,b0,b1,b2,b3,b4,b5,b6,b7,b8,b9,b10=>(bif decide (b2<b1)then ((at? b0 b2).bind fun x1=>(aFo N b2 x1 b3 b4 b5 b6 b7 b8 b9 b10 (fun y2 y3 y4 y5 y6 y7 y8 y9 y10=>(bif decide (y2≠0)then (k0 y2 y3 y4 y5 y6 y7 y8 y9 y10)else (aB1 k0 k1 n b0 b1 (w64 (b2+1)) y3 y4 y5 y6 y7 y8 y9 y10)))))else (k1 b3 b4 b5 b6 b7 b8 b9 b10))
def P132_l0:SP:=⟨[(1,.fn 179 [.ptr 0 0]),(8,pL [hI]),(9,pI),(10,pI),(100001,.fn 179 [.ptr 0 0])],[(0,.box zb3)]⟩
def aXp:Nat->P132_l0.den->KS R->Option R:=eS P132_l0 fun k=>aB1 N (qS k .ret ⟨[(4,pI),(100001,.fn 179 [.ptr 0 0])],[(0,.box zb3)]⟩) (qS k (.ex 0) ⟨[(100001,.fn 179 [.ptr 0 0])],[(0,.box zb3)]⟩)
theorem bEP:LpG T P132_l0 (aXp N (R:=R)) [1,8,9,10] aTi:=lpk (aR4 N) 26
def bJn:LpS R:=aCc noL 26 (aAx P132_l0 (aXp N N))
def aDq (a0:List Int)(a1:ByteArray)(a2:zt7)(a3:zt1)(a4:zt2)(a5:zt0)(a6:zt7)(a7:zt6)(a8:List Int)(k0:Int->zk0 (List Int->Option R)):Option R:=(aB1 N k0 (fun z20 z21 z22 z23 z24 z25 z26 z27=>(k0 0 z20 z21 z22 z23 z24 z25 z26 z27)) N a0 ((a0.length:Nat):Int) 0 a1 a2 a3 a4 a5 a6 a7 a8)
def bSR:CfS R:=u2 (bRm N) 178 ⟨[pL [hI],.fn 179 [.ptr 0 0]],[(0,.box zb3)]⟩ (aDq N) fun f k=>f (qA k [0] ⟨[pI],[(0,.box zb3)]⟩)
theorem bDb:FOK (bSR N:CfS R) (aAo T):=uCk (aR4 N) bLj (Lp:=(bJn N)) (hl:=(aAi (l:=[(26,[1,8,9,10],aTi)]) (by kernel_rfl) ⟨(aAf (bEP N N)),trivial⟩))
def bVw:Nat->Option (List Sh):=fun n=>if n=19000 then some [hI]else none
def aFp (a0:ByteArray)(a1:zt7)(a2:zt1)(a3:zt2)(a4:zt0)(a5:zt7)(a6:zt6)(a7:List Int)(a8:Int)(a9:List Int)(k0:Int->Option R):Option R:=(aCm N a8 0 3 (fun y1=>(aA8 N y1 2 (fun y2=>(aA8 N (decide (((a9.length:Nat):Int)=((a1.length:Nat):Int))) 10 (fun y3=>(aHk N [y2,y3] (fun y4=>(bif decide (y4≠0)then (k0 y4)else (aDq N a9 a0 a1 a2 a3 a4 a5 a6 a7 (fun y5 y6 y7 y8 y9 y10 y11 y12 y13=>(k0 y5))))))))))))
def bQU:CfS R:=u1 (bSR N) 126 ⟨[.p (.cp [.s .s,.s (.sl [.s,hI]),.s (.sl [.s,hI,hI,hI,hI]),.s (.sl [hI,hI,.sl [hI],hI]),.s (.sl [.s,hI,.sl [hI,hI,hI]]),.s (.sl [.s,hI]),.s (.sl [hI,.sl [hI]]),.s (.sl [hI])]),.agg [pI,pL [hI]]],[]⟩ ⟨[pI],[]⟩ (aFp N)
theorem bCF:FOK (bQU N:CfS R) (aAo T):=uCk (bDb N) bLD (H:=bVw)
def aEq (a0 a1:Int)(a2:List Int)(a3:ByteArray)(a4:zt7)(a5:zt1)(a6:zt2)(a7:zt0)(a8:zt7)(a9:zt6)(a10:List Int)(k0:Int->zk0 (List Int->Option R)):Option R:=(aFp N a3 a4 a5 a6 a7 a8 a9 a10 a1 a2 (fun y1=>(k0 y1 a3 a4 a5 a6 a7 a8 a9 a10)))
def bQO:CfS R:=u2 (bQU N) 195 ⟨[pI,.agg [pI,pL [hI]],.ptr 0 0],[(0,.box zb3)]⟩ (aEq N) fun f k=>f (qA k [0] ⟨[pI],[(0,.box zb3)]⟩)
theorem aSB:FOK (bQO N:CfS R) (aAo T):=uCk (bCF N) bLo
def aA5 (k0:Int->zk0 (List Int->Option R))(k1:zk0 (List Int->Option R)):Nat->zt6->zk1 (zk0 (List Int->Option R))
 | 0,_,_,_,_,_,_,_,_,_,_,_=>none
 | n+1,b0,b1,b2,b3,b4,b5,b6,b7,b8,b9,b10=>(bif decide (b2<b1)then ((at? b0 b2).bind fun x1=>(aEq N b2 x1.1 x1.2 b3 b4 b5 b6 b7 b8 b9 b10 (fun y2 y3 y4 y5 y6 y7 y8 y9 y10=>(bif decide (y2≠0)then (k0 y2 y3 y4 y5 y6 y7 y8 y9 y10)else (aA5 k0 k1 n b0 b1 (w64 (b2+1)) y3 y4 y5 y6 y7 y8 y9 y10)))))else (k1 b3 b4 b5 b6 b7 b8 b9 b10))
def P135_l0:SP:=⟨[(1,.fn 195 [.ptr 0 0]),(8,pL zs3),(9,pI),(10,pI),(100001,.fn 195 [.ptr 0 0])],[(0,.box zb3)]⟩
def aUz:Nat->P135_l0.den->KS R->Option R:=eS P135_l0 fun k=>aA5 N (qS k .ret ⟨[(4,pI),(100001,.fn 195 [.ptr 0 0])],[(0,.box zb3)]⟩) (qS k (.ex 0) ⟨[(100001,.fn 195 [.ptr 0 0])],[(0,.box zb3)]⟩)
theorem bCy:LpG T P135_l0 (aUz N (R:=R)) [1,8,9,10] aNn:=lpk (aSB N) 26
def bK1:LpS R:=aCc noL 26 (aAx P135_l0 (aUz N N))
def aCi (a0:zt6)(a1:ByteArray)(a2:zt7)(a3:zt1)(a4:zt2)(a5:zt0)(a6:zt7)(a7:zt6)(a8:List Int)(k0:Int->zk0 (List Int->Option R)):Option R:=(aA5 N k0 (fun z20 z21 z22 z23 z24 z25 z26 z27=>(k0 0 z20 z21 z22 z23 z24 z25 z26 z27)) N a0 ((a0.length:Nat):Int) 0 a1 a2 a3 a4 a5 a6 a7 a8)
def bRb:CfS R:=u2 (bQO N) 194 ⟨[pL zs3,.fn 195 [.ptr 0 0]],[(0,.box zb3)]⟩ (aCi N) fun f k=>f (qA k [0] ⟨[pI],[(0,.box zb3)]⟩)
theorem bFj:FOK (bRb N:CfS R) (aAo T):=uCk (aSB N) bJf (Lp:=(bK1 N)) (hl:=(aAi (l:=[(26,[1,8,9,10],aNn)]) (by kernel_rfl) ⟨(aAf (bCy N N)),trivial⟩))
def aE5 (a0:ByteArray)(a1:zt7)(a2:zt1)(a3:zt2)(a4:zt0)(a5:zt7)(a6:zt6)(a7:List Int)(a8:zt6)(k0:Int->Option R):Option R:=(bif decide (60<((a8.length:Nat):Int))then (k0 8)else (aCi N a8 a0 a1 a2 a3 a4 a5 a6 a7 (fun y1 y2 y3 y4 y5 y6 y7 y8 y9=>(k0 y1))))
def bQY:CfS R:=u1 (bRb N) 139 ⟨[.p (.cp [.s .s,.s (.sl [.s,hI]),.s (.sl [.s,hI,hI,hI,hI]),.s (.sl [hI,hI,.sl [hI],hI]),.s (.sl [.s,hI,.sl [hI,hI,hI]]),.s (.sl [.s,hI]),.s (.sl [hI,.sl [hI]]),.s (.sl [hI])]),pL zs3],[]⟩ ⟨[pI],[]⟩ (aE5 N)
theorem bDp:FOK (bQY N:CfS R) (aAo T):=uCk (bFj N) bLI
def aIF (a0:ByteArray)(a1:zt7)(a2:zt1)(a3:zt2)(a4:zt0)(a5:zt7)(a6:zt6)(k0:zk0 (Int->Option R)):Option R:=(aDr N a0 a1 a2 a3 a4 a5 a6 (fun y1 y2=>(k0 a0 a1 a2 a3 a4 a5 a6 y2)))
def bQr:CfS R:=u1 (bQY N) 145 ⟨[.agg zb2],[]⟩ ⟨[.agg zb2,pI],[]⟩ (aIF N)
theorem aUl:FOK (bQr N:CfS R) (aAo T):=uCk (bDp N) bOb
def bRS:Nat->Option (List Sh):=fun n=>if n=17000 then some [hI]else none
def aDU (N:Nat)(k0:List Int->Option R):Nat->zt1->zk1 (List Int->Option R)
 | 0,_,_,_,_=>none
 | n+1,b0,b1,b2,b3=>(bif decide (b2<b1)then ((at? b0 b2).bind fun x1=>(bif aBU (b3.length+1) 8 then (aDU N k0 n b0 b1 (w64 (b2+1)) (b3++[x1.2.2.2.1]))else none))else (k0 b3))
def P138_l0:SP:=⟨[(3,.own 0),(8,pL zs2),(9,pI),(10,pI)],[(0,.arr [hI])]⟩
def aVV:Nat->P138_l0.den->KS R->Option R:=eS P138_l0 fun k=>aDU N (qS k (.ex 0) ⟨[(3,.own 0)],[(0,.arr [hI])]⟩)
theorem bEJ:LpG T P138_l0 (aVV N (R:=R)) [3,8,9,10] aWl:=lpk (aUl N) 58 (H:=bRS)
def bKd:LpS R:=aCc noL 58 (aAx P138_l0 (aVV N N))
def aGA (a0:ByteArray)(a1:zt7)(a2:zt1)(a3:zt2)(a4:zt0)(a5:zt7)(a6:zt6)(k0:List Int->Option R):Option R:=(aDU N k0 N a2 ((a2.length:Nat):Int) 0 [])
def bSq:CfS R:=u1 (bQr N) 256 ⟨[.agg zb2],[]⟩ ⟨[pL [hI]],[]⟩ (aGA N)
theorem bEp:FOK (bSq N:CfS R) (aAo T):=uCk (aUl N) bLd (H:=bRS) (Lp:=(bKd N)) (hl:=(aAi (l:=[(58,[3,8,9,10],aWl)]) (by kernel_rfl) ⟨(aAf (bEJ N N)),trivial⟩))
def aIC (a0:ByteArray)(a1:zt7)(a2:zt1)(a3:zt2)(a4:zt0)(a5:zt7)(a6:zt6)(k0:zk4 (Option R)):Option R:=(aIF N a0 a1 a2 a3 a4 a5 a6 (fun y1 y2 y3 y4 y5 y6 y7 y8=>(bif decide (y8≠0)then (k0 [] y8)else (aGA N y1 y2 y3 y4 y5 y6 y7 (fun y9=>(k0 y9 0))))))
def bQ5:CfS R:=u1 (bSq N) 196 ⟨[.agg zb2],[]⟩ ⟨[pL [hI],pI],[]⟩ (aIC N)
theorem bFQ:FOK (bQ5 N:CfS R) (aAo T):=uCk (bEp N) bO6 (rp:=[⟨[pL [hI],pI],[]⟩])
def aGf (N:Nat)(a0:ByteArray)(a1 a2 a3 a4 a5:Int)(a6:List Int)(k0:Bool->zk9 (Option R)):Option R:=(bif decide (a1=1)then (k0 (decide (a4=a5)) a5 a6)else (k0 false a5 a6))
def bRf:CfS R:=u2 (bQ5 N) 180 ⟨[.agg [pS,pI,pI,pI,pI],.ptr 0 0],[(0,.box [pI,pL [hI]])]⟩ (aGf N) fun f k=>f (qA k [0] ⟨[pB],[(0,.box [pI,pL [hI]])]⟩)
theorem aUr:FOK (bRf N:CfS R) (aAo T):=uCk (bFQ N) bNk
def aA7 (k0:zk4 (List Int->Option R)):Nat->zt1->zk1 (zk4 (List Int->Option R))
 | 0,_,_,_,_,_,_=>none
 | n+1,b0,b1,b2,b3,b4,b5=>(bif decide (b2<b1)then ((at? b0 b2).bind fun x1=>(aGf N x1.1 x1.2.1 x1.2.2.1 x1.2.2.2.1 x1.2.2.2.2 b4 b5 (fun y2 y3 y4=>(bif y2 then (bif inR b2 b3.length then ((b3[b2.toNat]?).bind fun x5=>(aA7 k0 n b0 b1 (w64 (b2+1)) (List.set b3 b2.toNat x1.2.2.2.1) y3 y4))else none)else (aA7 k0 n b0 b1 (w64 (b2+1)) b3 y3 y4)))))else (k0 b3 b4 b5))
def P141_l0:SP:=⟨[(1,.own 0),(2,.fn 180 [.ptr 1 0]),(12,pL zs2),(13,pI),(14,pI),(100001,.own 0),(100002,.fn 180 [.ptr 1 0])],[(0,.arr [hI]),(1,.box [pI,pL [hI]])]⟩
def aWz:Nat->P141_l0.den->KS R->Option R:=eS P141_l0 fun k=>aA7 N (qS k (.ex 0) ⟨[(100001,.own 0),(100002,.fn 180 [.ptr 1 0])],[(0,.arr [hI]),(1,.box [pI,pL [hI]])]⟩)
theorem bCE:LpG T P141_l0 (aWz N (R:=R)) [1,2,12,13,14] aT0:=lpk (aUr N) 6
def bI4:LpS R:=aCc noL 6 (aAx P141_l0 (aWz N N))
def aCg (a0:ByteArray)(a1:zt7)(a2:zt1)(a3:zt2)(a4:zt0)(a5:zt7)(a6:zt6)(a7 a8:List Int)(a9:Int)(a10:List Int)(k0:zk4 (List Int->Option R)):Option R:=(aA7 N k0 N a2 ((a2.length:Nat):Int) 0 a8 a9 a10)
def bSz:CfS R:=u2 (bRf N) 130 ⟨[.p (.cp [.s .s,.s (.sl [.s,hI]),.s (.sl [.s,hI,hI,hI,hI]),.s (.sl [hI,hI,.sl [hI],hI]),.s (.sl [.s,hI,.sl [hI,hI,hI]]),.s (.sl [.s,hI]),.s (.sl [hI,.sl [hI]]),.s (.sl [hI])]),.own 0,.fn 180 [.ptr 1 0]],[(0,.arr [hI]),(1,.box [pI,pL [hI]])]⟩ (aCg N) fun f k=>f (qA k [0,1] ⟨[],[(0,.arr [hI]),(1,.box [pI,pL [hI]])]⟩)
theorem bCe:FOK (bSz N:CfS R) (aAo T):=uCk (aUr N) bLv (Lp:=(bI4 N)) (hl:=(aAi (l:=[(6,[1,2,12,13,14],aT0)]) (by kernel_rfl) ⟨(aAf (bCE N N)),trivial⟩))
def aFR (a0:ByteArray)(a1:zt7)(a2:zt1)(a3:zt2)(a4:zt0)(a5:zt7)(a6:zt6)(a7:Int)(k0:Int->Option R):Option R:=(aAF N a7 0 (w64 (((a4.length:Nat):Int)-1)) (fun y1=>(aAj N y1 6 k0)))
def bQT:CfS R:=u1 (bSz N) 147 ⟨[.agg zb2,pI],[]⟩ ⟨[pI],[]⟩ (aFR N)
theorem bDN:FOK (bQT N:CfS R) (aAo T):=uCk (bCe N) bPS
def aEB (a0 a1:Int)(a2:ByteArray)(a3:zt7)(a4:zt1)(a5:zt2)(a6:zt0)(a7:zt7)(a8:zt6)(k0:Int->zk0 (Option R)):Option R:=((at? a3 a0).bind fun x1=>(aF4 N a1 x1.2 (fun y2=>(aAj N y2 2 (fun y3=>(k0 y3 a2 a3 a4 a5 a6 a7 a8))))))
def bQV:CfS R:=u2 (bQT N) 202 ⟨[pI,pI,.ptr 0 0],[(0,.box zb2)]⟩ (aEB N) fun f k=>f (qA k [0] ⟨[pI],[(0,.box zb2)]⟩)
theorem aSv:FOK (bQV N:CfS R) (aAo T):=uCk (bDN N) bP0
def aBE (k0:zk1 (zk0 (Option R)))(k1:zk0 (Option R)):zk5 (zk1 (zk0 (Option R)))
 | 0,_,_,_,_,_,_,_,_,_,_=>none
 | n+1,b0,b1,b2,b3,b4,b5,b6,b7,b8,b9=>(bif decide (b2<b1)then ((at? b0 b2).bind fun x1=>(aEB N b2 x1 b3 b4 b5 b6 b7 b8 b9 (fun y2 y3 y4 y5 y6 y7 y8 y9=>(bif decide (y2≠0)then (k0 b2 y2 y3 y4 y5 y6 y7 y8 y9)else (aBE k0 k1 n b0 b1 (w64 (b2+1)) y3 y4 y5 y6 y7 y8 y9)))))else (k1 b3 b4 b5 b6 b7 b8 b9))
def P144_l0:SP:=⟨[(1,.fn 202 [.ptr 0 0]),(9,pL [hI]),(10,pI),(11,pI),(100001,.fn 202 [.ptr 0 0])],[(0,.box zb2)]⟩
def aW9:Nat->P144_l0.den->KS R->Option R:=eS P144_l0 fun k=>aBE N (qS k .ret ⟨[(4,pI),(5,pI),(100001,.fn 202 [.ptr 0 0])],[(0,.box zb2)]⟩) (qS k (.ex 0) ⟨[(100001,.fn 202 [.ptr 0 0])],[(0,.box zb2)]⟩)
theorem bEy:LpG T P144_l0 (aW9 N (R:=R)) [1,9,10,11] aJZ:=lpk (aSv N) 26
def bKN:LpS R:=aCc noL 26 (aAx P144_l0 (aW9 N N))
def aC5 (a0:List Int)(a1:ByteArray)(a2:zt7)(a3:zt1)(a4:zt2)(a5:zt0)(a6:zt7)(a7:zt6)(k0:zk1 (zk0 (Option R))):Option R:=(aBE N k0 (fun z19 z20 z21 z22 z23 z24 z25=>(k0 0 0 z19 z20 z21 z22 z23 z24 z25)) N a0 ((a0.length:Nat):Int) 0 a1 a2 a3 a4 a5 a6 a7)
def bSd:CfS R:=u2 (bQV N) 201 ⟨[pL [hI],.fn 202 [.ptr 0 0]],[(0,.box zb2)]⟩ (aC5 N) fun f k=>f (qA k [0] ⟨[pI,pI],[(0,.box zb2)]⟩)
theorem bEV:FOK (bSd N:CfS R) (aAo T):=uCk (aSv N) bGx (Lp:=(bKN N)) (hl:=(aAi (l:=[(26,[1,9,10,11],aJZ)]) (by kernel_rfl) ⟨(aAf (bEy N N)),trivial⟩))
def aFq (a0:ByteArray)(a1:zt7)(a2:zt1)(a3:zt2)(a4:zt0)(a5:zt7)(a6:zt6)(a7:List Int)(k0:Int->Option R):Option R:=(bif decide (((a7.length:Nat):Int)≠((a1.length:Nat):Int))then (k0 10)else (aC5 N a7 a0 a1 a2 a3 a4 a5 a6 (fun y1 y2 y3 y4 y5 y6 y7 y8 y9=>(k0 y2))))
def bSC:CfS R:=u1 (bSd N) 148 ⟨[.agg zb2,pL [hI]],[]⟩ ⟨[pI],[]⟩ (aFq N)
theorem bCm:FOK (bSC N:CfS R) (aAo T):=uCk (bEV N) bMJ
def aEV (a0 a1:Int)(a2:ByteArray)(a3:zt7)(a4:zt1)(a5:zt2)(a6:zt0)(a7:zt7)(a8:zt6)(k0:Int->zk0 (Option R)):Option R:=((at? a4 a0).bind fun x1=>(aF4 N a1 x1.2.2.1 (fun y2=>(aAj N y2 2 (fun y3=>(k0 y3 a2 a3 a4 a5 a6 a7 a8))))))
def bSy:CfS R:=u2 (bSC N) 204 ⟨[pI,pI,.ptr 0 0],[(0,.box zb2)]⟩ (aEV N) fun f k=>f (qA k [0] ⟨[pI],[(0,.box zb2)]⟩)
theorem aSk:FOK (bSy N:CfS R) (aAo T):=uCk (bCm N) bNd
def aBL (k0:zk1 (zk0 (Option R)))(k1:zk0 (Option R)):zk5 (zk1 (zk0 (Option R)))
 | 0,_,_,_,_,_,_,_,_,_,_=>none
 | n+1,b0,b1,b2,b3,b4,b5,b6,b7,b8,b9=>(bif decide (b2<b1)then ((at? b0 b2).bind fun x1=>(aEV N b2 x1 b3 b4 b5 b6 b7 b8 b9 (fun y2 y3 y4 y5 y6 y7 y8 y9=>(bif decide (y2≠0)then (k0 b2 y2 y3 y4 y5 y6 y7 y8 y9)else (aBL k0 k1 n b0 b1 (w64 (b2+1)) y3 y4 y5 y6 y7 y8 y9)))))else (k1 b3 b4 b5 b6 b7 b8 b9))
def P147_l0:SP:=⟨[(1,.fn 204 [.ptr 0 0]),(9,pL [hI]),(10,pI),(11,pI),(100001,.fn 204 [.ptr 0 0])],[(0,.box zb2)]⟩
def aWo:Nat->P147_l0.den->KS R->Option R:=eS P147_l0 fun k=>aBL N (qS k .ret ⟨[(4,pI),(5,pI),(100001,.fn 204 [.ptr 0 0])],[(0,.box zb2)]⟩) (qS k (.ex 0) ⟨[(100001,.fn 204 [.ptr 0 0])],[(0,.box zb2)]⟩)
theorem bFb:LpG T P147_l0 (aWo N (R:=R)) [1,9,10,11] aJZ:=lpk (aSk N) 26
def bH3:LpS R:=aCc noL 26 (aAx P147_l0 (aWo N N))
def aC9 (a0:List Int)(a1:ByteArray)(a2:zt7)(a3:zt1)(a4:zt2)(a5:zt0)(a6:zt7)(a7:zt6)(k0:zk1 (zk0 (Option R))):Option R:=(aBL N k0 (fun z19 z20 z21 z22 z23 z24 z25=>(k0 0 0 z19 z20 z21 z22 z23 z24 z25)) N a0 ((a0.length:Nat):Int) 0 a1 a2 a3 a4 a5 a6 a7)
def bRV:CfS R:=u2 (bSy N) 201 ⟨[pL [hI],.fn 204 [.ptr 0 0]],[(0,.box zb2)]⟩ (aC9 N) fun f k=>f (qA k [0] ⟨[pI,pI],[(0,.box zb2)]⟩)
theorem bB3:FOK (bRV N:CfS R) (aAo T):=uCk (aSk N) bGx (Lp:=(bH3 N)) (hl:=(aAi (l:=[(26,[1,9,10,11],aJZ)]) (by kernel_rfl) ⟨(aAf (bFb N N)),trivial⟩))
def aFL (a0:ByteArray)(a1:zt7)(a2:zt1)(a3:zt2)(a4:zt0)(a5:zt7)(a6:zt6)(a7:List Int)(k0:Int->Option R):Option R:=(bif decide (((a7.length:Nat):Int)≠((a2.length:Nat):Int))then (k0 10)else (aC9 N a7 a0 a1 a2 a3 a4 a5 a6 (fun y1 y2 y3 y4 y5 y6 y7 y8 y9=>(k0 y2))))
def bQm:CfS R:=u1 (bRV N) 149 ⟨[.agg zb2,pL [hI]],[]⟩ ⟨[pI],[]⟩ (aFL N)
theorem aPL:FOK (bQm N:CfS R) (aAo T):=uCk (bB3 N) bMr
def aDi (N:Nat)(k0:List (List Int)->Int->Option R):Nat->List (List Int)->Int->List (List Int)->zk1 (Option R)
 | 0,_,_,_,_,_=>none
 | n+1,b0,b1,b2,b3,b4=>(bif decide (b4<b3)then ((at? b2 b4).bind fun x1=>(bif decide ((w64 (b1+((x1.length:Nat):Int)))<0)then none else (aDi N k0 n b0 (w64 (b1+((x1.length:Nat):Int))) b2 b3 (w64 (b4+1)))))else (k0 b0 b1))
def P149_l0:SP:=⟨[(0,pL zs6),(3,pI),(9,pL zs6),(10,pI),(11,pI)],[]⟩
def aWe:Nat->P149_l0.den->KS R->Option R:=eS P149_l0 fun k=>aDi N (qS k (.ex 0) ⟨[(0,pL zs6),(3,pI)],[]⟩)
theorem bBR:LpG T P149_l0 (aWe N (R:=R)) [0,3,9,10,11] aWi:=lpk (aPL N) 58
def aZe:LpS R:=aCc noL 58 (aAx P149_l0 (aWe N N))
def aDh (N:Nat)(k0:List Int->Option R):Nat->List (List Int)->zk1 (List Int->Option R)
 | 0,_,_,_,_=>none
 | n+1,b0,b1,b2,b3=>(bif decide (b2<b1)then ((at? b0 b2).bind fun x1=>(bif aBU (b3.length+x1.length) 8 then (aDh N k0 n b0 b1 (w64 (b2+1)) (b3++x1))else none))else (k0 b3))
def P149_l1:SP:=⟨[(6,.own 0),(25,pL zs6),(26,pI),(27,pI)],[(0,.arr [hI])]⟩
def aSU:Nat->P149_l1.den->KS R->Option R:=eS P149_l1 fun k=>aDh N (qS k (.ex 2) ⟨[(6,.own 0)],[(0,.arr [hI])]⟩)
theorem bBW:LpG T P149_l1 (aSU N (R:=R)) [6,25,26,27] aS7:=lpk (aPL N) 250 (Lp:=(aZe N))
def bKu:LpS R:=aCc (aZe N) 250 (aAx P149_l1 (aSU N N))
def aFE (a0:List (List Int))(k0:List Int->Option R):Option R:=(aDi N (fun z2 z3=>(bif aX8 8 z3 then (aDh N k0 N z2 ((z2.length:Nat):Int) 0 [])else none)) N a0 0 a0 ((a0.length:Nat):Int) 0)
def bS8:CfS R:=u1 (bQm N) 207 ⟨[pL zs6],[]⟩ ⟨[pL [hI]],[]⟩ (aFE N)
theorem bD0:FOK (bS8 N:CfS R) (aAo T):=uCk (aPL N) bHv (Lp:=(bKu N)) (hl:=(aAi (l:=[(58,[0,3,9,10,11],aWi),(250,[6,25,26,27],aS7)]) (by kernel_rfl) ⟨(aDL (by decide) (aAf (bBR N N))),(aAf (bBW N N)),trivial⟩))
def aHx (a0 a1:Int)(a2:List Int)(k0:zk9 (Option R)):Option R:=((at? a2 a0).bind fun x1=>(aHu N a1 x1 (fun y2=>(aAy N y2 2 (fun y3=>(k0 y3 a2))))))
def bS3:CfS R:=u2 (bS8 N) 261 ⟨[pI,pI,.ptr 0 0],[(0,.box [pL [hI]])]⟩ (aHx N) fun f k=>f (qA k [0] ⟨[pI],[(0,.box [pL [hI]])]⟩)
theorem aWK:FOK (bS3 N:CfS R) (aAo T):=uCk (bD0 N) bNO
def aCT (k0:zk1 (List Int->Option R))(k1:List Int->Option R):zk5 (zk1 (List Int->Option R))
 | 0,_,_,_,_=>none
 | n+1,b0,b1,b2,b3=>(bif decide (b2<b1)then ((at? b0 b2).bind fun x1=>(aHx N b2 x1 b3 (fun y2 y3=>(bif decide (y2≠0)then (k0 b2 y2 y3)else (aCT k0 k1 n b0 b1 (w64 (b2+1)) y3)))))else (k1 b3))
def P151_l0:SP:=⟨[(1,.fn 261 [.ptr 0 0]),(9,pL [hI]),(10,pI),(11,pI),(100001,.fn 261 [.ptr 0 0])],[(0,.box [pL [hI]])]⟩
def aTq:Nat->P151_l0.den->KS R->Option R:=eS P151_l0 fun k=>aCT N (qS k .ret ⟨[(4,pI),(5,pI),(100001,.fn 261 [.ptr 0 0])],[(0,.box [pL [hI]])]⟩) (qS k (.ex 0) ⟨[(100001,.fn 261 [.ptr 0 0])],[(0,.box [pL [hI]])]⟩)
theorem bBN:LpG T P151_l0 (aTq N (R:=R)) [1,9,10,11] aNh:=lpk (aWK N) 26
def bHR:LpS R:=aCc noL 26 (aAx P151_l0 (aTq N N))
def aEW (a0 a1:List Int)(k0:zk1 (List Int->Option R)):Option R:=(aCT N k0 (fun z7=>(k0 0 0 z7)) N a0 ((a0.length:Nat):Int) 0 a1)
def bSQ:CfS R:=u2 (bS3 N) 260 ⟨[pL [hI],.fn 261 [.ptr 0 0]],[(0,.box [pL [hI]])]⟩ (aEW N) fun f k=>f (qA k [0] ⟨[pI,pI],[(0,.box [pL [hI]])]⟩)
theorem bF4:FOK (bSQ N:CfS R) (aAo T):=uCk (aWK N) bJ3 (Lp:=(bHR N)) (hl:=(aAi (l:=[(26,[1,9,10,11],aNh)]) (by kernel_rfl) ⟨(aAf (bBN N N)),trivial⟩))
def aGB (N:Nat)(a0 a1:Int)(a2:List Int)(a3:Int)(a4 a5:List Int)(k0:Int->Option R):Option R:=((at? a5 0).bind fun x1=>((at? a5 1).bind fun x2=>(bif decide ((min x2 a1)<0)then none else (k0 (aLT .i64 x1 (min x2 a1))))))
def bQB:CfS R:=u1 (bSQ N) 326 ⟨[.agg zb8,pL [hI],pL [hI]],[]⟩ ⟨[pI],[]⟩ (aGB N)
theorem bDk:FOK (bQB N:CfS R) (aAo T):=uCk (bF4 N) bNh
def aDP (N:Nat)(a0 a1:Int)(k0:Int->Option R):Option R:=(bif decide (a1<0)then none else (k0 (bLe .i64 a0 (w64 ((aPi .i64 1 a1)-1)))))
def bQP:CfS R:=u1 (bQB N) 302 ⟨[pI,pI],[]⟩ ⟨[pI],[]⟩ (aDP N)
theorem bFd:FOK (bQP N:CfS R) (aAo T):=uCk (bDk N) bPb
def aGC (a0 a1:Int)(a2:List Int)(a3:Int)(a4 a5:List Int)(k0:Int->Option R):Option R:=((at? a5 0).bind fun x1=>((at? a5 1).bind fun x2=>(bif decide ((min x2 a1)<0)then none else (aDP N (aPi .i64 x1 (min x2 a1)) a1 k0))))
def bTg:CfS R:=u1 (bQP N) 325 ⟨[.agg zb8,pL [hI],pL [hI]],[]⟩ ⟨[pI],[]⟩ (aGC N)
theorem bCM:FOK (bTg N:CfS R) (aAo T):=uCk (bFd N) bPl
def aHj (N:Nat)(a0 a1:Int)(k0:Int->Option R):Option R:=(bif decide ((w64 (a1-1))<0)then none else (bif decide ((bLe .i64 (aLT .i64 a0 (w64 (a1-1))) 1)=1)then (bif decide (a1<0)then none else (k0 (w64 (a0-(aPi .i64 1 a1)))))else (k0 a0)))
def bRX:CfS R:=u1 (bTg N) 314 ⟨[pI,pI],[]⟩ ⟨[pI],[]⟩ (aHj N)
theorem bFN:FOK (bRX N:CfS R) (aAo T):=uCk (bCM N) bM2
def aGE (a0 a1:Int)(a2:List Int)(a3:Int)(a4 a5:List Int)(k0:Int->Option R):Option R:=((at? a5 0).bind fun x1=>((at? a4 0).bind fun x2=>(aHj N x1 x2 (fun y3=>(aDP N y3 a1 k0)))))
def bQE:CfS R:=u1 (bRX N) 323 ⟨[.agg zb8,pL [hI],pL [hI]],[]⟩ ⟨[pI],[]⟩ (aGE N)
theorem bEc:FOK (bQE N:CfS R) (aAo T):=uCk (bFN N) bPe
def aGv (N:Nat)(a0 a1:Int)(a2:List Int)(a3:Int)(a4 a5:List Int)(k0:Int->Option R):Option R:=((at? a5 0).bind fun x1=>(k0 x1))
def bSr:CfS R:=u1 (bQE N) 322 ⟨[.agg zb8,pL [hI],pL [hI]],[]⟩ ⟨[pI],[]⟩ (aGv N)
theorem bDC:FOK (bSr N:CfS R) (aAo T):=uCk (bEc N) bPY
def aGw (a0 a1:Int)(a2:List Int)(a3:Int)(a4 a5:List Int)(k0:Int->Option R):Option R:=((at? a5 0).bind fun x1=>(bif decide (a3<0)then none else (aDP N (aLT .i64 x1 a3) a1 k0)))
def bRN:CfS R:=u1 (bSr N) 320 ⟨[.agg zb8,pL [hI],pL [hI]],[]⟩ ⟨[pI],[]⟩ (aGw N)
theorem bFO:FOK (bRN N:CfS R) (aAo T):=uCk (bDC N) bML
def aGu (N:Nat)(a0 a1:Int)(a2:List Int)(a3:Int)(a4 a5:List Int)(k0:Int->Option R):Option R:=((at? a5 0).bind fun x1=>((at? a4 1).bind fun x2=>(bif decide (x2<0)then none else ((at? a5 1).bind fun x3=>(k0 (orI .i64 (aPi .i64 x1 x2) x3))))))
def bRo:CfS R:=u1 (bRN N) 318 ⟨[.agg zb8,pL [hI],pL [hI]],[]⟩ ⟨[pI],[]⟩ (aGu N)
theorem bBu:FOK (bRo N:CfS R) (aAo T):=uCk (bFO N) bQg
def aGx (N:Nat)(a0 a1:Int)(a2:List Int)(a3:Int)(a4 a5:List Int)(k0:Int->Option R):Option R:=((at? a5 0).bind fun x1=>(bif decide (x1=1)then ((at? a5 1).bind fun x2=>(k0 x2))else ((at? a5 2).bind fun x3=>(k0 x3))))
def bRT:CfS R:=u1 (bRo N) 316 ⟨[.agg zb8,pL [hI],pL [hI]],[]⟩ ⟨[pI],[]⟩ (aGx N)
theorem bBU:FOK (bRT N:CfS R) (aAo T):=uCk (bBu N) bL9
def aGy (a0 a1 a2:Int)(k0:Bool->Option R):Option R:=(aHj N a0 a2 (fun y1=>(aHj N a1 a2 (fun y2=>(k0 (decide (y1<y2)))))))
def bQo:CfS R:=u1 (bRT N) 313 ⟨[pI,pI,pI],[]⟩ ⟨[pB],[]⟩ (aGy N)
theorem bBC:FOK (bQo N:CfS R) (aAo T):=uCk (bBU N) bMi
def aHK (N:Nat)(a0:Bool)(k0:Int->Option R):Option R:=(bif a0 then (k0 1)else (k0 0))
def bQs:CfS R:=u1 (bQo N) 343 ⟨[pB],[]⟩ ⟨[pI],[]⟩ (aHK N)
theorem bGh:FOK (bQs N:CfS R) (aAo T):=uCk (bBC N) bNy
def aDB (a0 a1:Int)(a2:List Int)(a3:Int)(a4 a5:List Int)(k0:Int->Option R):Option R:=((at? a5 0).bind fun x1=>((at? a5 1).bind fun x2=>((at? a4 0).bind fun x3=>(aGy N x1 x2 x3 (fun y4=>(aHK N y4 k0))))))
def bST:CfS R:=u1 (bQs N) 342 ⟨[.agg zb8,pL [hI],pL [hI],.p (.cp [.fn 313 []])],[]⟩ ⟨[pI],[]⟩ (aDB N)
theorem bFi:FOK (bST N:CfS R) (aAo T):=uCk (bGh N) bJ2
def aGz (N:Nat)(a0 a1 a2:Int)(k0:Bool->Option R):Option R:=(k0 (decide (a0<a1)))
def bRJ:CfS R:=u1 (bST N) 312 ⟨[pI,pI,pI],[]⟩ ⟨[pB],[]⟩ (aGz N)
theorem bEY:FOK (bRJ N:CfS R) (aAo T):=uCk (bFi N) bOm
def aDA (a0 a1:Int)(a2:List Int)(a3:Int)(a4 a5:List Int)(k0:Int->Option R):Option R:=((at? a5 0).bind fun x1=>((at? a5 1).bind fun x2=>((at? a4 0).bind fun x3=>(aGz N x1 x2 x3 (fun y4=>(aHK N y4 k0))))))
def bTd:CfS R:=u1 (bRJ N) 342 ⟨[.agg zb8,pL [hI],pL [hI],.p (.cp [.fn 312 []])],[]⟩ ⟨[pI],[]⟩ (aDA N)
theorem bFh:FOK (bTd N:CfS R) (aAo T):=uCk (bEY N) bJ2
def aGW (N:Nat)(a0 a1 a2:Int)(k0:Bool->Option R):Option R:=(k0 (decide (a0=a1)))
def bQq:CfS R:=u1 (bTd N) 311 ⟨[pI,pI,pI],[]⟩ ⟨[pB],[]⟩ (aGW N)
theorem bDG:FOK (bQq N:CfS R) (aAo T):=uCk (bFh N) bMq
def aDM (a0 a1:Int)(a2:List Int)(a3:Int)(a4 a5:List Int)(k0:Int->Option R):Option R:=((at? a5 0).bind fun x1=>((at? a5 1).bind fun x2=>((at? a4 0).bind fun x3=>(aGW N x1 x2 x3 (fun y4=>(aHK N y4 k0))))))
def bQD:CfS R:=u1 (bQq N) 342 ⟨[.agg zb8,pL [hI],pL [hI],.p (.cp [.fn 311 []])],[]⟩ ⟨[pI],[]⟩ (aDM N)
theorem bDP:FOK (bQD N:CfS R) (aAo T):=uCk (bDG N) bJ2
def aGS (N:Nat)(a0 a1:Int)(k0:Int->Option R):Option R:=(k0 (w64 (a0*a1)))
def bTv:CfS R:=u1 (bQD N) 309 ⟨[pI,pI],[]⟩ ⟨[pI],[]⟩ (aGS N)
theorem bFq:FOK (bTv N:CfS R) (aAo T):=uCk (bDP N) bNI
def aD6 (a0 a1:Int)(a2:List Int)(a3:Int)(a4 a5:List Int)(k0:Int->Option R):Option R:=((at? a5 0).bind fun x1=>((at? a5 1).bind fun x2=>(aGS N x1 x2 (fun y3=>(aDP N y3 a1 k0)))))
def bRw:CfS R:=u1 (bTv N) 340 ⟨[.agg zb8,pL [hI],pL [hI],.p (.cp [.fn 309 []])],[]⟩ ⟨[pI],[]⟩ (aD6 N)
theorem bEn:FOK (bRw N:CfS R) (aAo T):=uCk (bFq N) bAV
def aGU (N:Nat)(a0 a1:Int)(k0:Int->Option R):Option R:=(k0 (w64 (a0-a1)))
def bRc:CfS R:=u1 (bRw N) 308 ⟨[pI,pI],[]⟩ ⟨[pI],[]⟩ (aGU N)
theorem bFe:FOK (bRc N:CfS R) (aAo T):=uCk (bEn N) bP9
def aD7 (a0 a1:Int)(a2:List Int)(a3:Int)(a4 a5:List Int)(k0:Int->Option R):Option R:=((at? a5 0).bind fun x1=>((at? a5 1).bind fun x2=>(aGU N x1 x2 (fun y3=>(aDP N y3 a1 k0)))))
def bSZ:CfS R:=u1 (bRc N) 340 ⟨[.agg zb8,pL [hI],pL [hI],.p (.cp [.fn 308 []])],[]⟩ ⟨[pI],[]⟩ (aD7 N)
theorem bDq:FOK (bSZ N:CfS R) (aAo T):=uCk (bFe N) bAV
def aGN (N:Nat)(a0 a1:Int)(k0:Int->Option R):Option R:=(k0 (w64 (a0+a1)))
def bR9:CfS R:=u1 (bSZ N) 307 ⟨[pI,pI],[]⟩ ⟨[pI],[]⟩ (aGN N)
theorem bFu:FOK (bR9 N:CfS R) (aAo T):=uCk (bDq N) bOt
def aEb (a0 a1:Int)(a2:List Int)(a3:Int)(a4 a5:List Int)(k0:Int->Option R):Option R:=((at? a5 0).bind fun x1=>((at? a5 1).bind fun x2=>(aGN N x1 x2 (fun y3=>(aDP N y3 a1 k0)))))
def bTc:CfS R:=u1 (bR9 N) 340 ⟨[.agg zb8,pL [hI],pL [hI],.p (.cp [.fn 307 []])],[]⟩ ⟨[pI],[]⟩ (aEb N)
theorem bFW:FOK (bTc N:CfS R) (aAo T):=uCk (bFu N) bAV
def aG8 (N:Nat)(a0 a1:Int)(k0:Int->Option R):Option R:=(k0 (bQA .i64 a0 a1))
def bRB:CfS R:=u1 (bTc N) 306 ⟨[pI,pI],[]⟩ ⟨[pI],[]⟩ (aG8 N)
theorem bB2:FOK (bRB N:CfS R) (aAo T):=uCk (bFW N) bOS
def aD9 (a0 a1:Int)(a2:List Int)(a3:Int)(a4 a5:List Int)(k0:Int->Option R):Option R:=((at? a5 0).bind fun x1=>((at? a5 1).bind fun x2=>(aG8 N x1 x2 (fun y3=>(aDP N y3 a1 k0)))))
def bQ2:CfS R:=u1 (bRB N) 340 ⟨[.agg zb8,pL [hI],pL [hI],.p (.cp [.fn 306 []])],[]⟩ ⟨[pI],[]⟩ (aD9 N)
theorem bBT:FOK (bQ2 N:CfS R) (aAo T):=uCk (bB2 N) bAV
def aGV (N:Nat)(a0 a1:Int)(k0:Int->Option R):Option R:=(k0 (orI .i64 a0 a1))
def bSH:CfS R:=u1 (bQ2 N) 305 ⟨[pI,pI],[]⟩ ⟨[pI],[]⟩ (aGV N)
theorem bFZ:FOK (bSH N:CfS R) (aAo T):=uCk (bBT N) bPI
def aEd (a0 a1:Int)(a2:List Int)(a3:Int)(a4 a5:List Int)(k0:Int->Option R):Option R:=((at? a5 0).bind fun x1=>((at? a5 1).bind fun x2=>(aGV N x1 x2 (fun y3=>(aDP N y3 a1 k0)))))
def bQC:CfS R:=u1 (bSH N) 340 ⟨[.agg zb8,pL [hI],pL [hI],.p (.cp [.fn 305 []])],[]⟩ ⟨[pI],[]⟩ (aEd N)
theorem bD7:FOK (bQC N:CfS R) (aAo T):=uCk (bFZ N) bAV
def aHd (N:Nat)(a0 a1:Int)(k0:Int->Option R):Option R:=(k0 (bLe .i64 a0 a1))
def bS5:CfS R:=u1 (bQC N) 304 ⟨[pI,pI],[]⟩ ⟨[pI],[]⟩ (aHd N)
theorem bC3:FOK (bS5 N:CfS R) (aAo T):=uCk (bD7 N) bNw
def aEa (a0 a1:Int)(a2:List Int)(a3:Int)(a4 a5:List Int)(k0:Int->Option R):Option R:=((at? a5 0).bind fun x1=>((at? a5 1).bind fun x2=>(aHd N x1 x2 (fun y3=>(aDP N y3 a1 k0)))))
def bS6:CfS R:=u1 (bS5 N) 340 ⟨[.agg zb8,pL [hI],pL [hI],.p (.cp [.fn 304 []])],[]⟩ ⟨[pI],[]⟩ (aEa N)
theorem bFl:FOK (bS6 N:CfS R) (aAo T):=uCk (bC3 N) bAV
def aGM (a0 a1:Int)(a2:List Int)(a3:Int)(a4 a5:List Int)(k0:Int->Option R):Option R:=((at? a5 0).bind fun x1=>(aDP N (bQN .i64 x1) a1 k0))
def bQu:CfS R:=u1 (bS6 N) 301 ⟨[.agg zb8,pL [hI],pL [hI]],[]⟩ ⟨[pI],[]⟩ (aGM N)
theorem bFk:FOK (bQu N:CfS R) (aAo T):=uCk (bFl N) bOw
def aFk (N:Nat)(a0 a1:Int)(a2:List Int)(a3:Int)(a4 a5:List Int)(k0:Int->Option R):Option R:=(k0 a3)
def bSk:CfS R:=u1 (bQu N) 298 ⟨[.agg zb8,pL [hI],pL [hI]],[]⟩ ⟨[pI],[]⟩ (aFk N)
theorem aSW:FOK (bSk N:CfS R) (aAo T):=uCk (bFk N) bMw
def bRg:Nat->Option (List Sh):=fun n=>if n=19000 then some [hI]else if n=26000 then some [hI]else none
def aGs (N:Nat)(k0:zk1 (zk4 (zk3 (Option R)))):Nat->zt2->zk3 (zk1 (zk1 (zk4 (zk3 (Option R)))))
 | 0,_,_,_,_,_,_,_,_,_,_,_=>none
 | n+1,b0,b1,b2,b3,b4,b5,b6,b7,b8,b9,b10=>(bif decide (b4<b3)then ((at? b2 b4).bind fun x1=>((at? b0 x1).bind fun x2=>(bif aBU (b9.length+1) 8 then ((at? b1 x1).bind fun x3=>(bif aBU (b10.length+1) 8 then (aGs N k0 n b0 b1 b2 b3 (w64 (b4+1)) b5 b6 b7 b8 (b9++[x2.2.1]) (b10++[x3]))else none))else none)))else (k0 b5 b6 b7 b8 b9 b10))
def P182_l0:SP:=⟨[(0,.p (.cp [.ks (ByteArray.mk #[99,111,110,115,116]),.ki .i64 0,.kb true,.fn 299 [],.fn 298 [],.ks (ByteArray.mk #[108,101,97,102]),.ki .i64 0,.kb true,.fn 299 [],.fn 298 [],.ks (ByteArray.mk #[110,111,116]),.ki .i64 1,.kb false,.fn 300 [],.fn 301 [],.ks (ByteArray.mk #[97,110,100]),.ki .i64 2,.kb false,.fn 300 [],.fn 340 [.cp [.fn 304 []]],.ks (ByteArray.mk #[111,114]),.ki .i64 2,.kb false,.fn 300 [],.fn 340 [.cp [.fn 305 []]],.ks (ByteArray.mk #[120,111,114]),.ki .i64 2,.kb false,.fn 300 [],.fn 340 [.cp [.fn 306 []]],.ks (ByteArray.mk #[97,100,100]),.ki .i64 2,.kb false,.fn 300 [],.fn 340 [.cp [.fn 307 []]],.ks (ByteArray.mk #[115,117,98]),.ki .i64 2,.kb false,.fn 300 [],.fn 340 [.cp [.fn 308 []]],.ks (ByteArray.mk #[109,117,108]),.ki .i64 2,.kb false,.fn 300 [],.fn 340 [.cp [.fn 309 []]],.ks (ByteArray.mk #[101,113]),.ki .i64 2,.kb false,.fn 341 [],.fn 342 [.cp [.fn 311 []]],.ks (ByteArray.mk #[108,116]),.ki .i64 2,.kb false,.fn 341 [],.fn 342 [.cp [.fn 312 []]],.ks (ByteArray.mk #[115,108,116]),.ki .i64 2,.kb false,.fn 341 [],.fn 342 [.cp [.fn 313 []]],.ks (ByteArray.mk #[109,117,120]),.ki .i64 3,.kb false,.fn 315 [],.fn 316 [],.ks (ByteArray.mk #[106,111,105,110]),.ki .i64 2,.kb false,.fn 317 [],.fn 318 [],.ks (ByteArray.mk #[115,108,105,99,101]),.ki .i64 1,.kb true,.fn 319 [],.fn 320 [],.ks (ByteArray.mk #[122,101,120,116]),.ki .i64 1,.kb false,.fn 321 [],.fn 322 [],.ks (ByteArray.mk #[115,101,120,116]),.ki .i64 1,.kb false,.fn 321 [],.fn 323 [],.ks (ByteArray.mk #[115,104,108]),.ki .i64 2,.kb false,.fn 324 [],.fn 325 [],.ks (ByteArray.mk #[115,104,114]),.ki .i64 2,.kb false,.fn 324 [],.fn 326 []])),(1,pL zs1),(3,pL [hI]),(6,.ptr 0 0),(9,.own 1),(10,.own 2),(14,pL [hI]),(15,pI),(16,pI)],[(0,.box zb8),(1,.arr [hI]),(2,.arr [hI])]⟩
def aWr (n:Nat)(x:P182_l0.den)(k:KS R):Option R:=aGs N (fun r0 r1 r2 r3 r4 r5=>k (.ex 0) ⟨[(0,.p (.cp [.s (ByteArray.mk #[99,111,110,115,116]),.i .i64 0,.b true,.fn 299 [],.fn 298 [],.s (ByteArray.mk #[108,101,97,102]),.i .i64 0,.b true,.fn 299 [],.fn 298 [],.s (ByteArray.mk #[110,111,116]),.i .i64 1,.b false,.fn 300 [],.fn 301 [],.s (ByteArray.mk #[97,110,100]),.i .i64 2,.b false,.fn 300 [],.fn 340 [.cp [.fn 304 []]],.s (ByteArray.mk #[111,114]),.i .i64 2,.b false,.fn 300 [],.fn 340 [.cp [.fn 305 []]],.s (ByteArray.mk #[120,111,114]),.i .i64 2,.b false,.fn 300 [],.fn 340 [.cp [.fn 306 []]],.s (ByteArray.mk #[97,100,100]),.i .i64 2,.b false,.fn 300 [],.fn 340 [.cp [.fn 307 []]],.s (ByteArray.mk #[115,117,98]),.i .i64 2,.b false,.fn 300 [],.fn 340 [.cp [.fn 308 []]],.s (ByteArray.mk #[109,117,108]),.i .i64 2,.b false,.fn 300 [],.fn 340 [.cp [.fn 309 []]],.s (ByteArray.mk #[101,113]),.i .i64 2,.b false,.fn 341 [],.fn 342 [.cp [.fn 311 []]],.s (ByteArray.mk #[108,116]),.i .i64 2,.b false,.fn 341 [],.fn 342 [.cp [.fn 312 []]],.s (ByteArray.mk #[115,108,116]),.i .i64 2,.b false,.fn 341 [],.fn 342 [.cp [.fn 313 []]],.s (ByteArray.mk #[109,117,120]),.i .i64 3,.b false,.fn 315 [],.fn 316 [],.s (ByteArray.mk #[106,111,105,110]),.i .i64 2,.b false,.fn 317 [],.fn 318 [],.s (ByteArray.mk #[115,108,105,99,101]),.i .i64 1,.b true,.fn 319 [],.fn 320 [],.s (ByteArray.mk #[122,101,120,116]),.i .i64 1,.b false,.fn 321 [],.fn 322 [],.s (ByteArray.mk #[115,101,120,116]),.i .i64 1,.b false,.fn 321 [],.fn 323 [],.s (ByteArray.mk #[115,104,108]),.i .i64 2,.b false,.fn 324 [],.fn 325 [],.s (ByteArray.mk #[115,104,114]),.i .i64 2,.b false,.fn 324 [],.fn 326 []])),(6,.ptr 0 0),(9,.own 1),(10,.own 2)],[(0,.box [dI r0,dI r1,dL [hI] r2,dI r3]),(1,.arr (.t [hI] r4)),(2,.arr (.t [hI] r5))]⟩) n x.1.2.1 x.1.2.2.1 x.1.2.2.2.2.2.2.1 x.1.2.2.2.2.2.2.2.1 x.1.2.2.2.2.2.2.2.2.1 x.2.1.1 x.2.1.2.1 x.2.1.2.2.1 x.2.1.2.2.2.1 x.2.2.1 x.2.2.2.1
theorem bBF:LpG T P182_l0 (aWr N (R:=R)) [0,1,3,6,9,10,14,15,16] aUW:=lpk (aSW N) 58 (H:=bRg)
def bHS:LpS R:=aCc noL 58 (aAx P182_l0 (aWr N N))
def aJA (a0:zt2)(a1 a2:Int)(a3:List Int)(a4:Int)(a5:List Int)(k0:Int->Option R):Option R:=(aGs N (fun z4 z5 z6 z7 z8 z9=>(bif decide (z4=18)then (aGB N z4 z5 z6 z7 z8 z9 k0)else (bif decide (z4=17)then (aGC N z4 z5 z6 z7 z8 z9 k0)else (bif decide (z4=16)then (aGE N z4 z5 z6 z7 z8 z9 k0)else (bif decide (z4=15)then (aGv N z4 z5 z6 z7 z8 z9 k0)else (bif decide (z4=14)then (aGw N z4 z5 z6 z7 z8 z9 k0)else (bif decide (z4=13)then (aGu N z4 z5 z6 z7 z8 z9 k0)else (bif decide (z4=12)then (aGx N z4 z5 z6 z7 z8 z9 k0)else (bif decide (z4=11)then (aDB N z4 z5 z6 z7 z8 z9 k0)else (bif decide (z4=10)then (aDA N z4 z5 z6 z7 z8 z9 k0)else (bif decide (z4=9)then (aDM N z4 z5 z6 z7 z8 z9 k0)else (bif decide (z4=8)then (aD6 N z4 z5 z6 z7 z8 z9 k0)else (bif decide (z4=7)then (aD7 N z4 z5 z6 z7 z8 z9 k0)else (bif decide (z4=6)then (aEb N z4 z5 z6 z7 z8 z9 k0)else (bif decide (z4=5)then (aD9 N z4 z5 z6 z7 z8 z9 k0)else (bif decide (z4=4)then (aEd N z4 z5 z6 z7 z8 z9 k0)else (bif decide (z4=3)then (aEa N z4 z5 z6 z7 z8 z9 k0)else (bif decide (z4=2)then (aGM N z4 z5 z6 z7 z8 z9 k0)else (bif decide (z4=1)then (aFk N z4 z5 z6 z7 z8 z9 k0)else (bif decide (z4=0)then (aFk N z4 z5 z6 z7 z8 z9 k0)else none)))))))))))))))))))) N a0 a5 a3 ((a3.length:Nat):Int) 0 a1 a2 a3 a4 [] [])
def P182:AP:=⟨[.p (.cp [.ks (ByteArray.mk #[99,111,110,115,116]),.ki .i64 0,.kb true,.fn 299 [],.fn 298 [],.ks (ByteArray.mk #[108,101,97,102]),.ki .i64 0,.kb true,.fn 299 [],.fn 298 [],.ks (ByteArray.mk #[110,111,116]),.ki .i64 1,.kb false,.fn 300 [],.fn 301 [],.ks (ByteArray.mk #[97,110,100]),.ki .i64 2,.kb false,.fn 300 [],.fn 340 [.cp [.fn 304 []]],.ks (ByteArray.mk #[111,114]),.ki .i64 2,.kb false,.fn 300 [],.fn 340 [.cp [.fn 305 []]],.ks (ByteArray.mk #[120,111,114]),.ki .i64 2,.kb false,.fn 300 [],.fn 340 [.cp [.fn 306 []]],.ks (ByteArray.mk #[97,100,100]),.ki .i64 2,.kb false,.fn 300 [],.fn 340 [.cp [.fn 307 []]],.ks (ByteArray.mk #[115,117,98]),.ki .i64 2,.kb false,.fn 300 [],.fn 340 [.cp [.fn 308 []]],.ks (ByteArray.mk #[109,117,108]),.ki .i64 2,.kb false,.fn 300 [],.fn 340 [.cp [.fn 309 []]],.ks (ByteArray.mk #[101,113]),.ki .i64 2,.kb false,.fn 341 [],.fn 342 [.cp [.fn 311 []]],.ks (ByteArray.mk #[108,116]),.ki .i64 2,.kb false,.fn 341 [],.fn 342 [.cp [.fn 312 []]],.ks (ByteArray.mk #[115,108,116]),.ki .i64 2,.kb false,.fn 341 [],.fn 342 [.cp [.fn 313 []]],.ks (ByteArray.mk #[109,117,120]),.ki .i64 3,.kb false,.fn 315 [],.fn 316 [],.ks (ByteArray.mk #[106,111,105,110]),.ki .i64 2,.kb false,.fn 317 [],.fn 318 [],.ks (ByteArray.mk #[115,108,105,99,101]),.ki .i64 1,.kb true,.fn 319 [],.fn 320 [],.ks (ByteArray.mk #[122,101,120,116]),.ki .i64 1,.kb false,.fn 321 [],.fn 322 [],.ks (ByteArray.mk #[115,101,120,116]),.ki .i64 1,.kb false,.fn 321 [],.fn 323 [],.ks (ByteArray.mk #[115,104,108]),.ki .i64 2,.kb false,.fn 324 [],.fn 325 [],.ks (ByteArray.mk #[115,104,114]),.ki .i64 2,.kb false,.fn 324 [],.fn 326 []]),pL zs1,.agg zb8,pL [hI]],[]⟩
def bVO (x:P182.den)(k:KK R):Option R:=aJA N x.1.2.1 x.1.2.2.1.1 x.1.2.2.1.2.1 x.1.2.2.1.2.2.1 x.1.2.2.1.2.2.2.1 x.1.2.2.2.1 (fun r0=>k [] [dI r0] [])
def bQL:CfS R:=uC (bSk N) 293 P182 (bVO N)
theorem aVp:FOK (bQL N:CfS R) (aAo T):=uCk (aSW N) bK7 (H:=bRg) (Lp:=(bHS N)) (hl:=(aAi (l:=[(58,[0,1,3,6,9,10,14,15,16],aUW)]) (by kernel_rfl) ⟨(aAf (bBF N N)),trivial⟩))
def bSO:Nat->Option (List Sh):=fun n=>if n=23000 then some [hI]else if n=33000 then some [hI]else none
def aFC (k0:List Int->Option R):Nat->zt2->List Int->zt2->zk1 (List Int->Option R)
 | 0,_,_,_,_,_,_=>none
 | n+1,b0,b1,b2,b3,b4,b5=>(bif decide (b4<b3)then ((at? b2 b4).bind fun x1=>(bif decide (x1.1=1)then ((at? b1 x1.2.2.2).bind fun x2=>(bif aBU (b5.length+1) 8 then (aFC k0 n b0 b1 b2 b3 (w64 (b4+1)) (b5++[x2]))else none))else (aJA N b0 x1.1 x1.2.1 x1.2.2.1 x1.2.2.2 b5 (fun y3=>(bif aBU (b5.length+1) 8 then (aFC k0 n b0 b1 b2 b3 (w64 (b4+1)) (b5++[y3]))else none)))))else (k0 b5))
def P183_l0:SP:=⟨[(0,pL zs1),(1,pL [hI]),(5,.ptr 0 0),(6,.own 1),(11,pL zs1),(12,pI),(13,pI)],[(0,.box zb0),(1,.arr [hI])]⟩
def aVO (n:Nat)(x:P183_l0.den)(k:KS R):Option R:=aFC N (fun r0=>k (.ex 0) ⟨[(6,.own 0)],[(0,.arr (.t [hI] r0))]⟩) n x.1.1 x.1.2.1 x.1.2.2.2.2.1 x.1.2.2.2.2.2.1 x.1.2.2.2.2.2.2.1 x.2.2.1
theorem bE8:LpG T P183_l0 (aVO N (R:=R)) [0,1,5,6,11,12,13] aSZ:=lpk (aVp N) 122 (H:=bSO)
def bJI:LpS R:=aCc noL 122 (aAx P183_l0 (aVO N N))
def aKm (a0:zt2)(a1:List Int)(k0:List Int->Option R):Option R:=(aFg N (aFC N k0 N a0 a1 a0 ((a0.length:Nat):Int) 0 []))
def bRI:CfS R:=u1 (bQL N) 263 ⟨[pL zs1,pL [hI]],[]⟩ ⟨[pL [hI]],[]⟩ (aKm N)
theorem bGk:FOK (bRI N:CfS R) (aAo T):=uCk (aVp N) bK6 (H:=bSO) (Lp:=(bJI N)) (hl:=(aAi (l:=[(122,[0,1,5,6,11,12,13],aSZ)]) (by kernel_rfl) ⟨(aAf (bE8 N N)),trivial⟩))
def bWU:Nat->Option (List Sh):=fun n=>if n=13000 then some [hI]else none
def aIv (a0:List Int)(a1:zt2)(a2:List Int)(k0:zk4 (Option R)):Option R:=(aGa N a0 a1 (fun y1=>(aAy N (decide (((a2.length:Nat):Int)=((a0.length:Nat):Int))) 10 (fun y2=>(aC8 N [y1,y2] (fun y3=>(bif decide (y3≠0)then (k0 [] y3)else (aEW N a2 a0 (fun y4 y5 y6=>(bif decide (y5≠0)then (k0 [] y5)else (aKm N a1 a2 (fun y7=>(k0 y7 0)))))))))))))
def bSI:CfS R:=u1 (bRI N) 205 ⟨[pL [hI],pL zs1,pL [hI]],[]⟩ ⟨[pL [hI],pI],[]⟩ (aIv N)
theorem bGc:FOK (bSI N:CfS R) (aAo T):=uCk (bGk N) bPX (H:=bWU) (rp:=[⟨[pL [hI],pI],[]⟩])
def bWn:Nat->Option (List Sh):=fun n=>if n=11000 then some [.sl [hI]]else none
def aGh (a0:ByteArray)(a1:zt7)(a2:zt1)(a3:zt2)(a4:zt0)(a5:zt7)(a6:zt6)(a7 a8:List Int)(k0:List Int->Option R):Option R:=(aFI N a0 a1 a2 a3 a4 a5 a6 (fun y1=>(aFE N [a7,a8] (fun y2=>(aIv N y1 a3 y2 (fun y3 y4=>(k0 y3)))))))
def bTp:CfS R:=u1 (bSI N) 150 ⟨[.agg zb2,pL [hI],pL [hI]],[]⟩ ⟨[pL [hI]],[]⟩ (aGh N)
theorem bB6:FOK (bTp N:CfS R) (aAo T):=uCk (bGc N) bN1 (H:=bWn)
def aFm (N:Nat)(a0:ByteArray)(a1:zt7)(a2:zt1)(a3:zt2)(a4:zt0)(a5:zt7)(a6:zt6)(a7:Int)(a8:List Int)(k0:Bool->Option R):Option R:=((at? a4 a7).bind fun x1=>((at? a8 x1.2.1).bind fun x2=>(k0 (decide (x2=1)))))
def bSh:CfS R:=u1 (bTp N) 151 ⟨[.agg zb2,pI,pL [hI]],[]⟩ ⟨[pB],[]⟩ (aFm N)
theorem aUs:FOK (bSh N:CfS R) (aAo T):=uCk (bB6 N) bMZ
def aCu (N:Nat)(k0:List Int->Option R):zk5 (zt8->zk1 (List Int->Option R))
 | 0,_,_,_,_,_=>none
 | n+1,b0,b1,b2,b3,b4=>(bif decide (b3<b2)then ((at? b1 b3).bind fun x1=>((at? b0 x1.2.1).bind fun x2=>(bif decide (x2=1)then ((at? b0 x1.2.2).bind fun x3=>(bif inR x1.1 b4.length then ((b4[x1.1.toNat]?).bind fun x4=>(aCu N k0 n b0 b1 b2 (w64 (b3+1)) (List.set b4 x1.1.toNat x3)))else none))else (aCu N k0 n b0 b1 b2 (w64 (b3+1)) b4))))else (k0 b4))
def P187_l0:SP:=⟨[(2,pL [hI]),(9,.own 0),(20,pL zs5),(21,pI),(22,pI)],[(0,.arr [hI])]⟩
def aT3:Nat->P187_l0.den->KS R->Option R:=eS P187_l0 fun k=>aCu N (qS k (.ex 0) ⟨[(9,.own 0)],[(0,.arr [hI])]⟩)
theorem bD5:LpG T P187_l0 (aT3 N (R:=R)) [2,9,20,21,22] aV7:=lpk (aUs N) 58
def bI0:LpS R:=aCc noL 58 (aAx P187_l0 (aT3 N N))
def aFv (a0:ByteArray)(a1:zt7)(a2:zt1)(a3:zt2)(a4:zt0)(a5:zt7)(a6:zt6)(a7:Int)(a8 a9:List Int)(k0:List Int->Option R):Option R:=(bif aBU a9.length 8 then ((at? a4 a7).bind fun x1=>(aCu N k0 N a8 x1.2.2 ((x1.2.2.length:Nat):Int) 0 a9))else none)
def bSx:CfS R:=u1 (bSh N) 152 ⟨[.agg zb2,pI,pL [hI],pL [hI]],[]⟩ ⟨[.own 0],[(0,.arr [hI])]⟩ (aFv N)
theorem aUq:FOK (bSx N:CfS R) (aAo T):=uCk (aUs N) bLP (Lp:=(bI0 N)) (hl:=(aAi (l:=[(58,[2,9,20,21,22],aV7)]) (by kernel_rfl) ⟨(aAf (bD5 N N)),trivial⟩))
def bQw:Nat->List SP:=fun p=>if p=1925 then [⟨[(8,.own 0),(9,pI)],[(0,.arr [hI])]⟩]else if p=7733 then [⟨[(8,.own 0),(9,pI)],[(0,.arr [hI])]⟩]else []
def bRe:Nat->Option (List Sh):=fun n=>if n=23000 then some [hI]else none
def aFz (k0:Int->Option R)(k1:zk9 (Option R))(b0:Int)(b1 b2:List Int)(b3:Int)(b4:ByteArray)(b5:zt7)(b6:zt1)(b7:zt2)(b8:zt0)(b9:zt7)(b10:zt6):Option R:=(bif decide (b3≠0)then (k1 b3 [])else (aGh N b4 b5 b6 b7 b8 b9 b10 b1 b2 (fun y1=>(aFm N b4 b5 b6 b7 b8 b9 b10 b0 y1 (fun y2=>(bif (!y2)then (k1 24 [])else (aFv N b4 b5 b6 b7 b8 b9 b10 b0 y1 b2 (fun y3=>(k1 0 y3)))))))))
def P188_j0:SP:=⟨[(1,pI),(2,pL [hI]),(3,pL [hI]),(10,.ptr 0 0),(11,pI)],[(0,.box zb2)]⟩
def aUK:Nat->P188_j0.den->KS R->Option R:=jS P188_j0 fun k=>aFz N (qS k .ret ⟨[(8,.own 0),(9,pI)],[(0,.em 1)]⟩) (qS k .ret ⟨[(8,.own 0),(9,pI)],[(0,.arr [hI])]⟩)
theorem bFf:LpG T P188_j0 (aUK N (R:=R)) [1,2,3,10,11] aZ0:=lpk (aUq N) 30 (H:=bRe) (X:=bQw)
def bKU:LpS R:=aCc noL 30 (aAx P188_j0 (aUK N 1))
def aH3 (a0:ByteArray)(a1:zt7)(a2:zt1)(a3:zt2)(a4:zt0)(a5:zt7)(a6:zt6)(a7:Int)(a8 a9:List Int)(k0:zk9 (Option R)):Option R:=(aIF N a0 a1 a2 a3 a4 a5 a6 (fun y1 y2 y3 y4 y5 y6 y7 y8=>(bif decide (y8=0)then (aFR N y1 y2 y3 y4 y5 y6 y7 a7 (fun y9=>(aFq N y1 y2 y3 y4 y5 y6 y7 a8 (fun y10=>(aFL N y1 y2 y3 y4 y5 y6 y7 a9 (fun y11=>(aAY N [y9,y10,y11] (fun y12=>(aFz N (fun z13=>(k0 z13 [])) k0 a7 a8 a9 y12 y1 y2 y3 y4 y5 y6 y7)))))))))else (aFz N (fun z16=>(k0 z16 [])) k0 a7 a8 a9 y8 y1 y2 y3 y4 y5 y6 y7))))
def bRE:CfS R:=u1 (bSx N) 71 ⟨[.agg zb2,pI,pL [hI],pL [hI]],[]⟩ ⟨[.own 0,pI],[(0,.arr [hI])]⟩ (aH3 N)
theorem aUI:FOK (bRE N:CfS R) (aAo T):=uCk (aUq N) c71 (H:=bRe) (Lp:=(bKU N)) (X:=bQw) (rp:=[⟨[.own 0,pI],[(0,.arr [hI])]⟩]) (hl:=(aAi (l:=[(30,[1,2,3,10,11],aZ0)]) (by kernel_rfl) ⟨(aAf (bFf N 1)),trivial⟩))
def bS1:Nat->Option (List Sh):=fun n=>if n=53000 then some [hI]else none
def aCH (k0:zk0 (zk3 (Int->zk3 (Option R)))):Nat->zk0 (List Int->zt0->zk1 (Int->zk3 (List Int->Option R)))
 | 0,_,_,_,_,_,_,_,_,_,_,_,_,_,_,_=>none
 | n+1,b0,b1,b2,b3,b4,b5,b6,b7,b8,b9,b10,b11,b12,b13,b14=>(bif decide (b10<b9)then ((at? b8 b10).bind fun x1=>(aDk N b0 b1 b2 b3 b4 b5 b6 b7 x1.1 x1.2.1 x1.2.2 (fun y2=>(bif decide (y2≠b11)then (aCH k0 n b0 b1 b2 b3 b4 b5 b6 b7 b8 b9 (w64 (b10+1)) b11 b12 b13 b14)else (aH3 N b0 b1 b2 b3 b4 b5 b6 b10 b12 b13 (fun y3 y4=>(bif decide (y3=0)then (bif aBU (b14.length+1) 8 then (aCH k0 n b0 b1 b2 b3 b4 b5 b6 b7 b8 b9 (w64 (b10+1)) b11 b12 y4 (b14++[b10]))else none)else (aCH k0 n b0 b1 b2 b3 b4 b5 b6 b7 b8 b9 (w64 (b10+1)) b11 b12 b13 b14))))))))else (k0 b0 b1 b2 b3 b4 b5 b6 b7 b13 b11 b12 b14))
def P189_l0:SP:=⟨[(0,.p (.cp [.s .s,.s (.sl [.s,hI]),.s (.sl [.s,hI,hI,hI,hI]),.s (.sl [hI,hI,.sl [hI],hI]),.s (.sl [.s,hI,.sl [hI,hI,hI]]),.s (.sl [.s,hI]),.s (.sl [hI,.sl [hI]]),.s (.sl [hI])])),(4,.ptr 0 0),(8,.own 1),(9,.fn 180 [.ptr 0 0]),(10,.own 2),(26,pL zs0),(27,pI),(28,pI)],[(0,.box [pI,pL [hI]]),(1,.arr [hI]),(2,.arr [hI])]⟩
def aU4:Nat->P189_l0.den->KS R->Option R:=eS P189_l0 fun k=>aCH N (qS k (.ex 0) ⟨[(0,.p (.cp [.s .s,.s (.sl [.s,hI]),.s (.sl [.s,hI,hI,hI,hI]),.s (.sl [hI,hI,.sl [hI],hI]),.s (.sl [.s,hI,.sl [hI,hI,hI]]),.s (.sl [.s,hI]),.s (.sl [hI,.sl [hI]]),.s (.sl [hI])])),(8,.own 0),(9,.fn 180 [.ptr 1 0]),(10,.own 2)],[(0,.arr [hI]),(1,.box [pI,pL [hI]]),(2,.arr [hI])]⟩)
theorem bF5:LpG T P189_l0 (aU4 N (R:=R)) [0,4,8,9,10,26,27,28] aTa:=lpk (aUI N) 506 (H:=bS1)
def bKn:LpS R:=aCc noL 506 (aAx P189_l0 (aU4 N N))
def aFF (a0:ByteArray)(a1:zt7)(a2:zt1)(a3:zt2)(a4:zt0)(a5:zt7)(a6:zt6)(a7:List Int)(a8:Int)(a9 a10:List Int)(k0:zk3 (Option R)):Option R:=(bif aBU a10.length 8 then (aCg N a0 a1 a2 a3 a4 a5 a6 a7 a10 a8 a9 (fun y1 y2 y3=>(aCH N (fun z5 z6 z7 z8 z9 z10 z11 z12 z13 z14 z15 z16=>(aCg N z5 z6 z7 z8 z9 z10 z11 z12 z13 z14 z15 (fun y17 y18 y19=>(k0 y17 z16)))) N a0 a1 a2 a3 a4 a5 a6 a7 a4 ((a4.length:Nat):Int) 0 y2 y3 y1 [])))else none)
def bTh:CfS R:=u1 (bRE N) 127 ⟨[.p (.cp [.s .s,.s (.sl [.s,hI]),.s (.sl [.s,hI,hI,hI,hI]),.s (.sl [hI,hI,.sl [hI],hI]),.s (.sl [.s,hI,.sl [hI,hI,hI]]),.s (.sl [.s,hI]),.s (.sl [hI,.sl [hI]]),.s (.sl [hI])]),.agg [pI,pL [hI]],pL [hI]],[]⟩ ⟨[pL [hI],pL [hI]],[]⟩ (aFF N)
theorem aWn:FOK (bTh N:CfS R) (aAo T):=uCk (aUI N) bLu (H:=bS1) (Lp:=(bKn N)) (hl:=(aAi (l:=[(506,[0,4,8,9,10,26,27,28],aTa)]) (by kernel_rfl) ⟨(aAf (bF5 N N)),trivial⟩))
def bTo:Nat->Option (List Sh):=fun n=>if n=13000 then some [.sl [hI]]else if n=33000 then some [.sl [hI]]else none
def aDW (k0:List (List Int)->Option R):Nat->zk0 (zk3 (zt6->zk1 (List (List Int)->Option R)))
 | 0,_,_,_,_,_,_,_,_,_,_,_,_,_=>none
 | n+1,b0,b1,b2,b3,b4,b5,b6,b7,b8,b9,b10,b11,b12=>(bif decide (b11<b10)then ((at? b9 b11).bind fun x1=>(aFF N b0 b1 b2 b3 b4 b5 b6 b7 x1.1 x1.2 b8 (fun y2 y3=>(bif aBU (b12.length+1) 24 then (aDW k0 n b0 b1 b2 b3 b4 b5 b6 b7 y2 b9 b10 (w64 (b11+1)) (b12++[y2]))else none))))else (k0 b12))
def P190_l0:SP:=⟨[(0,.p (.cp [.s .s,.s (.sl [.s,hI]),.s (.sl [.s,hI,hI,hI,hI]),.s (.sl [hI,hI,.sl [hI],hI]),.s (.sl [.s,hI,.sl [hI,hI,hI]]),.s (.sl [.s,hI]),.s (.sl [hI,.sl [hI]]),.s (.sl [hI])])),(5,pL [hI]),(7,.own 0),(20,pL zs3),(21,pI),(22,pI)],[(0,.arr zs6)]⟩
def aSC:Nat->P190_l0.den->KS R->Option R:=eS P190_l0 fun k=>aDW N (qS k (.ex 0) ⟨[(7,.own 0)],[(0,.arr zs6)]⟩)
theorem bFV:LpG T P190_l0 (aSC N (R:=R)) [0,5,7,20,21,22] aPY:=lpk (aWn N) 122 (H:=bTo)
def bKZ:LpS R:=aCc noL 122 (aAx P190_l0 (aSC N N))
def aEZ (a0:ByteArray)(a1:zt7)(a2:zt1)(a3:zt2)(a4:zt0)(a5:zt7)(a6:zt6)(a7:List Int)(a8:zt6)(k0:List (List Int)->Option R):Option R:=(aIC N a0 a1 a2 a3 a4 a5 a6 (fun y1 y2=>(aDW N k0 N a0 a1 a2 a3 a4 a5 a6 a7 y1 a8 ((a8.length:Nat):Int) 0 [y1])))
def bSA:CfS R:=u1 (bTh N) 140 ⟨[.p (.cp [.s .s,.s (.sl [.s,hI]),.s (.sl [.s,hI,hI,hI,hI]),.s (.sl [hI,hI,.sl [hI],hI]),.s (.sl [.s,hI,.sl [hI,hI,hI]]),.s (.sl [.s,hI]),.s (.sl [hI,.sl [hI]]),.s (.sl [hI])]),pL zs3],[]⟩ ⟨[pL zs6],[]⟩ (aEZ N)
theorem bCf:FOK (bSA N:CfS R) (aAo T):=uCk (aWn N) bI1 (H:=bTo) (Lp:=(bKZ N)) (hl:=(aAi (l:=[(122,[0,5,7,20,21,22],aPY)]) (by kernel_rfl) ⟨(aAf (bFV N N)),trivial⟩))
def aKg (a0:ByteArray)(a1:zt7)(a2:zt1)(a3:zt2)(a4:zt0)(a5:zt7)(a6 a7:zt6)(k0:List (List Int)->Int->Option R):Option R:=(aDo N a0 a1 a2 a3 a4 a5 a6 (fun y1=>(bif decide (y1≠0)then (k0 [] y1)else (aFN N a7 (fun y2=>(bif decide (y2≠0)then (k0 [] y2)else (aFV N a7)))))) (fun y3 y4 y5 y6 y7 y8 y9 y10 y11=>(bif decide (y11≠0)then (k0 [] y11)else (aE5 N y3 y4 y5 y6 y7 y8 y9 y10 a7 (fun y12=>(bif decide (y12≠0)then (k0 [] y12)else (aEZ N y3 y4 y5 y6 y7 y8 y9 y10 a7 (fun y13=>(k0 y13 0)))))))))
def bTf:CfS R:=u1 (bSA N) 63 ⟨[.agg zb2,pL zs3],[]⟩ ⟨[pL zs6,pI],[]⟩ (aKg N)
theorem bE4:FOK (bTf N:CfS R) (aAo T):=uCk (bCf N) c63 (rp:=[⟨[pL zs6,pI],[]⟩])
def aEe (N:Nat)(a0:Int)(k0:ByteArray->Option R):Option R:=(bif decide (-9223372036854775808<=a0∧a0<=9223372036854775807)then (bif decide (((((ByteArray.mk #[109]).size+(aP6 a0).size:Nat)):Int)>9223372036854775807)then none else (k0 ((ByteArray.mk #[109])++(aP6 a0))))else none)
def bQx:CfS R:=u1 (bTf N) 96 ⟨[pI],[]⟩ ⟨[pS],[]⟩ (aEe N)
theorem bE3:FOK (bQx N:CfS R) (aAo T):=uCk (bE4 N) c96
def aEu (N:Nat)(a0:Int)(a1:ByteArray)(a2:zt7)(a3:zt1)(a4:zt2)(a5:zt0)(a6:Nat)(a7:zt4)(k0:Int->zk2 (bYR (Option R))):Option R:=(bif inR a0 a4.length then ((a4[a0.toNat]?).bind fun x1=>(k0 x1.2.1 a1 a2 a3 a4 a5 a6 a7))else none)
def bR1:CfS R:=u2 (bQx N) 157 ⟨[.ptr 0 0,pI],[(0,.box zb4),(1,.arr zs1),(2,.arr zs0),(3,.em 2),(4,.em 2),(5,.mp .s hI)]⟩ (aEu N) fun f k=>f (qA k [0,5] ⟨[pI],[(0,.box zb4),(1,.arr zs1),(2,.arr zs0),(3,.em 2),(4,.em 2),(5,.mp .s hI)]⟩)
theorem bC9:FOK (bR1 N:CfS R) (aAo T):=uCk (bE3 N) bPk
def bWa:Nat->Option (List Sh):=fun n=>if n=10000 then some [hI,hI,.sl [hI],hI]else none
def aBQ (N:Nat)(a0 a1:Int)(a2:List Int)(a3:Int)(a4:ByteArray)(a5:zt7)(a6:zt1)(a7:zt2)(a8:zt0)(a9:Nat)(a10:zt4)(k0:Int->zk2 (bYR (Option R))):Option R:=(bif aBU (a7.length+1) 48 then (k0 (w64 ((((a7++[(a0,a1,a2,a3)]).length:Nat):Int)-1)) a4 a5 a6 (a7++[(a0,a1,a2,a3)]) a8 a9 a10)else none)
def bTl:CfS R:=u2 (bR1 N) 100 ⟨[.ptr 0 0,.agg zb8],[(0,.box zb4),(1,.arr zs1),(2,.arr zs0),(3,.em 2),(4,.em 2),(5,.mp .s hI)]⟩ (aBQ N) fun f k=>f (qA k [0,5] ⟨[pI],[(0,.box zb4),(1,.arr zs1),(2,.arr zs0),(3,.em 2),(4,.em 2),(5,.mp .s hI)]⟩)
theorem bDn:FOK (bTl N:CfS R) (aAo T):=uCk (bC9 N) bLL (H:=bWa)
def bUl:Nat->Option (List Sh):=fun n=>if n=7000 then some [hI]else none
def aGr (a0:Int)(a1:ByteArray)(a2:zt7)(a3:zt1)(a4:zt2)(a5:zt0)(a6:Nat)(a7:zt4)(k0:Int->zk2 (bYR (Option R))):Option R:=(aEu N a0 a1 a2 a3 a4 a5 a6 a7 (fun y1 y2 y3 y4 y5 y6 y7 y8=>(bif aGH .s hI a6 a7 .s hI y7 y8 then (aBQ N 2 y1 [a0] 0 y2 y3 y4 y5 y6 a6 a7 (fun y9 y10 y11 y12 y13 y14 y15 y16=>(bif aGH .s hI a6 a7 .s hI y15 y16 then (k0 y9 y10 y11 y12 y13 y14 a6 a7)else none)))else none)))
def bRd:CfS R:=u2 (bTl N) 102 ⟨[.ptr 0 0,pI],[(0,.box zb4),(1,.arr zs1),(2,.arr zs0),(3,.em 2),(4,.em 2),(5,.mp .s hI)]⟩ (aGr N) fun f k=>f (qA k [0,5] ⟨[pI],[(0,.box zb4),(1,.arr zs1),(2,.arr zs0),(3,.em 2),(4,.em 2),(5,.mp .s hI)]⟩)
theorem bER:FOK (bRd N:CfS R) (aAo T):=uCk (bDn N) bNP (H:=bUl)
def bWD:Nat->Option (List Sh):=fun n=>if n=9000 then some [hI]else none
def aCU (a0 a1 a2:Int)(a3:ByteArray)(a4:zt7)(a5:zt1)(a6:zt2)(a7:zt0)(a8:Nat)(a9:zt4)(k0:Int->zk2 (bYR (Option R))):Option R:=(aEu N a1 a3 a4 a5 a6 a7 a8 a9 (fun y1 y2 y3 y4 y5 y6 y7 y8=>(bif aGH .s hI a8 a9 .s hI y7 y8 then (aBQ N a0 y1 [a1,a2] 0 y2 y3 y4 y5 y6 a8 a9 (fun y9 y10 y11 y12 y13 y14 y15 y16=>(bif aGH .s hI a8 a9 .s hI y15 y16 then (k0 y9 y10 y11 y12 y13 y14 a8 a9)else none)))else none)))
def bSL:CfS R:=u2 (bRd N) 98 ⟨[.ptr 0 0,pI,pI,pI],[(0,.box zb4),(1,.arr zs1),(2,.arr zs0),(3,.em 2),(4,.em 2),(5,.mp .s hI)]⟩ (aCU N) fun f k=>f (qA k [0,5] ⟨[pI],[(0,.box zb4),(1,.arr zs1),(2,.arr zs0),(3,.em 2),(4,.em 2),(5,.mp .s hI)]⟩)
theorem bCJ:FOK (bSL N:CfS R) (aAo T):=uCk (bER N) c98 (H:=bWD)
def aA9 (a0 a1:Int)(a2:ByteArray)(a3:zt7)(a4:zt1)(a5:zt2)(a6:zt0)(a7:Nat)(a8:zt4)(k0:Int->zk2 (bYR (Option R))):Option R:=(aBQ N 0 a0 [] a1 a2 a3 a4 a5 a6 a7 a8 (fun y1 y2 y3 y4 y5 y6 y7 y8=>(bif aGH .s hI a7 a8 .s hI y7 y8 then (k0 y1 y2 y3 y4 y5 y6 a7 a8)else none)))
def bSa:CfS R:=u2 (bSL N) 76 ⟨[.ptr 0 0,pI,pI],[(0,.box zb4),(1,.arr zs1),(2,.arr zs0),(3,.em 2),(4,.em 2),(5,.mp .s hI)]⟩ (aA9 N) fun f k=>f (qA k [0,5] ⟨[pI],[(0,.box zb4),(1,.arr zs1),(2,.arr zs0),(3,.em 2),(4,.em 2),(5,.mp .s hI)]⟩)
theorem bFB:FOK (bSa N:CfS R) (aAo T):=uCk (bCJ N) c76
def aFT (a0:Int)(a1:ByteArray)(a2:zt7)(a3:zt1)(a4:zt2)(a5:zt0)(a6:Nat)(a7:zt4)(k0:Int->zk2 (bYR (Option R))):Option R:=(aA9 N 1 1 a1 a2 a3 a4 a5 a6 a7 (fun y1 y2 y3 y4 y5 y6 y7 y8=>(bif aGH .s hI a6 a7 .s hI y7 y8 then (aCU N 18 a0 y1 y2 y3 y4 y5 y6 a6 a7 (fun y9 y10 y11 y12 y13 y14 y15 y16=>(bif aGH .s hI a6 a7 .s hI y15 y16 then (aCU N 5 a0 y9 y10 y11 y12 y13 y14 a6 a7 (fun y17 y18 y19 y20 y21 y22 y23 y24=>(bif aGH .s hI a6 a7 .s hI y23 y24 then (k0 y17 y18 y19 y20 y21 y22 a6 a7)else none)))else none)))else none)))
def bQj:CfS R:=u2 (bSa N) 103 ⟨[.ptr 0 0,pI],[(0,.box zb4),(1,.arr zs1),(2,.arr zs0),(3,.em 2),(4,.em 2),(5,.mp .s hI)]⟩ (aFT N) fun f k=>f (qA k [0,5] ⟨[pI],[(0,.box zb4),(1,.arr zs1),(2,.arr zs0),(3,.em 2),(4,.em 2),(5,.mp .s hI)]⟩)
theorem bFr:FOK (bQj N:CfS R) (aAo T):=uCk (bFB N) bOM
def bWt:Nat->Option (List Sh):=fun n=>if n=10000 then some [.s,hI]else none
def aDg (N:Nat)(a0:ByteArray)(a1:Int)(a2:ByteArray)(a3:zt7)(a4:zt1)(a5:zt2)(a6:zt0)(a7:zt7)(a8:Nat)(a9:zt4)(k0:zk2 (zt7->bYR (Option R))):Option R:=(bif aBU (a7.length+1) 24 then (k0 a2 a3 a4 a5 a6 (a7++[(a0,a1)]) a8 a9)else none)
def bTm:CfS R:=u2 (bQj N) 79 ⟨[.ptr 0 0,pS,pI],[(0,.box zb4),(1,.arr zs1),(2,.arr zs0),(3,.arr [.s,hI]),(4,.em 2),(5,.mp .s hI)]⟩ (aDg N) fun f k=>f (qA k [0,5] ⟨[],[(0,.box zb4),(1,.arr zs1),(2,.arr zs0),(3,.arr [.s,hI]),(4,.em 2),(5,.mp .s hI)]⟩)
theorem bEa:FOK (bTm N:CfS R) (aAo T):=uCk (bFr N) c79 (H:=bWt)
def bUN:Nat->Option (List Sh):=fun n=>if n=5000 then some [hI]else none
def aDu (a0 a1:Int)(a2:ByteArray)(a3:zt7)(a4:zt1)(a5:zt2)(a6:zt0)(a7:Nat)(a8:zt4)(k0:Int->zk2 (bYR (Option R))):Option R:=(aBQ N 9 1 [a0,a1] 0 a2 a3 a4 a5 a6 a7 a8 (fun y1 y2 y3 y4 y5 y6 y7 y8=>(bif aGH .s hI a7 a8 .s hI y7 y8 then (k0 y1 y2 y3 y4 y5 y6 a7 a8)else none)))
def bQR:CfS R:=u2 (bTm N) 97 ⟨[.ptr 0 0,pI,pI],[(0,.box zb4),(1,.arr zs1),(2,.arr zs0),(3,.em 2),(4,.em 2),(5,.mp .s hI)]⟩ (aDu N) fun f k=>f (qA k [0,5] ⟨[pI],[(0,.box zb4),(1,.arr zs1),(2,.arr zs0),(3,.em 2),(4,.em 2),(5,.mp .s hI)]⟩)
theorem bD2:FOK (bQR N:CfS R) (aAo T):=uCk (bEa N) c97 (H:=bUN)
def bVo:Nat->Option (List Sh):=fun n=>if n=5000 then some [hI]else none
def aFD (a0 a1:Int)(a2:ByteArray)(a3:zt7)(a4:zt1)(a5:zt2)(a6:zt0)(a7:Nat)(a8:zt4)(k0:Int->zk2 (bYR (Option R))):Option R:=(aBQ N 14 a1 [a0] 0 a2 a3 a4 a5 a6 a7 a8 (fun y1 y2 y3 y4 y5 y6 y7 y8=>(bif aGH .s hI a7 a8 .s hI y7 y8 then (k0 y1 y2 y3 y4 y5 y6 a7 a8)else none)))
def bRx:CfS R:=u2 (bQR N) 99 ⟨[.ptr 0 0,pI,pI],[(0,.box zb4),(1,.arr zs1),(2,.arr zs0),(3,.em 2),(4,.em 2),(5,.mp .s hI)]⟩ (aFD N) fun f k=>f (qA k [0,5] ⟨[pI],[(0,.box zb4),(1,.arr zs1),(2,.arr zs0),(3,.em 2),(4,.em 2),(5,.mp .s hI)]⟩)
theorem bEf:FOK (bRx N:CfS R) (aAo T):=uCk (bD2 N) c99 (H:=bVo)
def aFZ (a0:Int)(a1:ByteArray)(a2:zt7)(a3:zt1)(a4:zt2)(a5:zt0)(a6:Nat)(a7:zt4)(k0:Int->zk2 (bYR (Option R))):Option R:=(aEu N a0 a1 a2 a3 a4 a5 a6 a7 (fun y1 y2 y3 y4 y5 y6 y7 y8=>(bif aGH .s hI a6 a7 .s hI y7 y8 then (aA9 N y1 1 y2 y3 y4 y5 y6 a6 a7 (fun y9 y10 y11 y12 y13 y14 y15 y16=>(bif aGH .s hI a6 a7 .s hI y15 y16 then (aCU N 6 a0 y9 y10 y11 y12 y13 y14 a6 a7 (fun y17 y18 y19 y20 y21 y22 y23 y24=>(bif aGH .s hI a6 a7 .s hI y23 y24 then (k0 y17 y18 y19 y20 y21 y22 a6 a7)else none)))else none)))else none)))
def bSK:CfS R:=u2 (bRx N) 101 ⟨[.ptr 0 0,pI],[(0,.box zb4),(1,.arr zs1),(2,.arr zs0),(3,.em 2),(4,.em 2),(5,.mp .s hI)]⟩ (aFZ N) fun f k=>f (qA k [0,5] ⟨[pI],[(0,.box zb4),(1,.arr zs1),(2,.arr zs0),(3,.em 2),(4,.em 2),(5,.mp .s hI)]⟩)
theorem aK8:FOK (bSK N:CfS R) (aAo T):=uCk (bEf N) bPG
def bHw:Nat->Option (List Sh):=fun n=>if n=37000 then some [.s,hI,hI,hI,hI]else if n=42000 then some [.s]else if n=43000 then some [.s]else if n=44000 then some [.sl [.s]]else if n=65000 then some [.s,hI,hI,hI,hI]else if n=77000 then some [.s,hI]else if n=152000 then some [.s,hI,hI]else if n=171000 then some [hI]else if n=204000 then some [.s,hI,hI]else if n=209000 then some [.s]else if n=227000 then some [.s,hI,hI]else if n=231000 then some [.s]else none
def aF1 (k0:zk1 (zk1 (ByteArray->zt1->Option R))):Nat->zk1 (zk1 (zk1 (ByteArray->zt1->Option R)))
 | 0,_,_,_,_,_,_,_,_=>none
 | n+1,b0,b1,b2,b3,b4,b5,b6,b7=>(bif decide (b3<b2)then (aEe N b3 (fun y1=>(aEI N y1 b5 0 (fun y2 y3 y4 y5 y6=>(bif aBU (b7.length+1) 48 then (aF1 k0 n b0 b1 b2 (w64 (b3+1)) b4 b5 b6 (b7++[(y2,y3,y4,y5,y6)]))else none)))))else (k0 b0 b1 b4 b5 b6 b7))
def P203_l0:SP:=⟨[(1,.ptr 0 0),(2,.ptr 1 0),(4,pI),(5,pI),(6,.own 8),(41,pI),(42,pI)],[(0,.box [pI,pI]),(1,.box zb9),(2,.em 2),(3,.em 5),(4,.em 4),(5,.em 3),(6,.em 2),(7,.em 2),(8,.arr zs2)]⟩
def aXq:Nat->P203_l0.den->KS R->Option R:=eS P203_l0 fun k=>aF1 N (qS k (.ex 0) ⟨[(1,.ptr 0 0),(2,.ptr 1 0),(4,pI),(5,pI),(6,.own 8)],[(0,.box [pI,pI]),(1,.box zb9),(2,.em 2),(3,.em 5),(4,.em 4),(5,.em 3),(6,.em 2),(7,.em 2),(8,.arr zs2)]⟩)
theorem bCk:LpG T P203_l0 (aXq N (R:=R)) [1,2,4,5,6,41,42] aZv:=lpk (aK8 N) 250 (H:=bHw)
def aZ2:LpS R:=aCc noL 250 (aAx P203_l0 (aXq N N))
def aFY (k0:zk1 (zk1 (zk1 (ByteArray->zt1->zt9->Option R)))):Nat->zk1 (zk1 (Int->List ByteArray->zk1 (zk1 (ByteArray->zt1->zt9->Option R))))
 | 0,_,_,_,_,_,_,_,_,_,_,_,_,_=>none
 | n+1,b0,b1,b2,b3,b4,b5,b6,b7,b8,b9,b10,b11,b12=>(bif decide (b7<b6)then ((at? b5 b7).bind fun x1=>(aEI N x1 b1 b2 (fun y2 y3 y4 y5 y6=>(bif aBU (b11.length+1) 48 then (aFY k0 n b0 b1 b2 b3 b4 b5 b6 (w64 (b7+1)) b8 b9 b10 (b11++[(y2,y3,y4,y5,y6)]) b12)else none))))else (k0 b0 b1 b3 b4 b8 b9 b10 b11 b12))
def P203_l2:SP:=⟨[(1,.ptr 0 0),(2,.ptr 1 0),(4,pI),(5,pI),(6,.own 8),(8,pI),(56,.own 9),(57,pI),(58,pI),(63,pL [.s]),(64,pI),(65,pI)],[(0,.box [pI,pI]),(1,.box zb9),(2,.em 2),(3,.em 5),(4,.em 4),(5,.em 3),(6,.em 2),(7,.em 2),(8,.arr zs2),(9,.arr zs7)]⟩
def aVu:Nat->P203_l2.den->KS R->Option R:=eS P203_l2 fun k=>aFY N (qS k (.ex 4) ⟨[(1,.ptr 0 0),(2,.ptr 1 0),(4,pI),(5,pI),(6,.own 8),(56,.own 9),(57,pI),(58,pI)],[(0,.box [pI,pI]),(1,.box zb9),(2,.em 2),(3,.em 5),(4,.em 4),(5,.em 3),(6,.em 2),(7,.em 2),(8,.arr zs2),(9,.arr zs7)]⟩)
theorem bEZ:LpG T P203_l2 (aVu N (R:=R)) [1,2,4,5,6,8,56,57,58,63,64,65] bAM:=lpk (aK8 N) 129638 (H:=bHw) (Lp:=(aZ2 N))
def bBi:LpS R:=aCc (aZ2 N) 129638 (aAx P203_l2 (aVu N N))
def aFW (k0:zk1 (zk1 (ByteArray->zt1->Option R))):Nat->zk1 (zk1 (zk1 (ByteArray->zt1->zt9->Option R)))
 | 0,_,_,_,_,_,_,_,_,_=>none
 | n+1,b0,b1,b2,b3,b4,b5,b6,b7,b8=>(bif decide (b3<b2)then (bif inR b3 b8.length then ((b8[b3.toNat]?).bind fun x1=>(aFY N (fun z7 z8 z9 z10 z11 z12 z13 z14 z15=>(aFW k0 n z7 z8 z9 (w64 (z10+1)) z11 z12 z13 z14 z15)) N b0 b1 b3 b2 b3 x1 ((x1.length:Nat):Int) 0 b4 b5 b6 b7 b8))else none)else (k0 b0 b1 b4 b5 b6 b7))
def P203_l1:SP:=⟨[(1,.ptr 0 0),(2,.ptr 1 0),(4,pI),(5,pI),(6,.own 8),(56,.own 9),(57,pI),(58,pI)],[(0,.box [pI,pI]),(1,.box zb9),(2,.em 2),(3,.em 5),(4,.em 4),(5,.em 3),(6,.em 2),(7,.em 2),(8,.arr zs2),(9,.arr zs7)]⟩
def aTU:Nat->P203_l1.den->KS R->Option R:=eS P203_l1 fun k=>aFW N (qS k (.ex 2) ⟨[(1,.ptr 0 0),(2,.ptr 1 0),(4,pI),(5,pI),(6,.own 8)],[(0,.box [pI,pI]),(1,.box zb9),(2,.em 2),(3,.em 5),(4,.em 4),(5,.em 3),(6,.em 2),(7,.em 2),(8,.arr zs2)]⟩)
theorem bDR:LpG T P203_l1 (aTU N (R:=R)) [1,2,4,5,6,56,57,58] aZG:=lpk (aK8 N) 506 (H:=bHw) (Lp:=(bBi N)) (hl:=(aAi (l:=[(129638,[1,2,4,5,6,8,56,57,58,63,64,65],bAM)]) (by kernel_rfl) ⟨(aAf (bEZ N N)),trivial⟩))
def aZz:LpS R:=aCc (bBi N) 506 (aAx P203_l1 (aTU N N))
def aF3 (k0:zk1 (zk1 (ByteArray->zk2 (bYR (zt5->Option R))))):Nat->zk1 (zk1 (zk1 (zk1 (zk1 (ByteArray->zk2 (bYR (zt5->Option R)))))))
 | 0,_,_,_,_,_,_,_,_,_,_,_,_,_,_,_,_,_,_,_=>none
 | n+1,b0,b1,b2,b3,b4,b5,b6,b7,b8,b9,b10,b11,b12,b13,b14,b15,b16,b17,b18=>(bif decide (b7<b6)then (aEe N b7 (fun y1=>(aA9 N b8 b7 b11 b12 b13 b14 b15 b16 b17 (fun y2 y3 y4 y5 y6 y7 y8 y9=>(bif aGH .s hI b16 b17 .s hI y8 y9 then (aDu N b3 y2 y3 y4 y5 y6 y7 b16 b17 (fun y10 y11 y12 y13 y14 y15 y16 y17=>(bif aGH .s hI b16 b17 .s hI y16 y17 then (bif aBU (b18.length+1) 32 then (aA9 N b8 b7 y11 y12 y13 y14 y15 b16 b17 (fun y18 y19 y20 y21 y22 y23 y24 y25=>(bif aGH .s hI b16 b17 .s hI y24 y25 then (aDu N b4 y18 y19 y20 y21 y22 y23 b16 b17 (fun y26 y27 y28 y29 y30 y31 y32 y33=>(bif aGH .s hI b16 b17 .s hI y32 y33 then (aEe N b7 (fun y34=>(aBQ N 12 b9 [y26,(aFh .s y34 b17 0),b5] 0 y27 y28 y29 y30 y31 b16 b17 (fun y35 y36 y37 y38 y39 y40 y41 y42=>(bif aGH .s hI b16 b17 .s hI y41 y42 then (aF3 k0 n b0 b1 b2 b3 b4 y35 b6 (w64 (b7+1)) b8 b9 b10 y36 y37 y38 y39 y40 b16 b17 (b18++[(y1,(aFh .s (ByteArray.mk #[118,97,108,117,101]) b17 0),y10)]))else none)))))else none)))else none)))else none)else none)))else none)))))else (k0 b0 b1 b2 b5 b10 b11 b12 b13 b14 b15 b16 b17 b18))
def P203_l3:SP:=⟨[(1,.ptr 0 0),(2,.ptr 1 0),(12,.ptr 8 0),(13,.mp 13),(14,pI),(15,pI),(16,pI),(17,.own 14),(18,pI),(19,pI),(20,pI),(130,pI),(131,pI)],[(0,.box [pI,pI]),(1,.box zb9),(2,.em 2),(3,.em 5),(4,.em 4),(5,.em 3),(6,.em 2),(7,.em 2),(8,.box [pS,pL [.s,hI],pL zs2,.own 9,.own 10,.own 11,.own 12,.mp 13]),(9,.arr zs1),(10,.arr zs0),(11,.em 2),(12,.em 2),(13,.mp .s hI),(14,.arr zs4)]⟩
def aWf:Nat->P203_l3.den->KS R->Option R:=eS P203_l3 fun k=>aF3 N (qS k (.ex 6) ⟨[(2,.ptr 0 0),(12,.ptr 7 0),(13,.mp 12),(14,pI),(15,pI),(16,pI),(17,.own 13),(20,pI)],[(0,.box cFx),(1,.em 2),(2,.em 5),(3,.em 4),(4,.em 3),(5,.em 2),(6,.em 2),(7,.box [pS,pL [.s,hI],pL zs2,.own 8,.own 9,.own 10,.own 11,.mp 12]),(8,.arr zs1),(9,.arr zs0),(10,.em 2),(11,.em 2),(12,.mp .s hI),(13,.arr zs4)]⟩)
theorem bBB:LpG T P203_l3 (aWf N (R:=R)) [1,2,12,13,14,15,16,17,18,19,20,130,131] aZX:=lpk (aK8 N) 131066 (H:=bHw) (Lp:=(aZz N))
def bKi:LpS R:=aCc (aZz N) 131066 (aAx P203_l3 (aWf N N))
def aIt (a0 a1:Int)(k0:zk2 (zt7->Int->Option R)):Option R:=(aCm N a0 1 2 (fun y1=>(bif (!y1)then (k0 (ByteArray.mk #[]) [] [] [] [] [] 2)else (aCm N a1 1 4 (fun y2=>(bif (!y2)then (k0 (ByteArray.mk #[]) [] [] [] [] [] 2)else (bif decide (a0<0)then none else (aF1 N (fun z7 z8 z9 z10 z11 z12=>(aFW N (fun z16 z17 z18 z19 z20 z21=>(aH5 N (ByteArray.mk #[113,117,101,117,101]) [((ByteArray.mk #[112,117,116]),1),((ByteArray.mk #[118,97,108,117,101]),z19),((ByteArray.mk #[103,101,116]),1)] z21 (fun y22 y23 y24 y25 y26 y27=>(aA9 N 1 1 y22 y23 y24 y25 [] y26 y27 (fun y28 y29 y30 y31 y32 y33 y34 y35=>(bif aGH .s hI y26 y27 .s hI y34 y35 then (bif decide ((w64 (z18-1))<0)then none else (aA9 N z17 (aPi .i64 3 (w64 (z18-1))) y29 y30 y31 y32 y33 y26 y27 (fun y36 y37 y38 y39 y40 y41 y42 y43=>(bif aGH .s hI y26 y27 .s hI y42 y43 then (aCU N 5 (aFh .s (ByteArray.mk #[114,98]) y27 0) y36 y37 y38 y39 y40 y41 y26 y27 (fun y44 y45 y46 y47 y48 y49 y50 y51=>(bif aGH .s hI y26 y27 .s hI y50 y51 then (aDu N (aFh .s (ByteArray.mk #[119,103]) y27 0) y44 y45 y46 y47 y48 y49 y26 y27 (fun y52 y53 y54 y55 y56 y57 y58 y59=>(bif aGH .s hI y26 y27 .s hI y58 y59 then (aDu N (aFh .s (ByteArray.mk #[114,103]) y27 0) (aFh .s (ByteArray.mk #[119,98]) y27 0) y53 y54 y55 y56 y57 y26 y27 (fun y60 y61 y62 y63 y64 y65 y66 y67=>(bif aGH .s hI y26 y27 .s hI y66 y67 then (aFD N (aFh .s (ByteArray.mk #[119]) y27 0) z18 y61 y62 y63 y64 y65 y26 y27 (fun y68 y69 y70 y71 y72 y73 y74 y75=>(bif aGH .s hI y26 y27 .s hI y74 y75 then (aFD N (aFh .s (ByteArray.mk #[114]) y27 0) z18 y69 y70 y71 y72 y73 y26 y27 (fun y76 y77 y78 y79 y80 y81 y82 y83=>(bif aGH .s hI y26 y27 .s hI y82 y83 then (aEe N (w64 (z16-1)) (fun y84=>(aF3 N (fun z85 z86 z87 z88 z89 z90 z91 z92 z93 z94 z95 z96 z97=>(aFZ N (aFh .s (ByteArray.mk #[119]) z96 0) z90 z91 z92 z93 z94 z95 z96 (fun y98 y99 y100 y101 y102 y103 y104 y105=>(bif aGH .s hI z95 z96 .s hI y104 y105 then (aFZ N (aFh .s (ByteArray.mk #[114]) z96 0) y99 y100 y101 y102 y103 z95 z96 (fun y106 y107 y108 y109 y110 y111 y112 y113=>(bif aGH .s hI z95 z96 .s hI y112 y113 then (aGr N z86 y107 y108 y109 y110 y111 z95 z96 (fun y114 y115 y116 y117 y118 y119 y120 y121=>(bif aGH .s hI z95 z96 .s hI y120 y121 then (aCU N 3 (aFh .s (ByteArray.mk #[112,117,116]) z96 0) y114 y115 y116 y117 y118 y119 z95 z96 (fun y122 y123 y124 y125 y126 y127 y128 y129=>(bif aGH .s hI z95 z96 .s hI y128 y129 then (aFT N y98 y123 y124 y125 y126 y127 z95 z96 (fun y130 y131 y132 y133 y134 y135 y136 y137=>(bif aGH .s hI z95 z96 .s hI y136 y137 then (bif aBU (z97.length+2) 32 then (aDO N (ByteArray.mk #[112,117,116]) y122 (z97++[((ByteArray.mk #[119]),y98,z85),((ByteArray.mk #[119,103]),y130,z85)]) y131 y132 y133 y134 y135 z95 z96 (fun y138 y139 y140 y141 y142 y143 y144=>(bif aGH .s hI z95 z96 .s hI y143 y144 then (aEn N (ByteArray.mk #[115,121,110,99,48]) z85 [(ByteArray.mk #[114,98]),(ByteArray.mk #[114,97]),(ByteArray.mk #[114,103])] y138 y139 y140 y141 y142 z95 z96 (fun y145 y146 y147 y148 y149 y150 y151=>(bif aGH .s hI z95 z96 .s hI y150 y151 then (aGr N z87 y145 y146 y147 y148 y149 z95 z96 (fun y152 y153 y154 y155 y156 y157 y158 y159=>(bif aGH .s hI z95 z96 .s hI y158 y159 then (aCU N 3 (aFh .s (ByteArray.mk #[103,101,116]) z96 0) y152 y153 y154 y155 y156 y157 z95 z96 (fun y160 y161 y162 y163 y164 y165 y166 y167=>(bif aGH .s hI z95 z96 .s hI y166 y167 then (aFT N y106 y161 y162 y163 y164 y165 z95 z96 (fun y168 y169 y170 y171 y172 y173 y174 y175=>(bif aGH .s hI z95 z96 .s hI y174 y175 then (aDO N (ByteArray.mk #[103,101,116]) y160 [((ByteArray.mk #[114]),y106,z85),((ByteArray.mk #[114,103]),y168,z85)] y169 y170 y171 y172 y173 z95 z96 (fun y176 y177 y178 y179 y180 y181 y182=>(bif aGH .s hI z95 z96 .s hI y181 y182 then (aEn N (ByteArray.mk #[115,121,110,99,49]) z85 [(ByteArray.mk #[119,98]),(ByteArray.mk #[119,97]),(ByteArray.mk #[119,103])] y176 y177 y178 y179 y180 z95 z96 (fun y183 y184 y185 y186 y187 y188 y189=>(bif aGH .s hI z95 z96 .s hI y188 y189 then (aDg N (ByteArray.mk #[102,117,108,108]) z86 y183 y184 y185 y186 y187 [] z95 z96 (fun y190 y191 y192 y193 y194 y195 y196 y197=>(bif aGH .s hI z95 z96 .s hI y196 y197 then (aDg N (ByteArray.mk #[101,109,112,116,121]) z87 y190 y191 y192 y193 y194 y195 z95 z96 (fun y198 y199 y200 y201 y202 y203 y204 y205=>(bif aGH .s hI z95 z96 .s hI y204 y205 then (aDg N (ByteArray.mk #[104,101,97,100]) z88 y198 y199 y200 y201 y202 y203 z95 z96 (fun y206 y207 y208 y209 y210 y211 y212 y213=>(bif aGH .s hI z95 z96 .s hI y212 y213 then (k0 y206 y207 y208 y209 y210 y211 0)else none)))else none)))else none)))else none)))else none)))else none)))else none)))else none)))else none)))else none)))else none)else none)))else none)))else none)))else none)))else none)))) N y28 y52 y60 y68 y76 (aFh .s y84 y27 0) z16 0 z18 z19 z20 y77 y78 y79 y80 y81 y26 y27 [])))else none)))else none)))else none)))else none)))else none)))else none))))else none)))))) N z7 z8 2 0 z9 z10 z11 z12 [[(ByteArray.mk #[119]),(ByteArray.mk #[119,103]),(ByteArray.mk #[114,97]),(ByteArray.mk #[114,98])],[(ByteArray.mk #[114]),(ByteArray.mk #[114,103]),(ByteArray.mk #[119,97]),(ByteArray.mk #[119,98])]])) N (aPi .i64 1 a0) (w64 (a0+1)) (aPi .i64 1 a0) 0 a0 a1 (ByteArray.mk #[]) []))))))))
def bR3:CfS R:=u1 (bSK N) 25 ⟨[.agg [pI,pI]],[]⟩ ⟨[.agg zb5,pI],[]⟩ (aIt N)
theorem bC0:FOK (bR3 N:CfS R) (aAo T):=uCk (aK8 N) c25 (H:=bHw) (Lp:=(bKi N)) (rp:=[⟨[.agg [pS,pL [.s,hI],pL zs2,pL zs1,pL zs0,pL [.s,hI],.p (.e 2)],pI],[]⟩]) (hl:=(aAi (l:=[(250,[1,2,4,5,6,41,42],aZv),(506,[1,2,4,5,6,56,57,58],aZG),(131066,[1,2,12,13,14,15,16,17,18,19,20,130,131],aZX)]) (by kernel_rfl) ⟨(aDL (by decide) (aDL (by decide) (aDL (by decide) (aAf (bCk N N))))),(aDL (by decide) (aAf (bDR N N))),(aAf (bBB N N)),trivial⟩))
def bV0:Nat->Option (List Sh):=fun n=>if n=23000 then some [hI]else none
def aG5 (a0 a1 a2 a3:Int)(k0:zk1 (Option R)):Option R:=(bif decide (a3<0)then none else (bif decide (a1=1)then (aCm N a1 0 1 (fun y1=>(aA8 N y1 2 (fun y2=>(aCm N a2 0 1 (fun y3=>(aA8 N y3 2 (fun y4=>(aHk N [y2,y4] (fun y5=>(k0 y5 a3)))))))))))else (aCm N a1 0 1 (fun y6=>(aA8 N y6 2 (fun y7=>(aCm N a2 (-1) (w64 ((aPi .i64 1 a3)-1)) (fun y8=>(aA8 N y8 2 (fun y9=>(aHk N [y7,y9] (fun y10=>(k0 y10 a3)))))))))))))
def bSg:CfS R:=u2 (bR3 N) 159 ⟨[pI,.agg [pI,pI],.ptr 0 0],[(0,.box [pI])]⟩ (aG5 N) fun f k=>f (qA k [0] ⟨[pI],[(0,.box [pI])]⟩)
theorem aT6:FOK (bSg N:CfS R) (aAo T):=uCk (bC0 N) bPv (H:=bV0)
def aBH (k0:zk1 (Option R))(k1:Int->Option R):Nat->(List (Int×Int))->zk1 (Int->Option R)
 | 0,_,_,_,_=>none
 | n+1,b0,b1,b2,b3=>(bif decide (b2<b1)then ((at? b0 b2).bind fun x1=>(aG5 N b2 x1.1 x1.2 b3 (fun y2 y3=>(bif decide (y2≠0)then (k0 y2 y3)else (aBH k0 k1 n b0 b1 (w64 (b2+1)) y3)))))else (k1 b3))
def P205_l0:SP:=⟨[(1,.fn 159 [.ptr 0 0]),(8,pL [hI,hI]),(9,pI),(10,pI),(100001,.fn 159 [.ptr 0 0])],[(0,.box [pI])]⟩
def aWO:Nat->P205_l0.den->KS R->Option R:=eS P205_l0 fun k=>aBH N (qS k .ret ⟨[(4,pI),(100001,.fn 159 [.ptr 0 0])],[(0,.box [pI])]⟩) (qS k (.ex 0) ⟨[(100001,.fn 159 [.ptr 0 0])],[(0,.box [pI])]⟩)
theorem bD8:LpG T P205_l0 (aWO N (R:=R)) [1,8,9,10] aUu:=lpk (aT6 N) 26
def bJK:LpS R:=aCc noL 26 (aAx P205_l0 (aWO N N))
def aDa (a0:List (Int×Int))(a1:Int)(k0:zk1 (Option R)):Option R:=(aBH N k0 (fun z6=>(k0 0 z6)) N a0 ((a0.length:Nat):Int) 0 a1)
def bTb:CfS R:=u2 (bSg N) 158 ⟨[pL [hI,hI],.fn 159 [.ptr 0 0]],[(0,.box [pI])]⟩ (aDa N) fun f k=>f (qA k [0] ⟨[pI],[(0,.box [pI])]⟩)
theorem bBx:FOK (bTb N:CfS R) (aAo T):=uCk (aT6 N) bLJ (Lp:=(bJK N)) (hl:=(aAi (l:=[(26,[1,8,9,10],aUu)]) (by kernel_rfl) ⟨(aAf (bD8 N N)),trivial⟩))
def aHV (a0:List (Int×Int))(a1:Int)(k0:Int->Option R):Option R:=(bif decide (60<((a0.length:Nat):Int))then (k0 8)else (aDa N a0 a1 (fun y1 y2=>(k0 y1))))
def bTr:CfS R:=u1 (bTb N) 104 ⟨[pL [hI,hI],pI],[]⟩ ⟨[pI],[]⟩ (aHV N)
theorem bEk:FOK (bTr N:CfS R) (aAo T):=uCk (bBx N) bNm
def aMI (N:Nat)(a0:Bool)(k0:Int->Option R):Option R:=(bif a0 then (k0 1)else (k0 0))
def bRp:CfS R:=u1 (bTr N) 106 ⟨[pB],[]⟩ ⟨[pI],[]⟩ (aMI N)
theorem bFc:FOK (bRp N:CfS R) (aAo T):=uCk (bEk N) bOF
def bVS:Nat->Option (List Sh):=fun n=>if n=8000 then some [hI]else if n=18000 then some [hI]else none
def aGm (a0 a1:Int)(k0:zk9 (Option R)):Option R:=(bif decide (a0=1)then (k0 1 [0,0,a1])else (aMI N (decide (0<=a1)) (fun y1=>(k0 0 [y1,(max a1 0),0]))))
def bRL:CfS R:=u1 (bRp N) 105 ⟨[.agg [pI,pI]],[]⟩ ⟨[.agg [pI,pL [hI]]],[]⟩ (aGm N)
theorem bFG:FOK (bRL N:CfS R) (aAo T):=uCk (bFc N) bMu (H:=bVS)
def aGc (N:Nat)(a0 a1:List Int)(a2:Int)(k0:zk1 (Option R)):Option R:=((at? a0 (w64 (a2+4))).bind fun x1=>(bif decide (a2=0)then none else ((at? a0 (Int.tmod x1 a2)).bind fun x2=>(k0 x2 a2))))
def bQ8:CfS R:=u2 (bRL N) 108 ⟨[pL [hI],pL [hI],.ptr 0 0],[(0,.box [pI])]⟩ (aGc N) fun f k=>f (qA k [0] ⟨[pI],[(0,.box [pI])]⟩)
theorem aPt:FOK (bQ8 N:CfS R) (aAo T):=uCk (bFG N) bPF
def bNL:Nat->List SP:=fun p=>if p=117 then [⟨[(8,.own 0),(9,.own 1),(10,pI),(100003,.fn 108 [.ptr 2 0])],[(0,.arr [hI]),(1,.arr [hI]),(2,.box [pI])]⟩]else []
def bPr:Nat->Option (List Sh):=fun n=>if n=55000 then some [hI]else if n=65000 then some [hI]else none
def aBa (k0:zk0 (zk3 ((List (Int×Int))->zk1 (Int->zk3 (Option R))))):Nat->zk0 (zk3 (List Int->(List (Int×Int))->zk1 (List Int->zk1 (Int->zk3 (zk1 (Option R))))))
 | 0,_,_,_,_,_,_,_,_,_,_,_,_,_,_,_,_,_,_,_,_,_=>none
 | n+1,b0,b1,b2,b3,b4,b5,b6,b7,b8,b9,b10,b11,b12,b13,b14,b15,b16,b17,b18,b19,b20=>(bif decide (b15<b14)then ((at? b13 b15).bind fun x1=>(bif decide (x1=0)then (bif aBU (b17.length+1) 8 then (aBa k0 n b0 b1 b2 b3 b4 b5 b6 b7 b8 b9 b10 b11 b12 b13 b14 (w64 (b15+1)) b16 (b17++[b20]) b18 b19 b20)else none)else (bif decide (x1=2)then (aGc N b8 b9 b16 (fun y2 y3=>(bif aBU (b18.length+1) 8 then (aBa k0 n b0 b1 b2 b3 b4 b5 b6 b7 b8 b9 b10 b11 b12 b13 b14 (w64 (b15+1)) y3 b17 (b18++[y2]) b19 b20)else none)))else (aBa k0 n b0 b1 b2 b3 b4 b5 b6 b7 b8 b9 b10 b11 b12 b13 b14 (w64 (b15+1)) b16 b17 b18 b19 b20))))else (k0 b0 b1 b2 b3 b4 b5 b6 b7 b9 b10 b11 b12 b16 b17 b18))
def P210_l1:SP:=⟨[(2,.p (.fn 105 [])),(3,.fn 108 [.ptr 0 0]),(8,.own 1),(9,.own 2),(11,.p (.cp [.s .s,.s (.sl [.s,hI]),.s (.sl [.s,hI,hI,hI,hI]),.s (.sl [hI,hI,.sl [hI],hI]),.s (.sl [.s,hI,.sl [hI,hI,hI]]),.s (.sl [.s,hI]),.s (.sl [hI,.sl [hI]]),.s (.sl [hI])])),(12,pL [hI]),(14,.ptr 3 0),(15,pL [hI]),(31,pL [hI,hI]),(32,pI),(33,pI),(46,pL [hI]),(47,pI),(48,pI),(100003,.fn 108 [.ptr 0 0])],[(0,.box [pI]),(1,.arr [hI]),(2,.arr [hI]),(3,.box [pI,pI])]⟩
def aWp:Nat->P210_l1.den->KS R->Option R:=eS P210_l1 fun k=>aBa N (qS k (.ex 2) ⟨[(2,.p (.fn 105 [])),(3,.fn 108 [.ptr 0 0]),(8,.own 1),(9,.own 2),(11,.p (.cp [.s .s,.s (.sl [.s,hI]),.s (.sl [.s,hI,hI,hI,hI]),.s (.sl [hI,hI,.sl [hI],hI]),.s (.sl [.s,hI,.sl [hI,hI,hI]]),.s (.sl [.s,hI]),.s (.sl [hI,.sl [hI]]),.s (.sl [hI])])),(15,pL [hI]),(31,pL [hI,hI]),(32,pI),(33,pI),(100003,.fn 108 [.ptr 0 0])],[(0,.box [pI]),(1,.arr [hI]),(2,.arr [hI])]⟩)
theorem bEs:LpG T P210_l1 (aWp N (R:=R)) [2,3,8,9,11,12,14,15,31,32,33,46,47,48] aXa:=lpk (aPt N) 256410 (H:=bPr) (X:=bNL)
def aY5:LpS R:=aCc noL 256410 (aAx P210_l1 (aWp N N))
def aCB (k0:zk3 (Int->Option R)):Nat->zk0 (zk3 ((List (Int×Int))->zk1 (Int->zk3 (Option R))))
 | 0,_,_,_,_,_,_,_,_,_,_,_,_,_,_,_=>none
 | n+1,b0,b1,b2,b3,b4,b5,b6,b7,b8,b9,b10,b11,b12,b13,b14=>(bif decide (b11<b10)then ((at? b9 b11).bind fun x1=>(aGm N x1.1 x1.2 (fun y2 y3=>(aFF N b0 b1 b2 b3 b4 b5 b6 b7 y2 y3 b8 (fun y4 y5=>(aBa N (fun z6 z7 z8 z9 z10 z11 z12 z13 z14 z15 z16 z17 z18 z19 z20=>(aCB k0 n z6 z7 z8 z9 z10 z11 z12 z13 z14 z15 z16 (w64 (z17+1)) z18 z19 z20)) N b0 b1 b2 b3 b4 b5 b6 b7 b8 y4 b9 b10 b11 y5 ((y5.length:Nat):Int) 0 b12 b13 b14 x1.1 x1.2))))))else (k0 b13 b14 b12))
def P210_l0:SP:=⟨[(2,.p (.fn 105 [])),(3,.fn 108 [.ptr 0 0]),(8,.own 1),(9,.own 2),(11,.p (.cp [.s .s,.s (.sl [.s,hI]),.s (.sl [.s,hI,hI,hI,hI]),.s (.sl [hI,hI,.sl [hI],hI]),.s (.sl [.s,hI,.sl [hI,hI,hI]]),.s (.sl [.s,hI]),.s (.sl [hI,.sl [hI]]),.s (.sl [hI])])),(12,pL [hI]),(31,pL [hI,hI]),(32,pI),(33,pI),(100003,.fn 108 [.ptr 0 0])],[(0,.box [pI]),(1,.arr [hI]),(2,.arr [hI])]⟩
def aTy:Nat->P210_l0.den->KS R->Option R:=eS P210_l0 fun k=>aCB N (qS k (.ex 0) ⟨[(8,.own 0),(9,.own 1),(100003,.fn 108 [.ptr 2 0])],[(0,.arr [hI]),(1,.arr [hI]),(2,.box [pI])]⟩)
theorem bF0:LpG T P210_l0 (aTy N (R:=R)) [2,3,8,9,11,12,31,32,33] aTP:=lpk (aPt N) 250 (H:=bPr) (Lp:=(aY5 N)) (X:=bNL) (hl:=(aAi (l:=[(256410,[2,3,8,9,11,12,14,15,31,32,33,46,47,48],aXa)]) (by kernel_rfl) ⟨(aAf (bEs N N)),trivial⟩))
def bH5:LpS R:=aCc (aY5 N) 250 (aAx P210_l0 (aTy N N))
def aEp (a0:ByteArray)(a1:zt7)(a2:zt1)(a3:zt2)(a4:zt0)(a5:zt7)(a6:zt6)(a7:List (Int×Int))(a8:Int)(k0:zk3 (zk1 (Option R))):Option R:=(aDo N a0 a1 a2 a3 a4 a5 a6 (fun y1=>(bif decide (y1≠0)then (k0 [] [] y1 a8)else (aFV N []))) (fun y2 y3 y4 y5 y6 y7 y8 y9 y10=>(bif decide (y10≠0)then (k0 [] [] y10 a8)else (aEZ N y2 y3 y4 y5 y6 y7 y8 y9 [] (fun y11=>((at? y11 0).bind fun x12=>(aCB N (fun z21 z22 z23=>(k0 z21 z22 0 z23)) N y2 y3 y4 y5 y6 y7 y8 y9 x12 a7 ((a7.length:Nat):Int) 0 a8 [] [])))))))
def bTx:CfS R:=u2 (bQ8 N) 107 ⟨[.agg zb2,pL [hI,hI],.p (.fn 105 []),.fn 108 [.ptr 0 0]],[(0,.box [pI])]⟩ (aEp N) fun f k=>f (qA k [0] ⟨[pL [hI],pL [hI],pI],[(0,.box [pI])]⟩)
theorem bDY:FOK (bTx N:CfS R) (aAo T):=uCk (aPt N) bIi (H:=bPr) (Lp:=(bH5 N)) (X:=bNL) (hl:=(aAi (l:=[(250,[2,3,8,9,11,12,31,32,33],aTP)]) (by kernel_rfl) ⟨(aAf (bF0 N N)),trivial⟩))
end
end Am
end Go.Proofs.YtkmbhgggpfbffaaGreatDoor
