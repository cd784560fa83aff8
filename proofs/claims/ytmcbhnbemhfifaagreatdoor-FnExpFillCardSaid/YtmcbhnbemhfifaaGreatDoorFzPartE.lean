/- Part of a proof that a law holds at every input. -/
import Derived.Test.YtmcbhnbemhfifaaGreatDoorFzPartD
set_option autoImplicit false
set_option linter.unusedVariables false
set_option linter.unusedSimpArgs false
namespace Go.Proofs.YtmcbhnbemhfifaaGreatDoor.RX
section
open Go Go.RowKit
noncomputable section
def IZ.ct (k:Nat):Ct sg:=⟨false,⟨[(0,.one (.val (.sl 5 (.int .u8))))],[]⟩,⟨[(0,.one (.ptr 0 0))],[.cells [] [.val (.sl 5 (.int .u8)),.val tI]]⟩,[(.sl 5 (.int .u8))],[(.sl 5 (.int .u8)),tI],fun h=>IZ.f k h⟩
def IZ.d:FD sg (HL sg.S [(.sl 5 (.int .u8)),tI]):=⟨fun _=> [],
 [],
 [],
 [],[]⟩
theorem IZ.holds (k:Nat):(IZ.ct k).Holds Tryz.prog 29:=
 cO sg.kit Tryz.f29 _ IZ.d 0 k (fun _ _=>True.intro)
def qi.ct (k:Nat):Ct sg:=⟨false,⟨[(0,.one (.ptr 0 0)),(1,oI)],[.cells [] [.val (.sl 5 (.int .u8)),.val tI]]⟩,⟨[(0,oI)],[.cells [] [.val (.sl 5 (.int .u8)),.val tI]]⟩,[tI,(.sl 5 (.int .u8)),tI],[tI,(.sl 5 (.int .u8)),tI],fun h=>qi.f k h.1 h.2.1 h.2.2⟩
def qi.d:FD sg (HL sg.S [tI,(.sl 5 (.int .u8)),tI]):=⟨fun _=> [],
 [],
 [(4,⟨⟨[(0,.one (.ptr 0 0)),(1,oI)],[.cells [] [.val (.sl 5 (.int .u8)),.val tI]]⟩,[tI,(.sl 5 (.int .u8)),tI],fun k h=>qi.j4 k h.1 h.2.1 h.2.2⟩)],
 [(7,[[0,1,2,3,4,5,6,7,8,9,10,11,12,13,14,15,16,17,18,19,20,21,22,23,24,25,26,27,28,29,30,31,32,33,34,35,36,37,38,39,40,41,42,43,44,45]])],[]⟩
theorem qi.holds (k:Nat):(qi.ct k).Holds Tryz.prog 33:=
 cO sg.kit Tryz.f33 _ qi.d 1 k (fun _ _=>True.intro)
def yV.ct (k:Nat):Ct sg:=⟨true,⟨[(0,oI)],[]⟩,⟨[(0,oS)],[]⟩,[tI],[.str],fun h=>yV.f k h⟩
def yV.d:FD sg (HL sg.S [.str]):=⟨fun k=> [(104,yV.ct k)],
 [],
 [(100003,⟨⟨[(0,oI)],[]⟩,[tI],fun k h=>yV.d3 k h⟩)],
 [(3,[[0,1,3,4,5,6,2,7,8,9,10],[0,1,3,4,5,6,7,2,8,9,10],[0,1,3,4,5,6,7,8,2,9,10]])],[]⟩
theorem yV.all: ∀k:Nat,(yV.ct k).Holds Tryz.prog 104:=
 jo eX fun k ih=>
 cO sg.kit Tryz.f104 _ yV.d 3 k (fun j hj=>⟨(ih j hj),True.intro⟩)
theorem yV.holds (k:Nat):(yV.ct k).Holds Tryz.prog 104:=(yV.all k)
def qp.ct (k:Nat):Ct sg:=⟨false,⟨[(0,.one (.val (.sl 26 (.st 1)))),(1,.st 1)],[]⟩,⟨[(0,.st 1)],[]⟩,[(.sl 26 (.st 1)),(.st 1)],[(.st 1)],fun h=>qp.f k h.1 h.2⟩
def qp.d:FD sg (HL sg.S [(.st 1)]):=⟨fun _=> [],
 [],
 [(100006,⟨⟨[(0,.one (.val (.sl 26 (.st 1)))),(3,.one (.ptr 0 0)),(4,.one (.ptr 1 0))],[.cells [] [.val tI,.any,.any,.any,.val (.sl 26 (.st 1))],.cells [] [.any,.any,.any,.any,.any]]⟩,[(.sl 26 (.st 1)),tI,(.sl 26 (.st 1))],fun k h=>qp.d6 k h.1 h.2.1 h.2.2⟩),
 (100007,⟨⟨[(0,.one (.val (.sl 26 (.st 1)))),(3,.one (.ptr 0 0)),(4,.one (.ptr 1 0))],[.cells [] [.val tI,.val .str,.val (.sl 3 tI),.val tI,.val (.sl 26 (.st 1))],.cells [] [.any,.any,.any,.any,.any]]⟩,[(.sl 26 (.st 1)),tI,.str,(.sl 3 tI),tI,(.sl 26 (.st 1))],fun k h=>qp.d7 k h.1 h.2.1 h.2.2.1 h.2.2.2.1 h.2.2.2.2.1 h.2.2.2.2.2⟩)],
 [(6,[[0,3,5,1,2,4,6,7,8,9],[0,3,5,1,2,6,4,7,8,9],[0,3,5,1,6,2,4,7,8,9],[0,3,5,2,1,4,6,7,8,9],[0,3,5,2,1,6,4,7,8,9],[0,3,5,2,4,6,1,7,8,9],[0,3,5,2,4,6,7,1,8,9],[0,3,5,2,6,1,4,7,8,9],[0,3,5,2,6,4,1,7,8,9],[0,3,5,2,6,4,7,1,8,9],[0,3,5,6,1,2,4,7,8,9],[0,3,5,6,2,1,4,7,8,9],[0,3,5,6,2,4,1,7,8,9],[0,3,5,6,2,4,7,1,8,9]]),(7,[[1,0,2,3,4,5,6,7],[1,0,3,2,4,5,6,7],[1,0,3,4,2,5,6,7],[1,3,0,2,4,5,6,7],[1,3,0,4,2,5,6,7],[1,3,4,0,2,5,6,7]])],[]⟩
theorem qp.holds (k:Nat):(qp.ct k).Holds Tryz.prog 105:=
 cO sg.kit Tryz.f105 _ qp.d 20 k (fun _ _=>True.intro)
def ql.ct (k:Nat):Ct sg:=⟨false,⟨[(0,.one (.ptr 0 0)),(1,oI),(2,.one (.arr 1))],[.cells [] [.val (.sl 5 (.int .u8)),.val tI],.ow true false 3 tI]⟩,⟨[(0,.st 1)],[.cells [] [.val (.sl 5 (.int .u8)),.val tI],.ow true false 3 tI]⟩,[tI,(.sl 5 (.int .u8)),tI,(.sl 3 tI)],[(.st 1),(.sl 5 (.int .u8)),tI,(.sl 3 tI)],fun h=>ql.f k h.1 h.2.1 h.2.2.1 h.2.2.2⟩
def ql.d:FD sg (HL sg.S [(.st 1),(.sl 5 (.int .u8)),tI,(.sl 3 tI)]):=⟨fun k=> [(30,ql.ct k),(33,qi.ct k),(104,yV.ct k),(105,qp.ct k)],
 [(14,⟨⟨[(0,.one (.ptr 0 0)),(1,oI),(2,.one (.arr 1)),(6,.one (.ptr 2 0)),(7,.one (.ptr 3 0)),(8,oI),(9,oI)],[.cells [] [.val (.sl 5 (.int .u8)),.val tI],.ow true false 3 tI,.cells [] [.any,.any,.any,.any,.any],.cells [] [.val tI,.val .str,.val (.sl 3 tI),.val tI,.arr 4],.arr 26 (.st 1)]⟩,[tI,tI,tI,(.sl 5 (.int .u8)),tI,(.sl 3 tI),tI,.str,(.sl 3 tI),tI,(.sl 26 (.st 1))],fun k h=>ql.iO k h.1 h.2.1 h.2.2.1 h.2.2.2.1 h.2.2.2.2.1 h.2.2.2.2.2.1 h.2.2.2.2.2.2.1 h.2.2.2.2.2.2.2.1 h.2.2.2.2.2.2.2.2.1 h.2.2.2.2.2.2.2.2.2.1 h.2.2.2.2.2.2.2.2.2.2⟩)],
 [(100017,⟨⟨[(0,.one (.ptr 0 0)),(1,oI),(2,.one (.arr 1)),(6,.one (.ptr 2 0)),(7,.one (.ptr 3 0)),(8,oI),(9,oI)],[.cells [] [.val (.sl 5 (.int .u8)),.val tI],.ow true false 3 tI,.cells [] [.any,.any,.any,.any,.any],.cells [] [.val tI,.val .str,.val (.sl 3 tI),.val tI,.arr 4],.arr 26 (.st 1)]⟩,[tI,tI,tI,(.sl 5 (.int .u8)),tI,(.sl 3 tI),tI,.str,(.sl 3 tI),tI,(.sl 26 (.st 1))],fun k h=>ql.d17 k h.1 h.2.1 h.2.2.1 h.2.2.2.1 h.2.2.2.2.1 h.2.2.2.2.2.1 h.2.2.2.2.2.2.1 h.2.2.2.2.2.2.2.1 h.2.2.2.2.2.2.2.2.1 h.2.2.2.2.2.2.2.2.2.1 h.2.2.2.2.2.2.2.2.2.2⟩),
 (100021,⟨⟨[(0,.one (.ptr 0 0)),(2,.one (.arr 1)),(6,.one (.ptr 2 0)),(7,.one (.ptr 3 0))],[.cells [] [.val (.sl 5 (.int .u8)),.val tI],.ow true false 3 tI,.cells [] [.any,.any,.any,.any,.any],.cells [] [.any,.any,.any,.any,.arr 4],.arr 26 (.st 1)]⟩,[(.sl 5 (.int .u8)),tI,(.sl 3 tI),(.sl 26 (.st 1))],fun k h=>ql.d21 k h.1 h.2.1 h.2.2.1 h.2.2.2⟩),
 (3,⟨⟨[(0,.one (.ptr 0 0)),(1,oI),(2,.one (.arr 1)),(6,.one (.ptr 2 0)),(22,oB)],[.cells [] [.val (.sl 5 (.int .u8)),.val tI],.ow true false 3 tI,.cells [] [.any,.any,.any,.any,.any]]⟩,[tI,.bool,(.sl 5 (.int .u8)),tI,(.sl 3 tI)],fun k h=>ql.j3 k h.1 h.2.1 h.2.2.1 h.2.2.2.1 h.2.2.2.2⟩)],
 [(17,[[0,2,3,4,5,1,6,7,8,9,10],[0,2,3,4,5,6,1,7,8,9,10],[0,2,3,4,5,6,7,1,8,9,10]]),(21,[[0,2,3,1,4,5,6],[0,2,3,4,1,5,6]])],[]⟩
theorem ql.all: ∀k:Nat,(ql.ct k).Holds Tryz.prog 30:=
 jo eX fun k ih=>
 cO sg.kit Tryz.f30 _ ql.d 7 k (fun j hj=>⟨(ih j hj),qi.holds j,yV.holds j,qp.holds j,True.intro⟩)
theorem ql.holds (k:Nat):(ql.ct k).Holds Tryz.prog 30:=(ql.all k)
def P9.ct (k:Nat):Ct sg:=⟨true,⟨[(0,oI),(1,oI)],[]⟩,⟨[(0,oI)],[]⟩,[tI,tI],[tI],fun h=>P9.f k h.1 h.2⟩
def P9.d:FD sg (HL sg.S [tI]):=⟨fun _=> [],
 [],
 [],
 [],[]⟩
theorem P9.holds (k:Nat):(P9.ct k).Holds Tryz.prog 160:=
 cO sg.kit Tryz.f160 _ P9.d 0 k (fun _ _=>True.intro)
def Aj.ct (k:Nat):Ct sg:=⟨false,⟨[(0,.one (.ptr 0 0)),(1,.one (.val (.sl 9 .str)))],[.cells [] [.val (.sl 5 (.int .u8)),.val tI]]⟩,⟨[(0,oS)],[.cells [] [.val (.sl 5 (.int .u8)),.val tI]]⟩,[(.sl 9 .str),(.sl 5 (.int .u8)),tI],[.str,(.sl 5 (.int .u8)),tI],fun h=>Aj.f k h.1 h.2.1 h.2.2⟩
def Aj.d:FD sg (HL sg.S [.str,(.sl 5 (.int .u8)),tI]):=⟨fun k=> [(33,qi.ct k)],
 [],
 [],
 [],[]⟩
theorem Aj.holds (k:Nat):(Aj.ct k).Holds Tryz.prog 109:=
 cO sg.kit Tryz.f109 _ Aj.d 0 k (fun j _=>⟨qi.holds j,True.intro⟩)
def qn.ct (k:Nat):Ct sg:=⟨false,⟨[(0,.one (.ptr 0 0))],[.cells [] [.val (.sl 5 (.int .u8)),.val tI]]⟩,⟨[(0,.st 1)],[.cells [] [.val (.sl 5 (.int .u8)),.val tI]]⟩,[(.sl 5 (.int .u8)),tI],[(.st 1),(.sl 5 (.int .u8)),tI],fun h=>qn.f k h.1 h.2⟩
def qn.d:FD sg (HL sg.S [(.st 1),(.sl 5 (.int .u8)),tI]):=⟨fun k=> [(33,qi.ct k),(109,Aj.ct k)],
 [(3,⟨⟨[(0,.one (.ptr 0 0)),(2,.one (.ptr 1 0)),(3,.one (.ptr 2 0)),(4,oI)],[.cells [] [.val (.sl 5 (.int .u8)),.val tI],.cells [] [.any,.any,.any,.any,.any],.cells [] [.val tI,.val .str,.arr 3,.val tI,.val (.sl 26 (.st 1))],.arr 3 tI]⟩,[tI,(.sl 5 (.int .u8)),tI,tI,.str,tI,(.sl 26 (.st 1)),(.sl 3 tI)],fun k h=>qn.l3 k h.1 h.2.1 h.2.2.1 h.2.2.2.1 h.2.2.2.2.1 h.2.2.2.2.2.1 h.2.2.2.2.2.2.1 h.2.2.2.2.2.2.2⟩)],
 [],
 [],[]⟩
theorem qn.holds (k:Nat):(qn.ct k).Holds Tryz.prog 101:=
 cO sg.kit Tryz.f101 _ qn.d 1 k (fun j _=>⟨qi.holds j,Aj.holds j,True.intro⟩)
def q7.ct (k:Nat):Ct sg:=⟨false,⟨[(0,.one (.ptr 0 0)),(1,oI)],[.cells [] [.val (.sl 5 (.int .u8)),.val tI]]⟩,⟨[(0,.st 1)],[.cells [] [.val (.sl 5 (.int .u8)),.val tI]]⟩,[tI,(.sl 5 (.int .u8)),tI],[(.st 1),(.sl 5 (.int .u8)),tI],fun h=>q7.f k h.1 h.2.1 h.2.2⟩
def q7.d:FD sg (HL sg.S [(.st 1),(.sl 5 (.int .u8)),tI]):=⟨fun k=> [(33,qi.ct k),(92,q7.ct k),(101,qn.ct k),(109,Aj.ct k),(160,P9.ct k)],
 [(12,⟨⟨[(0,.one (.ptr 0 0)),(1,oI),(4,.one (.ptr 1 0)),(5,.one (.ptr 2 0)),(6,oI)],[.cells [] [.val (.sl 5 (.int .u8)),.val tI],.cells [] [.any,.any,.any,.any,.any],.cells [] [.val tI,.val .str,.val (.sl 3 tI),.val tI,.arr 3],.arr 26 (.st 1)]⟩,[tI,tI,(.sl 5 (.int .u8)),tI,tI,.str,(.sl 3 tI),tI,(.sl 26 (.st 1))],fun k h=>q7.l12 k h.1 h.2.1 h.2.2.1 h.2.2.2.1 h.2.2.2.2.1 h.2.2.2.2.2.1 h.2.2.2.2.2.2.1 h.2.2.2.2.2.2.2.1 h.2.2.2.2.2.2.2.2⟩),
 (19,⟨⟨[(0,.one (.ptr 0 0)),(1,oI),(4,.one (.ptr 1 0)),(7,.one (.ptr 2 0)),(8,oI)],[.cells [] [.val (.sl 5 (.int .u8)),.val tI],.cells [] [.any,.any,.any,.any,.any],.cells [] [.val tI,.val .str,.val (.sl 3 tI),.val tI,.arr 3],.arr 26 (.st 1)]⟩,[tI,tI,(.sl 5 (.int .u8)),tI,tI,.str,(.sl 3 tI),tI,(.sl 26 (.st 1))],fun k h=>q7.tX k h.1 h.2.1 h.2.2.1 h.2.2.2.1 h.2.2.2.2.1 h.2.2.2.2.2.1 h.2.2.2.2.2.2.1 h.2.2.2.2.2.2.2.1 h.2.2.2.2.2.2.2.2⟩)],
 [(100014,⟨⟨[(0,.one (.ptr 0 0)),(1,oI),(4,.one (.ptr 1 0)),(5,.one (.ptr 2 0)),(6,oI)],[.cells [] [.val (.sl 5 (.int .u8)),.val tI],.cells [] [.any,.any,.any,.any,.any],.cells [] [.val tI,.val .str,.val (.sl 3 tI),.val tI,.arr 3],.arr 26 (.st 1)]⟩,[tI,tI,(.sl 5 (.int .u8)),tI,tI,.str,(.sl 3 tI),tI,(.sl 26 (.st 1))],fun k h=>q7.d14 k h.1 h.2.1 h.2.2.1 h.2.2.2.1 h.2.2.2.2.1 h.2.2.2.2.2.1 h.2.2.2.2.2.2.1 h.2.2.2.2.2.2.2.1 h.2.2.2.2.2.2.2.2⟩),
 (100015,⟨⟨[(0,.one (.ptr 0 0)),(4,.one (.ptr 1 0)),(5,.one (.ptr 2 0))],[.cells [] [.val (.sl 5 (.int .u8)),.val tI],.cells [] [.any,.any,.any,.any,.any],.cells [] [.val tI,.val .str,.val (.sl 3 tI),.val tI,.arr 3],.arr 26 (.st 1)]⟩,[(.sl 5 (.int .u8)),tI,tI,.str,(.sl 3 tI),tI,(.sl 26 (.st 1))],fun k h=>q7.d15 k h.1 h.2.1 h.2.2.1 h.2.2.2.1 h.2.2.2.2.1 h.2.2.2.2.2.1 h.2.2.2.2.2.2⟩),
 (100021,⟨⟨[(0,.one (.ptr 0 0)),(1,oI),(4,.one (.ptr 1 0)),(7,.one (.ptr 2 0)),(8,oI)],[.cells [] [.val (.sl 5 (.int .u8)),.val tI],.cells [] [.any,.any,.any,.any,.any],.cells [] [.val tI,.val .str,.val (.sl 3 tI),.val tI,.arr 3],.arr 26 (.st 1)]⟩,[tI,tI,(.sl 5 (.int .u8)),tI,tI,.str,(.sl 3 tI),tI,(.sl 26 (.st 1))],fun k h=>q7.d21 k h.1 h.2.1 h.2.2.1 h.2.2.2.1 h.2.2.2.2.1 h.2.2.2.2.2.1 h.2.2.2.2.2.2.1 h.2.2.2.2.2.2.2.1 h.2.2.2.2.2.2.2.2⟩),
 (4,⟨⟨[(0,.one (.ptr 0 0)),(1,oI),(4,.one (.ptr 1 0)),(14,oI),(15,oB)],[.cells [] [.val (.sl 5 (.int .u8)),.val tI],.cells [] [.any,.any,.any,.any,.any]]⟩,[tI,tI,.bool,(.sl 5 (.int .u8)),tI],fun k h=>q7.j4 k h.1 h.2.1 h.2.2.1 h.2.2.2.1 h.2.2.2.2⟩)],
 [(14,[[0,2,3,4,1,5,6,7,8,9],[0,2,3,4,5,1,6,7,8,9],[0,2,3,4,5,6,1,7,8,9]]),(15,[[0,2,1,3,4,5,6,7],[0,2,3,1,4,5,6,7],[0,2,3,4,1,5,6,7]]),(21,[[0,2,3,4,1,5,6,7,8,9],[0,2,3,4,5,1,6,7,8,9],[0,2,3,4,5,6,1,7,8,9]])],[]⟩
theorem q7.all: ∀k:Nat,(q7.ct k).Holds Tryz.prog 92:=
 jo eX fun k ih=>
 cO sg.kit Tryz.f92 _ q7.d 12 k (fun j hj=>⟨qi.holds j,(ih j hj),qn.holds j,Aj.holds j,P9.holds j,True.intro⟩)
theorem q7.holds (k:Nat):(q7.ct k).Holds Tryz.prog 92:=(q7.all k)
def qu.ct (k:Nat):Ct sg:=⟨false,⟨[(0,.st 1)],[]⟩,⟨[(0,.agg [.val tI,.val .str,.arr 0,.val tI,.arr 1])],[.arr 3 tI,.arr 26 (.st 1)]⟩,[(.st 1)],[tI,.str,tI,(.sl 3 tI),(.sl 26 (.st 1))],fun h=>qu.f k h⟩
def Bj.ct (k:Nat):Ct sg:=⟨false,⟨[(0,.one (.val (.sl 26 (.st 1))))],[]⟩,⟨[(0,.one (.arr 0))],[.arr 26 (.st 1)]⟩,[(.sl 26 (.st 1))],[(.sl 26 (.st 1))],fun h=>Bj.f k h⟩
def qu.d:FD sg (HL sg.S [tI,.str,tI,(.sl 3 tI),(.sl 26 (.st 1))]):=⟨fun k=> [(171,Bj.ct k)],
 [],
 [],
 [],[]⟩
def Bj.d:FD sg (HL sg.S [(.sl 26 (.st 1))]):=⟨fun k=> [(106,qu.ct k)],
 [(3,⟨⟨[(0,.one (.val (.sl 26 (.st 1)))),(3,.one (.arr 0)),(4,oI)],[.arr 26 (.st 1)]⟩,[(.sl 26 (.st 1)),tI,(.sl 26 (.st 1))],fun k h=>Bj.l3 k h.1 h.2.1 h.2.2⟩)],
 [],
 [],[]⟩
theorem qu.all: ∀k:Nat,(qu.ct k).Holds Tryz.prog 106∧(Bj.ct k).Holds Tryz.prog 171:=
 jo ⟨eX,eX⟩ fun k ih=>
 ⟨cO sg.kit Tryz.f106 _ qu.d 0 k (fun j hj=>⟨(ih j hj).2,True.intro⟩),cO sg.kit Tryz.f171 _ Bj.d 1 k (fun j hj=>⟨(ih j hj).1,True.intro⟩)⟩
theorem qu.holds (k:Nat):(qu.ct k).Holds Tryz.prog 106:=(qu.all k).1
theorem Bj.holds (k:Nat):(Bj.ct k).Holds Tryz.prog 171:=(qu.all k).2
def wS.ct (k:Nat):Ct sg:=⟨false,⟨[(0,.st 1)],[]⟩,⟨[(0,.one (.val (.sl 26 (.st 1))))],[]⟩,[(.st 1)],[(.sl 26 (.st 1))],fun h=>wS.f k h⟩
def wS.d:FD sg (HL sg.S [(.sl 26 (.st 1))]):=⟨fun _=> [],
 [],
 [],
 [],[]⟩
theorem wS.holds (k:Nat):(wS.ct k).Holds Tryz.prog 107:=
 cO sg.kit Tryz.f107 _ wS.d 0 k (fun _ _=>True.intro)
def q11.ct (k:Nat):Ct sg:=⟨true,⟨[(0,.st 1)],[]⟩,⟨[(0,oB)],[]⟩,[(.st 1)],[.bool],fun h=>q11.f k h⟩
def q11.d:FD sg (HL sg.S [.bool]):=⟨fun _=> [],
 [],
 [],
 [],[]⟩
theorem q11.holds (k:Nat):(q11.ct k).Holds Tryz.prog 108:=
 cO sg.kit Tryz.f108 _ q11.d 0 k (fun _ _=>True.intro)
def qd.ct (k:Nat):Ct sg:=⟨false,⟨[(0,.one (.ptr 0 0)),(1,.st 1)],[.cells [] [.val (.sl 5 (.int .u8)),.val tI]]⟩,⟨[(0,.st 1)],[.cells [] [.val (.sl 5 (.int .u8)),.val tI]]⟩,[(.st 1),(.sl 5 (.int .u8)),tI],[(.st 1),(.sl 5 (.int .u8)),tI],fun h=>qd.f k h.1 h.2.1 h.2.2⟩
def qd.d:FD sg (HL sg.S [(.st 1),(.sl 5 (.int .u8)),tI]):=⟨fun k=> [(31,qd.ct k),(33,qi.ct k),(92,q7.ct k),(105,qp.ct k),(106,qu.ct k),(107,wS.ct k),(108,q11.ct k)],
 [(12,⟨⟨[(0,.one (.ptr 0 0)),(3,.one (.ptr 1 0)),(4,.one (.ptr 2 0)),(5,.one (.ptr 3 0)),(6,.one (.val (.sl 26 (.st 1)))),(7,oI)],[.cells [] [.val (.sl 5 (.int .u8)),.val tI],.cells [] [.val tI,.any,.any,.any,.val (.sl 26 (.st 1))],.cells [] [.any,.any,.any,.any,.any],.cells [] [.val tI,.val .str,.val (.sl 3 tI),.val tI,.arr 4],.arr 26 (.st 1)]⟩,[(.sl 26 (.st 1)),tI,(.sl 5 (.int .u8)),tI,tI,(.sl 26 (.st 1)),tI,.str,(.sl 3 tI),tI,(.sl 26 (.st 1))],fun k h=>qd.l12 k h.1 h.2.1 h.2.2.1 h.2.2.2.1 h.2.2.2.2.1 h.2.2.2.2.2.1 h.2.2.2.2.2.2.1 h.2.2.2.2.2.2.2.1 h.2.2.2.2.2.2.2.2.1 h.2.2.2.2.2.2.2.2.2.1 h.2.2.2.2.2.2.2.2.2.2⟩),
 (18,⟨⟨[(0,.one (.ptr 0 0)),(3,.one (.ptr 1 0)),(4,.one (.ptr 2 0)),(5,.one (.ptr 3 0)),(6,.one (.val (.sl 26 (.st 1)))),(7,oI),(8,oI)],[.cells [] [.val (.sl 5 (.int .u8)),.val tI],.cells [] [.val tI,.any,.any,.any,.val (.sl 26 (.st 1))],.cells [] [.any,.any,.any,.any,.any],.cells [] [.val tI,.val .str,.val (.sl 3 tI),.val tI,.arr 4],.arr 26 (.st 1)]⟩,[(.sl 26 (.st 1)),tI,tI,(.sl 5 (.int .u8)),tI,tI,(.sl 26 (.st 1)),tI,.str,(.sl 3 tI),tI,(.sl 26 (.st 1))],fun k h=>qd.lG k h.1 h.2.1 h.2.2.1 h.2.2.2.1 h.2.2.2.2.1 h.2.2.2.2.2.1 h.2.2.2.2.2.2.1 h.2.2.2.2.2.2.2.1 h.2.2.2.2.2.2.2.2.1 h.2.2.2.2.2.2.2.2.2.1 h.2.2.2.2.2.2.2.2.2.2.1 h.2.2.2.2.2.2.2.2.2.2.2⟩)],
 [(100020,⟨⟨[(0,.one (.ptr 0 0)),(3,.one (.ptr 1 0)),(4,.one (.ptr 2 0)),(5,.one (.ptr 3 0)),(6,.one (.val (.sl 26 (.st 1)))),(7,oI),(8,oI)],[.cells [] [.val (.sl 5 (.int .u8)),.val tI],.cells [] [.val tI,.any,.any,.any,.val (.sl 26 (.st 1))],.cells [] [.any,.any,.any,.any,.any],.cells [] [.val tI,.val .str,.val (.sl 3 tI),.val tI,.arr 4],.arr 26 (.st 1)]⟩,[(.sl 26 (.st 1)),tI,tI,(.sl 5 (.int .u8)),tI,tI,(.sl 26 (.st 1)),tI,.str,(.sl 3 tI),tI,(.sl 26 (.st 1))],fun k h=>qd.d20 k h.1 h.2.1 h.2.2.1 h.2.2.2.1 h.2.2.2.2.1 h.2.2.2.2.2.1 h.2.2.2.2.2.2.1 h.2.2.2.2.2.2.2.1 h.2.2.2.2.2.2.2.2.1 h.2.2.2.2.2.2.2.2.2.1 h.2.2.2.2.2.2.2.2.2.2.1 h.2.2.2.2.2.2.2.2.2.2.2⟩),
 (100022,⟨⟨[(0,.one (.ptr 0 0)),(3,.one (.ptr 1 0)),(4,.one (.ptr 2 0)),(5,.one (.ptr 3 0))],[.cells [] [.val (.sl 5 (.int .u8)),.val tI],.cells [] [.any,.any,.any,.any,.val (.sl 26 (.st 1))],.cells [] [.any,.any,.any,.any,.any],.cells [] [.any,.any,.any,.any,.arr 4],.arr 26 (.st 1)]⟩,[(.sl 5 (.int .u8)),tI,(.sl 26 (.st 1)),(.sl 26 (.st 1))],fun k h=>qd.d22 k h.1 h.2.1 h.2.2.1 h.2.2.2⟩),
 (4,⟨⟨[(0,.one (.ptr 0 0)),(3,.one (.ptr 1 0)),(4,.one (.ptr 2 0)),(14,oB)],[.cells [] [.val (.sl 5 (.int .u8)),.val tI],.cells [] [.val tI,.val .str,.val (.sl 3 tI),.val tI,.val (.sl 26 (.st 1))],.cells [] [.any,.any,.any,.any,.any]]⟩,[.bool,(.sl 5 (.int .u8)),tI,tI,.str,(.sl 3 tI),tI,(.sl 26 (.st 1))],fun k h=>qd.j4 k h.1 h.2.1 h.2.2.1 h.2.2.2.1 h.2.2.2.2.1 h.2.2.2.2.2.1 h.2.2.2.2.2.2.1 h.2.2.2.2.2.2.2⟩),
 (18,⟨⟨[(0,.one (.ptr 0 0)),(3,.one (.ptr 1 0)),(4,.one (.ptr 2 0)),(5,.one (.ptr 3 0)),(6,.one (.val (.sl 26 (.st 1)))),(7,oI),(8,oI)],[.cells [] [.val (.sl 5 (.int .u8)),.val tI],.cells [] [.val tI,.any,.any,.any,.val (.sl 26 (.st 1))],.cells [] [.any,.any,.any,.any,.any],.cells [] [.val tI,.val .str,.val (.sl 3 tI),.val tI,.arr 4],.arr 26 (.st 1)]⟩,[(.sl 26 (.st 1)),tI,tI,(.sl 5 (.int .u8)),tI,tI,(.sl 26 (.st 1)),tI,.str,(.sl 3 tI),tI,(.sl 26 (.st 1))],fun k h=>qd.j18 k h.1 h.2.1 h.2.2.1 h.2.2.2.1 h.2.2.2.2.1 h.2.2.2.2.2.1 h.2.2.2.2.2.2.1 h.2.2.2.2.2.2.2.1 h.2.2.2.2.2.2.2.2.1 h.2.2.2.2.2.2.2.2.2.1 h.2.2.2.2.2.2.2.2.2.2.1 h.2.2.2.2.2.2.2.2.2.2.2⟩)],
 [(20,[[0,2,3,4,5,6,1,7,8,9,10,11],[0,2,3,4,5,6,7,1,8,9,10,11],[0,2,3,4,5,6,7,8,1,9,10,11]]),(22,[[0,2,3,4,5,6,7,8,9,10,1,11,12,13],[0,2,3,4,5,6,7,8,9,10,11,1,12,13]])],[]⟩
theorem qd.all: ∀k:Nat,(qd.ct k).Holds Tryz.prog 31:=
 jo eX fun k ih=>
 cO sg.kit Tryz.f31 _ qd.d 9 k (fun j hj=>⟨(ih j hj),qi.holds j,q7.holds j,qp.holds j,qu.holds j,wS.holds j,q11.holds j,True.intro⟩)
theorem qd.holds (k:Nat):(qd.ct k).Holds Tryz.prog 31:=(qd.all k)
def q24.ct (k:Nat):Ct sg:=⟨true,⟨[(0,oS)],[]⟩,⟨[(0,oB)],[]⟩,[.str],[.bool],fun h=>q24.f k h⟩
def q24.d:FD sg (HL sg.S [.bool]):=⟨fun _=> [],
 [(2,⟨⟨[(0,oS),(3,oI)],[]⟩,[.str,tI],fun k h=>q24.l2 k h.1 h.2⟩)],
 [],
 [],[]⟩
theorem q24.holds (k:Nat):(q24.ct k).Holds Tryz.prog 200:=
 cO sg.kit Tryz.f200 _ q24.d 1 k (fun _ _=>True.intro)
def q12.ct (k:Nat):Ct sg:=⟨true,⟨[(0,oS)],[]⟩,⟨[(0,oB)],[]⟩,[.str],[.bool],fun h=>q12.f k h⟩
def q12.d:FD sg (HL sg.S [.bool]):=⟨fun k=> [(200,q24.ct k)],
 [(6,⟨⟨[(0,oS),(3,oI)],[]⟩,[.str,tI],fun k h=>q12.l6 k h.1 h.2⟩)],
 [(3,⟨⟨[(0,oS)],[]⟩,[.str],fun k h=>q12.j3 k h⟩),
 (5,⟨⟨[(0,oS)],[]⟩,[.str],fun k h=>q12.j5 k h⟩)],
 [],[]⟩
theorem q12.holds (k:Nat):(q12.ct k).Holds Tryz.prog 170:=
 cO sg.kit Tryz.f170 _ q12.d 3 k (fun j _=>⟨q24.holds j,True.intro⟩)
def Ri.ct (k:Nat):Ct sg:=⟨true,⟨[(0,.one (.val (.int .u8)))],[]⟩,⟨[(0,oB)],[]⟩,[(.int .u8)],[.bool],fun h=>Ri.f k h⟩
def Ri.d:FD sg (HL sg.S [.bool]):=⟨fun _=> [],
 [],
 [],
 [],[]⟩
theorem Ri.holds (k:Nat):(Ri.ct k).Holds Tryz.prog 222:=
 cO sg.kit Tryz.f222 _ Ri.d 0 k (fun _ _=>True.intro)
def P_.ct (k:Nat):Ct sg:=⟨true,⟨[(0,.one (.val (.int .u8)))],[]⟩,⟨[(0,oB)],[]⟩,[(.int .u8)],[.bool],fun h=>P_.f k h⟩
def P_.d:FD sg (HL sg.S [.bool]):=⟨fun k=> [(222,Ri.ct k)],
 [],
 [],
 [],[]⟩
theorem P_.holds (k:Nat):(P_.ct k).Holds Tryz.prog 199:=
 cO sg.kit Tryz.f199 _ P_.d 0 k (fun j _=>⟨Ri.holds j,True.intro⟩)
def Bl.ct (k:Nat):Ct sg:=⟨true,⟨[(0,oS)],[]⟩,⟨[(0,oB)],[]⟩,[.str],[.bool],fun h=>Bl.f k h⟩
def Bl.d:FD sg (HL sg.S [.bool]):=⟨fun k=> [(170,q12.ct k),(199,P_.ct k)],
 [(4,⟨⟨[(0,oS),(3,oI)],[]⟩,[.str,tI],fun k h=>Bl.l4 k h.1 h.2⟩)],
 [(3,⟨⟨[(0,oS)],[]⟩,[.str],fun k h=>Bl.j3 k h⟩)],
 [],[]⟩
theorem Bl.holds (k:Nat):(Bl.ct k).Holds Tryz.prog 168:=
 cO sg.kit Tryz.f168 _ Bl.d 2 k (fun j _=>⟨q12.holds j,P_.holds j,True.intro⟩)
def Ik.ct (k:Nat):Ct sg:=⟨true,⟨[(0,.one (.val (.sl 3 tI)))],[]⟩,⟨[(0,oB)],[]⟩,[(.sl 3 tI)],[.bool],fun h=>Ik.f k h⟩
def Ik.d:FD sg (HL sg.S [.bool]):=⟨fun _=> [],
 [(2,⟨⟨[(0,.one (.val (.sl 3 tI))),(3,oI)],[]⟩,[(.sl 3 tI),tI],fun k h=>Ik.l2 k h.1 h.2⟩)],
 [],
 [(4,[[0,1,2,3,4,5,6,7,8,9,10,11,12,13,14,15,16,17,18,19,20]])],[]⟩
theorem Ik.holds (k:Nat):(Ik.ct k).Holds Tryz.prog 169:=
 cO sg.kit Tryz.f169 _ Ik.d 1 k (fun _ _=>True.intro)
def qo.ct (k:Nat):Ct sg:=⟨true,⟨[(0,.st 1),(1,oI)],[]⟩,⟨[(0,oB)],[]⟩,[(.st 1),tI],[.bool],fun h=>qo.f k h.1 h.2⟩
def qo.d:FD sg (HL sg.S [.bool]):=⟨fun k=> [(97,qo.ct k),(168,Bl.ct k),(169,Ik.ct k),(170,q12.ct k)],
 [(14,⟨⟨[(1,oI),(2,.one (.ptr 0 0)),(5,oI)],[.cells [] [.val tI,.any,.any,.any,.val (.sl 26 (.st 1))]]⟩,[tI,tI,tI,(.sl 26 (.st 1))],fun k h=>qo.iO k h.1 h.2.1 h.2.2.1 h.2.2.2⟩)],
 [(11,⟨⟨[(1,oI),(2,.one (.ptr 0 0)),(64,oB)],[.cells [] [.val tI,.val .str,.val (.sl 3 tI),.val tI,.val (.sl 26 (.st 1))]]⟩,[tI,.bool,tI,.str,(.sl 3 tI),tI,(.sl 26 (.st 1))],fun k h=>qo.j11 k h.1 h.2.1 h.2.2.1 h.2.2.2.1 h.2.2.2.2.1 h.2.2.2.2.2.1 h.2.2.2.2.2.2⟩),
 (13,⟨⟨[(1,oI),(2,.one (.ptr 0 0))],[.cells [] [.val tI,.any,.any,.any,.val (.sl 26 (.st 1))]]⟩,[tI,tI,(.sl 26 (.st 1))],fun k h=>qo.j13 k h.1 h.2.1 h.2.2⟩)],
 [],[]⟩
theorem qo.all: ∀k:Nat,(qo.ct k).Holds Tryz.prog 97:=
 jo eX fun k ih=>
 cO sg.kit Tryz.f97 _ qo.d 3 k (fun j hj=>⟨(ih j hj),Bl.holds j,Ik.holds j,q12.holds j,True.intro⟩)
theorem qo.holds (k:Nat):(qo.ct k).Holds Tryz.prog 97:=(qo.all k)
def yj.ct (k:Nat):Ct sg:=⟨true,⟨[(0,.st 1)],[]⟩,⟨[(0,oI)],[]⟩,[(.st 1)],[tI],fun h=>yj.f k h⟩
def yj.d:FD sg (HL sg.S [tI]):=⟨fun k=> [(98,yj.ct k)],
 [(3,⟨⟨[(1,.one (.ptr 0 0)),(3,oI),(4,oI)],[.cells [] [.any,.any,.any,.any,.val (.sl 26 (.st 1))]]⟩,[tI,tI,(.sl 26 (.st 1))],fun k h=>yj.l3 k h.1 h.2.1 h.2.2⟩)],
 [],
 [],[]⟩
theorem yj.all: ∀k:Nat,(yj.ct k).Holds Tryz.prog 98:=
 jo eX fun k ih=>
 cO sg.kit Tryz.f98 _ yj.d 1 k (fun j hj=>⟨(ih j hj),True.intro⟩)
theorem yj.holds (k:Nat):(yj.ct k).Holds Tryz.prog 98:=(yj.all k)
def q13.ct (k:Nat):Ct sg:=⟨true,⟨[(0,.st 1)],[]⟩,⟨[(0,oB)],[]⟩,[(.st 1)],[.bool],fun h=>q13.f k h⟩
def q13.d:FD sg (HL sg.S [.bool]):=⟨fun k=> [(97,qo.ct k),(98,yj.ct k)],
 [],
 [],
 [],[]⟩
theorem q13.holds (k:Nat):(q13.ct k).Holds Tryz.prog 25:=
 cO sg.kit Tryz.f25 _ q13.d 0 k (fun j _=>⟨qo.holds j,yj.holds j,True.intro⟩)
def I4.ct (k:Nat):Ct sg:=⟨true,⟨[(0,.st 1)],[]⟩,⟨[(0,oB)],[]⟩,[(.st 1)],[.bool],fun h=>I4.f k h⟩
def I4.d:FD sg (HL sg.S [.bool]):=⟨fun _=> [],
 [],
 [],
 [],[]⟩
theorem I4.holds (k:Nat):(I4.ct k).Holds Tryz.prog 117:=
 cO sg.kit Tryz.f117 _ I4.d 0 k (fun _ _=>True.intro)
def EM.ct (k:Nat):Ct sg:=⟨true,⟨[(0,.one (.val (.sl 26 (.st 1))))],[]⟩,⟨[(0,oB)],[]⟩,[(.sl 26 (.st 1))],[.bool],fun h=>EM.f k h⟩
def EM.d:FD sg (HL sg.S [.bool]):=⟨fun k=> [(25,q13.ct k),(108,q11.ct k),(117,I4.ct k)],
 [(2,⟨⟨[(0,.one (.val (.sl 26 (.st 1)))),(3,oI)],[]⟩,[(.sl 26 (.st 1)),tI],fun k h=>EM.l2 k h.1 h.2⟩)],
 [],
 [],[]⟩
theorem EM.holds (k:Nat):(EM.ct k).Holds Tryz.prog 41:=
 cO sg.kit Tryz.f41 _ EM.d 1 k (fun j _=>⟨q13.holds j,q11.holds j,I4.holds j,True.intro⟩)
def q16.ct (k:Nat):Ct sg:=⟨true,⟨[(0,.st 1)],[]⟩,⟨[(0,oI)],[]⟩,[(.st 1)],[tI],fun h=>q16.f k h⟩
def q16.d:FD sg (HL sg.S [tI]):=⟨fun k=> [(107,wS.ct k),(108,q11.ct k)],
 [(4,⟨⟨[(3,oI),(4,.one (.val (.sl 26 (.st 1)))),(5,oI)],[]⟩,[tI,(.sl 26 (.st 1)),tI],fun k h=>q16.l4 k h.1 h.2.1 h.2.2⟩)],
 [],
 [],[]⟩
theorem q16.holds (k:Nat):(q16.ct k).Holds Tryz.prog 119:=
 cO sg.kit Tryz.f119 _ q16.d 1 k (fun j _=>⟨wS.holds j,q11.holds j,True.intro⟩)
def qs.ct (k:Nat):Ct sg:=⟨true,⟨[(0,.st 1)],[]⟩,⟨[(0,oB)],[]⟩,[(.st 1)],[.bool],fun h=>qs.f k h⟩
def qs.d:FD sg (HL sg.S [.bool]):=⟨fun k=> [(42,qs.ct k),(108,q11.ct k),(119,q16.ct k)],
 [(8,⟨⟨[(1,.one (.ptr 0 0)),(3,oI)],[.cells [] [.any,.any,.any,.any,.val (.sl 26 (.st 1))]]⟩,[tI,(.sl 26 (.st 1))],fun k h=>qs.l8 k h.1 h.2⟩)],
 [(7,⟨⟨[(1,.one (.ptr 0 0))],[.cells [] [.any,.any,.any,.any,.val (.sl 26 (.st 1))]]⟩,[(.sl 26 (.st 1))],fun k h=>qs.j7 k h⟩)],
 [],[]⟩
theorem qs.all: ∀k:Nat,(qs.ct k).Holds Tryz.prog 42:=
 jo eX fun k ih=>
 cO sg.kit Tryz.f42 _ qs.d 2 k (fun j hj=>⟨(ih j hj),q11.holds j,q16.holds j,True.intro⟩)
theorem qs.holds (k:Nat):(qs.ct k).Holds Tryz.prog 42:=(qs.all k)
def Io.ct (k:Nat):Ct sg:=⟨true,⟨[(0,.one (.val (.sl 3 tI))),(1,.one (.val (.sl 3 tI)))],[]⟩,⟨[(0,oB)],[]⟩,[(.sl 3 tI),(.sl 3 tI)],[.bool],fun h=>Io.f k h.1 h.2⟩
def Io.d:FD sg (HL sg.S [.bool]):=⟨fun _=> [],
 [(4,⟨⟨[(0,.one (.val (.sl 3 tI))),(1,.one (.val (.sl 3 tI))),(5,oI)],[]⟩,[(.sl 3 tI),(.sl 3 tI),tI],fun k h=>Io.l4 k h.1 h.2.1 h.2.2⟩)],
 [],
 [(6,[[0,1,2,3,4,5,6,7,8]])],[]⟩
theorem Io.holds (k:Nat):(Io.ct k).Holds Tryz.prog 180:=
 cO sg.kit Tryz.f180 _ Io.d 1 k (fun _ _=>True.intro)
def Qa.ct (k:Nat):Ct sg:=⟨true,⟨[(0,.st 1),(1,.st 1)],[]⟩,⟨[(0,oB)],[]⟩,[(.st 1),(.st 1)],[.bool],fun h=>Qa.f k h.1 h.2⟩
def Qa.d:FD sg (HL sg.S [.bool]):=⟨fun k=> [(180,Io.ct k)],
 [],
 [],
 [],[]⟩
theorem Qa.holds (k:Nat):(Qa.ct k).Holds Tryz.prog 120:=
 cO sg.kit Tryz.f120 _ Qa.d 0 k (fun j _=>⟨Io.holds j,True.intro⟩)
def xG.ct (k:Nat):Ct sg:=⟨true,⟨[(0,.one (.val (.sl 26 (.st 1)))),(1,.st 1)],[]⟩,⟨[(0,oB)],[]⟩,[(.sl 26 (.st 1)),(.st 1)],[.bool],fun h=>xG.f k h.1 h.2⟩
def xG.d:FD sg (HL sg.S [.bool]):=⟨fun k=> [(120,Qa.ct k)],
 [(2,⟨⟨[(0,.one (.val (.sl 26 (.st 1)))),(3,.one (.ptr 0 0)),(5,oI)],[.cells [] [.val tI,.val .str,.val (.sl 3 tI),.val tI,.val (.sl 26 (.st 1))]]⟩,[(.sl 26 (.st 1)),tI,tI,.str,(.sl 3 tI),tI,(.sl 26 (.st 1))],fun k h=>xG.l2 k h.1 h.2.1 h.2.2.1 h.2.2.2.1 h.2.2.2.2.1 h.2.2.2.2.2.1 h.2.2.2.2.2.2⟩)],
 [],
 [(4,[[0,1,2,3,4,5]])],[]⟩
theorem xG.holds (k:Nat):(xG.ct k).Holds Tryz.prog 44:=
 cO sg.kit Tryz.f44 _ xG.d 1 k (fun j _=>⟨Qa.holds j,True.intro⟩)
def uQ.ct (k:Nat):Ct sg:=⟨false,⟨[(0,.st 1),(1,.one (.val (.sl 26 (.st 1))))],[]⟩,⟨[(0,.one (.arr 0))],[.arr 26 (.st 1)]⟩,[(.st 1),(.sl 26 (.st 1))],[(.sl 26 (.st 1))],fun h=>uQ.f k h.1 h.2⟩
def uQ.d:FD sg (HL sg.S [(.sl 26 (.st 1))]):=⟨fun k=> [(43,uQ.ct k),(44,xG.ct k),(108,q11.ct k),(117,I4.ct k)],
 [(7,⟨⟨[(1,.one (.val (.sl 26 (.st 1)))),(2,.one (.ptr 0 0)),(5,.one (.arr 1)),(6,oI)],[.cells [] [.any,.any,.any,.any,.val (.sl 26 (.st 1))],.arr 26 (.st 1)]⟩,[(.sl 26 (.st 1)),tI,(.sl 26 (.st 1)),(.sl 26 (.st 1))],fun k h=>uQ.l7 k h.1 h.2.1 h.2.2.1 h.2.2.2⟩)],
 [],
 [],[]⟩
theorem uQ.all: ∀k:Nat,(uQ.ct k).Holds Tryz.prog 43:=
 jo eX fun k ih=>
 cO sg.kit Tryz.f43 _ uQ.d 1 k (fun j hj=>⟨(ih j hj),xG.holds j,q11.holds j,I4.holds j,True.intro⟩)
theorem uQ.holds (k:Nat):(uQ.ct k).Holds Tryz.prog 43:=(uQ.all k)
def yl.ct (k:Nat):Ct sg:=⟨true,⟨[(0,.st 1),(1,.one (.val (.sl 26 (.st 1))))],[]⟩,⟨[(0,oB)],[]⟩,[(.st 1),(.sl 26 (.st 1))],[.bool],fun h=>yl.f k h.1 h.2⟩
def yl.d:FD sg (HL sg.S [.bool]):=⟨fun k=> [(25,q13.ct k),(41,EM.ct k),(42,qs.ct k),(43,uQ.ct k),(44,xG.ct k)],
 [(5,⟨⟨[(5,.one (.val (.sl 26 (.st 1)))),(6,oI)],[]⟩,[(.sl 26 (.st 1)),tI],fun k h=>yl.l5 k h.1 h.2⟩)],
 [(3,⟨⟨[(1,.one (.val (.sl 26 (.st 1)))),(2,.one (.ptr 0 0))],[.cells [] [.val tI,.val .str,.val (.sl 3 tI),.val tI,.val (.sl 26 (.st 1))]]⟩,[(.sl 26 (.st 1)),tI,.str,(.sl 3 tI),tI,(.sl 26 (.st 1))],fun k h=>yl.j3 k h.1 h.2.1 h.2.2.1 h.2.2.2.1 h.2.2.2.2.1 h.2.2.2.2.2⟩)],
 [(7,[[0,1,2,3,4,5,6,7]])],[]⟩
theorem yl.holds (k:Nat):(yl.ct k).Holds Tryz.prog 11:=
 cO sg.kit Tryz.f11 _ yl.d 2 k (fun j _=>⟨q13.holds j,EM.holds j,qs.holds j,uQ.holds j,xG.holds j,True.intro⟩)
def qw.ct (k:Nat):Ct sg:=⟨true,⟨[(0,.st 1),(1,.st 1)],[]⟩,⟨[(0,oI)],[]⟩,[(.st 1),(.st 1)],[tI],fun h=>qw.f k h.1 h.2⟩
def qw.d:FD sg (HL sg.S [tI]):=⟨fun k=> [(43,uQ.ct k),(44,xG.ct k),(107,wS.ct k),(119,q16.ct k),(159,qw.ct k)],
 [(4,⟨⟨[(2,.one (.ptr 0 0)),(3,.one (.ptr 1 0)),(5,.one (.val (.sl 26 (.st 1)))),(6,oI),(7,oI)],[.cells [] [.any,.any,.any,.any,.val (.sl 26 (.st 1))],.cells [] [.val tI,.val .str,.val (.sl 3 tI),.val tI,.val (.sl 26 (.st 1))]]⟩,[(.sl 26 (.st 1)),tI,tI,(.sl 26 (.st 1)),tI,.str,(.sl 3 tI),tI,(.sl 26 (.st 1))],fun k h=>qw.l4 k h.1 h.2.1 h.2.2.1 h.2.2.2.1 h.2.2.2.2.1 h.2.2.2.2.2.1 h.2.2.2.2.2.2.1 h.2.2.2.2.2.2.2.1 h.2.2.2.2.2.2.2.2⟩)],
 [(100006,⟨⟨[(2,.one (.ptr 0 0)),(3,.one (.ptr 1 0)),(5,.one (.val (.sl 26 (.st 1)))),(6,oI),(7,oI)],[.cells [] [.any,.any,.any,.any,.val (.sl 26 (.st 1))],.cells [] [.val tI,.val .str,.val (.sl 3 tI),.val tI,.val (.sl 26 (.st 1))]]⟩,[(.sl 26 (.st 1)),tI,tI,(.sl 26 (.st 1)),tI,.str,(.sl 3 tI),tI,(.sl 26 (.st 1))],fun k h=>qw.d6 k h.1 h.2.1 h.2.2.1 h.2.2.2.1 h.2.2.2.2.1 h.2.2.2.2.2.1 h.2.2.2.2.2.2.1 h.2.2.2.2.2.2.2.1 h.2.2.2.2.2.2.2.2⟩)],
 [(6,[[0,2,1,3,4,5,6,7,8],[0,2,1,3,4,5,7,6,8],[0,2,1,3,4,7,5,6,8],[0,2,1,3,5,4,6,7,8],[0,2,1,3,5,4,7,6,8],[0,2,1,3,7,4,5,6,8],[0,2,1,3,7,5,4,6,8],[0,2,5,1,3,4,6,7,8],[0,2,5,1,3,4,7,6,8],[0,2,7,1,3,4,5,6,8],[0,2,7,1,3,5,4,6,8],[0,2,7,5,1,3,4,6,8]]),(7,[[0,1,2,3,4,5,6,7]])],[]⟩
theorem qw.all: ∀k:Nat,(qw.ct k).Holds Tryz.prog 159:=
 jo eX fun k ih=>
 cO sg.kit Tryz.f159 _ qw.d 13 k (fun j hj=>⟨uQ.holds j,xG.holds j,wS.holds j,q16.holds j,(ih j hj),True.intro⟩)
theorem qw.holds (k:Nat):(qw.ct k).Holds Tryz.prog 159:=(qw.all k)
def q22.ct (k:Nat):Ct sg:=⟨false,⟨[(0,.st 1),(1,oI)],[]⟩,⟨[(0,.st 1)],[]⟩,[(.st 1),tI],[(.st 1)],fun h=>q22.f k h.1 h.2⟩
def q22.d:FD sg (HL sg.S [(.st 1)]):=⟨fun _=> [],
 [],
 [(100003,⟨⟨[(1,oI),(2,.one (.ptr 0 0)),(4,.one (.ptr 1 0))],[.cells [] [.val tI,.any,.any,.any,.val (.sl 26 (.st 1))],.cells [] [.any,.any,.any,.any,.any]]⟩,[tI,tI,(.sl 26 (.st 1))],fun k h=>q22.d3 k h.1 h.2.1 h.2.2⟩)],
 [(3,[[0,3,5,1,2,4,6,7,8,9],[0,3,5,1,4,6,2,7,8,9],[0,3,5,2,4,6,1,7,8,9],[0,3,5,2,4,6,7,1,8,9],[0,3,5,4,6,1,2,7,8,9],[0,3,5,4,6,2,1,7,8,9],[0,3,5,4,6,2,7,1,8,9]])],[]⟩
theorem q22.holds (k:Nat):(q22.ct k).Holds Tryz.prog 179:=
 cO sg.kit Tryz.f179 _ q22.d 7 k (fun _ _=>True.intro)
def I5.ct (k:Nat):Ct sg:=⟨true,⟨[(0,.one (.val (.sl 3 tI))),(1,oI)],[]⟩,⟨[(0,oB)],[]⟩,[(.sl 3 tI),tI],[.bool],fun h=>I5.f k h.1 h.2⟩
def I5.d:FD sg (HL sg.S [.bool]):=⟨fun _=> [],
 [(2,⟨⟨[(0,.one (.val (.sl 3 tI))),(1,oI),(5,oI)],[]⟩,[(.sl 3 tI),tI,tI],fun k h=>I5.l2 k h.1 h.2.1 h.2.2⟩)],
 [],
 [],[]⟩
theorem I5.holds (k:Nat):(I5.ct k).Holds Tryz.prog 240:=
 cO sg.kit Tryz.f240 _ I5.d 1 k (fun _ _=>True.intro)
def q1z.ct (k:Nat):Ct sg:=⟨true,⟨[(0,.one (.val (.sl 3 tI))),(1,.one (.val (.sl 3 tI)))],[]⟩,⟨[(0,oB)],[]⟩,[(.sl 3 tI),(.sl 3 tI)],[.bool],fun h=>q1z.f k h.1 h.2⟩
def q1z.d:FD sg (HL sg.S [.bool]):=⟨fun k=> [(240,I5.ct k)],
 [(2,⟨⟨[(0,.one (.val (.sl 3 tI))),(1,.one (.val (.sl 3 tI))),(5,oI)],[]⟩,[(.sl 3 tI),(.sl 3 tI),tI],fun k h=>q1z.l2 k h.1 h.2.1 h.2.2⟩)],
 [],
 [],[]⟩
theorem q1z.holds (k:Nat):(q1z.ct k).Holds Tryz.prog 225:=
 cO sg.kit Tryz.f225 _ q1z.d 1 k (fun j _=>⟨I5.holds j,True.intro⟩)
def Qb.ct (k:Nat):Ct sg:=⟨true,⟨[(0,.st 2),(1,.st 1)],[]⟩,⟨[(0,oB)],[]⟩,[(.st 2),(.st 1)],[.bool],fun h=>Qb.f k h.1 h.2⟩
def Qb.d:FD sg (HL sg.S [.bool]):=⟨fun k=> [(225,q1z.ct k)],
 [],
 [],
 [],[]⟩
theorem Qb.holds (k:Nat):(Qb.ct k).Holds Tryz.prog 205:=
 cO sg.kit Tryz.f205 _ Qb.d 0 k (fun j _=>⟨q1z.holds j,True.intro⟩)
def Ip.ct (k:Nat):Ct sg:=⟨true,⟨[(0,.one (.val (.sl 197 (.st 2)))),(1,.st 1),(2,.one (.val (.sl 3 tI)))],[]⟩,⟨[(0,oB)],[]⟩,[(.sl 197 (.st 2)),(.st 1),(.sl 3 tI)],[.bool],fun h=>Ip.f k h.1 h.2.1 h.2.2⟩
def Ip.d:FD sg (HL sg.S [.bool]):=⟨fun k=> [(205,Qb.ct k),(225,q1z.ct k)],
 [(2,⟨⟨[(0,.one (.val (.sl 197 (.st 2)))),(2,.one (.val (.sl 3 tI))),(4,.one (.ptr 0 0)),(7,oI)],[.cells [] [.val tI,.val .str,.val (.sl 3 tI),.val tI,.val (.sl 26 (.st 1))]]⟩,[(.sl 197 (.st 2)),(.sl 3 tI),tI,tI,.str,(.sl 3 tI),tI,(.sl 26 (.st 1))],fun k h=>Ip.l2 k h.1 h.2.1 h.2.2.1 h.2.2.2.1 h.2.2.2.2.1 h.2.2.2.2.2.1 h.2.2.2.2.2.2.1 h.2.2.2.2.2.2.2⟩)],
 [],
 [(4,[[0,1,2,3,4,5,6,7,8,9,10,11,12,13,14,15]])],[]⟩
theorem Ip.holds (k:Nat):(Ip.ct k).Holds Tryz.prog 206:=
 cO sg.kit Tryz.f206 _ Ip.d 1 k (fun j _=>⟨Qb.holds j,q1z.holds j,True.intro⟩)
def q23.ct (k:Nat):Ct sg:=⟨true,⟨[(0,.one (.val (.sl 197 (.st 2)))),(1,.st 1)],[]⟩,⟨[(0,oS),(1,oI)],[]⟩,[(.sl 197 (.st 2)),(.st 1)],[.str,tI],fun h=>q23.f k h.1 h.2⟩
def q23.d:FD sg (HL sg.S [.str,tI]):=⟨fun k=> [(205,Qb.ct k),(206,Ip.ct k)],
 [(5,⟨⟨[(0,.one (.val (.sl 197 (.st 2)))),(3,.one (.ptr 0 0)),(6,oI),(7,oI)],[.cells [] [.val tI,.val .str,.val (.sl 3 tI),.val tI,.val (.sl 26 (.st 1))]]⟩,[(.sl 197 (.st 2)),tI,tI,tI,.str,(.sl 3 tI),tI,(.sl 26 (.st 1))],fun k h=>q23.l5 k h.1 h.2.1 h.2.2.1 h.2.2.2.1 h.2.2.2.2.1 h.2.2.2.2.2.1 h.2.2.2.2.2.2.1 h.2.2.2.2.2.2.2⟩)],
 [],
 [(7,[[0,1,2,3,4,5,6]]),(9,[[0,1,2,3,4,5,6,7]])],[]⟩
theorem q23.holds (k:Nat):(q23.ct k).Holds Tryz.prog 177:=
 cO sg.kit Tryz.f177 _ q23.d 1 k (fun j _=>⟨Qb.holds j,Ip.holds j,True.intro⟩)
def NQ.ct (k:Nat):Ct sg:=⟨true,⟨[(0,.one (.val (.sl 197 (.st 2)))),(1,.st 1),(2,.st 1)],[]⟩,⟨[(0,oB)],[]⟩,[(.sl 197 (.st 2)),(.st 1),(.st 1)],[.bool],fun h=>NQ.f k h.1 h.2.1 h.2.2⟩
def NQ.d:FD sg (HL sg.S [.bool]):=⟨fun k=> [(177,q23.ct k)],
 [],
 [(5,⟨⟨[(4,.one (.ptr 0 0)),(5,.one (.ptr 1 0)),(7,oS),(8,oI),(9,oS)],[.cells [] [.any,.val .str,.any,.any,.any],.cells [] [.any,.val .str,.any,.any,.any]]⟩,[.str,tI,.str,.str,.str],fun k h=>NQ.j5 k h.1 h.2.1 h.2.2.1 h.2.2.2.1 h.2.2.2.2⟩)],
 [],[]⟩
theorem NQ.holds (k:Nat):(NQ.ct k).Holds Tryz.prog 116:=
 cO sg.kit Tryz.f116 _ NQ.d 1 k (fun j _=>⟨q23.holds j,True.intro⟩)
def qe.ct (k:Nat):Ct sg:=⟨false,⟨[(0,.one (.ptr 0 0)),(1,.st 1),(2,.st 1)],[.cells [] [.val (.sl 26 (.st 1)),.val (.sl 197 (.st 2)),.arr 1,.arr 2],.arr 26 (.st 1),.arr 26 (.st 1)]⟩,⟨[(0,.one (.arr 1)),(1,oB)],[.cells [] [.val (.sl 26 (.st 1)),.val (.sl 197 (.st 2)),.arr 2,.arr 3],.arr 96 (.st 0),.arr 26 (.st 1),.arr 26 (.st 1)]⟩,[(.st 1),(.st 1),(.sl 26 (.st 1)),(.sl 197 (.st 2)),(.sl 26 (.st 1)),(.sl 26 (.st 1))],[.bool,(.sl 26 (.st 1)),(.sl 197 (.st 2)),(.sl 96 (.st 0)),(.sl 26 (.st 1)),(.sl 26 (.st 1))],fun h=>qe.f k h.1 h.2.1 h.2.2.1 h.2.2.2.1 h.2.2.2.2.1 h.2.2.2.2.2⟩
def q9.ct (k:Nat):Ct sg:=⟨false,⟨[(0,.one (.ptr 0 0)),(1,.st 1),(2,.one (.val (.sl 26 (.st 1))))],[.cells [] [.val (.sl 26 (.st 1)),.val (.sl 197 (.st 2)),.arr 1,.arr 2],.arr 26 (.st 1),.arr 26 (.st 1)]⟩,⟨[(0,.one (.val (.sl 96 (.st 0)))),(1,oB)],[.cells [] [.val (.sl 26 (.st 1)),.val (.sl 197 (.st 2)),.arr 1,.arr 2],.arr 26 (.st 1),.arr 26 (.st 1)]⟩,[(.st 1),(.sl 26 (.st 1)),(.sl 26 (.st 1)),(.sl 197 (.st 2)),(.sl 26 (.st 1)),(.sl 26 (.st 1))],[(.sl 96 (.st 0)),.bool,(.sl 26 (.st 1)),(.sl 197 (.st 2)),(.sl 26 (.st 1)),(.sl 26 (.st 1))],fun h=>q9.f k h.1 h.2.1 h.2.2.1 h.2.2.2.1 h.2.2.2.2.1 h.2.2.2.2.2⟩
def q6.aa1:GX:=⟨[(0,.one (.ptr 0 0)),(4,.one (.ptr 1 0)),(5,.one (.ptr 2 0)),(12,.one (.arr 3)),(13,oI)],[.cells [] [.val (.sl 26 (.st 1)),.val (.sl 197 (.st 2)),.arr 4,.arr 5],.cells [] [.any,.any,.any,.any,.val (.sl 26 (.st 1))],.cells [] [.val tI,.val .str,.val (.sl 3 tI),.val tI,.val (.sl 26 (.st 1))],.arr 96 (.st 0),.arr 26 (.st 1),.arr 26 (.st 1)]⟩
def q6.Au:Cut sg (HL sg.S [.bool,(.sl 26 (.st 1)),(.sl 197 (.st 2)),(.sl 96 (.st 0)),(.sl 26 (.st 1)),(.sl 26 (.st 1))]):=⟨q6.aa1,[tI,(.sl 26 (.st 1)),(.sl 197 (.st 2)),(.sl 26 (.st 1)),tI,.str,(.sl 3 tI),tI,(.sl 26 (.st 1)),(.sl 96 (.st 0)),(.sl 26 (.st 1)),(.sl 26 (.st 1))],fun k h=>q6.d29 k h.1 h.2.1 h.2.2.1 h.2.2.2.1 h.2.2.2.2.1 h.2.2.2.2.2.1 h.2.2.2.2.2.2.1 h.2.2.2.2.2.2.2.1 h.2.2.2.2.2.2.2.2.1 h.2.2.2.2.2.2.2.2.2.1 h.2.2.2.2.2.2.2.2.2.2.1 h.2.2.2.2.2.2.2.2.2.2.2⟩
def q6.aa2:GX:=⟨[(0,.one (.ptr 0 0)),(4,.one (.ptr 1 0)),(5,.one (.ptr 2 0)),(8,.one (.val (.sl 26 (.st 1)))),(9,.one (.val (.sl 26 (.st 1)))),(10,oI),(11,oI),(77,oB)],[.cells [] [.val (.sl 26 (.st 1)),.val (.sl 197 (.st 2)),.arr 3,.arr 4],.cells [] [.val tI,.any,.any,.any,.val (.sl 26 (.st 1))],.cells [] [.val tI,.val .str,.val (.sl 3 tI),.val tI,.val (.sl 26 (.st 1))],.arr 26 (.st 1),.arr 26 (.st 1)]⟩
def q6.Yi:Cut sg (HL sg.S [.bool,(.sl 26 (.st 1)),(.sl 197 (.st 2)),(.sl 96 (.st 0)),(.sl 26 (.st 1)),(.sl 26 (.st 1))]):=⟨q6.aa2,[(.sl 26 (.st 1)),(.sl 26 (.st 1)),tI,tI,.bool,(.sl 26 (.st 1)),(.sl 197 (.st 2)),tI,(.sl 26 (.st 1)),tI,.str,(.sl 3 tI),tI,(.sl 26 (.st 1)),(.sl 26 (.st 1)),(.sl 26 (.st 1))],fun k h=>q6.j10 k h.1 h.2.1 h.2.2.1 h.2.2.2.1 h.2.2.2.2.1 h.2.2.2.2.2.1 h.2.2.2.2.2.2.1 h.2.2.2.2.2.2.2.1 h.2.2.2.2.2.2.2.2.1 h.2.2.2.2.2.2.2.2.2.1 h.2.2.2.2.2.2.2.2.2.2.1 h.2.2.2.2.2.2.2.2.2.2.2.1 h.2.2.2.2.2.2.2.2.2.2.2.2.1 h.2.2.2.2.2.2.2.2.2.2.2.2.2.1 h.2.2.2.2.2.2.2.2.2.2.2.2.2.2.1 h.2.2.2.2.2.2.2.2.2.2.2.2.2.2.2⟩
def q6.acD:GX:=⟨[(0,.one (.ptr 0 0)),(4,.one (.ptr 1 0)),(5,.one (.ptr 2 0))],[.cells [] [.val (.sl 26 (.st 1)),.val (.sl 197 (.st 2)),.arr 3,.arr 4],.cells [] [.val tI,.val .str,.val (.sl 3 tI),.val tI,.val (.sl 26 (.st 1))],.cells [] [.val tI,.val .str,.val (.sl 3 tI),.val tI,.val (.sl 26 (.st 1))],.arr 26 (.st 1),.arr 26 (.st 1)]⟩
def q6.aa3:Cut sg (HL sg.S [.bool,(.sl 26 (.st 1)),(.sl 197 (.st 2)),(.sl 96 (.st 0)),(.sl 26 (.st 1)),(.sl 26 (.st 1))]):=⟨q6.acD,[(.sl 26 (.st 1)),(.sl 197 (.st 2)),tI,.str,(.sl 3 tI),tI,(.sl 26 (.st 1)),tI,.str,(.sl 3 tI),tI,(.sl 26 (.st 1)),(.sl 26 (.st 1)),(.sl 26 (.st 1))],fun k h=>q6.j3 k h.1 h.2.1 h.2.2.1 h.2.2.2.1 h.2.2.2.2.1 h.2.2.2.2.2.1 h.2.2.2.2.2.2.1 h.2.2.2.2.2.2.2.1 h.2.2.2.2.2.2.2.2.1 h.2.2.2.2.2.2.2.2.2.1 h.2.2.2.2.2.2.2.2.2.2.1 h.2.2.2.2.2.2.2.2.2.2.2.1 h.2.2.2.2.2.2.2.2.2.2.2.2.1 h.2.2.2.2.2.2.2.2.2.2.2.2.2⟩
def q6.acE:GX:=⟨[(0,.one (.ptr 0 0)),(4,.one (.ptr 1 0)),(5,.one (.ptr 2 0)),(8,.one (.val (.sl 26 (.st 1)))),(9,.one (.val (.sl 26 (.st 1)))),(10,oI),(11,oI)],[.cells [] [.val (.sl 26 (.st 1)),.val (.sl 197 (.st 2)),.arr 3,.arr 4],.cells [] [.val tI,.any,.any,.any,.val (.sl 26 (.st 1))],.cells [] [.val tI,.val .str,.val (.sl 3 tI),.val tI,.val (.sl 26 (.st 1))],.arr 26 (.st 1),.arr 26 (.st 1)]⟩
def q6.aa4:Cut sg (HL sg.S [.bool,(.sl 26 (.st 1)),(.sl 197 (.st 2)),(.sl 96 (.st 0)),(.sl 26 (.st 1)),(.sl 26 (.st 1))]):=⟨q6.acE,[(.sl 26 (.st 1)),(.sl 26 (.st 1)),tI,tI,(.sl 26 (.st 1)),(.sl 197 (.st 2)),tI,(.sl 26 (.st 1)),tI,.str,(.sl 3 tI),tI,(.sl 26 (.st 1)),(.sl 26 (.st 1)),(.sl 26 (.st 1))],fun k h=>q6.j9 k h.1 h.2.1 h.2.2.1 h.2.2.2.1 h.2.2.2.2.1 h.2.2.2.2.2.1 h.2.2.2.2.2.2.1 h.2.2.2.2.2.2.2.1 h.2.2.2.2.2.2.2.2.1 h.2.2.2.2.2.2.2.2.2.1 h.2.2.2.2.2.2.2.2.2.2.1 h.2.2.2.2.2.2.2.2.2.2.2.1 h.2.2.2.2.2.2.2.2.2.2.2.2.1 h.2.2.2.2.2.2.2.2.2.2.2.2.2.1 h.2.2.2.2.2.2.2.2.2.2.2.2.2.2⟩
def q6.aa5:GX:=⟨[(0,.one (.ptr 0 0)),(4,.one (.ptr 1 0)),(5,.one (.ptr 2 0)),(8,.one (.val (.sl 26 (.st 1)))),(9,.one (.val (.sl 26 (.st 1)))),(10,oI),(11,oI),(12,.one (.arr 3)),(13,oI),(14,oI)],[.cells [] [.val (.sl 26 (.st 1)),.val (.sl 197 (.st 2)),.arr 4,.arr 5],.cells [] [.val tI,.any,.any,.any,.val (.sl 26 (.st 1))],.cells [] [.val tI,.val .str,.val (.sl 3 tI),.val tI,.val (.sl 26 (.st 1))],.arr 96 (.st 0),.arr 26 (.st 1),.arr 26 (.st 1)]⟩
def q6.Yj:Cut sg (HL sg.S [.bool,(.sl 26 (.st 1)),(.sl 197 (.st 2)),(.sl 96 (.st 0)),(.sl 26 (.st 1)),(.sl 26 (.st 1))]):=⟨q6.aa5,[(.sl 26 (.st 1)),(.sl 26 (.st 1)),tI,tI,tI,tI,(.sl 26 (.st 1)),(.sl 197 (.st 2)),tI,(.sl 26 (.st 1)),tI,.str,(.sl 3 tI),tI,(.sl 26 (.st 1)),(.sl 96 (.st 0)),(.sl 26 (.st 1)),(.sl 26 (.st 1))],fun k h=>q6.iO k h.1 h.2.1 h.2.2.1 h.2.2.2.1 h.2.2.2.2.1 h.2.2.2.2.2.1 h.2.2.2.2.2.2.1 h.2.2.2.2.2.2.2.1 h.2.2.2.2.2.2.2.2.1 h.2.2.2.2.2.2.2.2.2.1 h.2.2.2.2.2.2.2.2.2.2.1 h.2.2.2.2.2.2.2.2.2.2.2.1 h.2.2.2.2.2.2.2.2.2.2.2.2.1 h.2.2.2.2.2.2.2.2.2.2.2.2.2.1 h.2.2.2.2.2.2.2.2.2.2.2.2.2.2.1 h.2.2.2.2.2.2.2.2.2.2.2.2.2.2.2.1 h.2.2.2.2.2.2.2.2.2.2.2.2.2.2.2.2.1 h.2.2.2.2.2.2.2.2.2.2.2.2.2.2.2.2.2⟩
def q6.ct (k:Nat):Ct sg:=⟨false,⟨[(0,.one (.ptr 0 0)),(1,.st 1),(2,.st 1)],[.cells [] [.val (.sl 26 (.st 1)),.val (.sl 197 (.st 2)),.arr 1,.arr 2],.arr 26 (.st 1),.arr 26 (.st 1)]⟩,⟨[(0,.one (.arr 1)),(1,oB)],[.cells [] [.val (.sl 26 (.st 1)),.val (.sl 197 (.st 2)),.arr 2,.arr 3],.arr 96 (.st 0),.arr 26 (.st 1),.arr 26 (.st 1)]⟩,[(.st 1),(.st 1),(.sl 26 (.st 1)),(.sl 197 (.st 2)),(.sl 26 (.st 1)),(.sl 26 (.st 1))],[.bool,(.sl 26 (.st 1)),(.sl 197 (.st 2)),(.sl 96 (.st 0)),(.sl 26 (.st 1)),(.sl 26 (.st 1))],fun h=>q6.f k h.1 h.2.1 h.2.2.1 h.2.2.2.1 h.2.2.2.2.1 h.2.2.2.2.2⟩
def qe.d:FD sg (HL sg.S [.bool,(.sl 26 (.st 1)),(.sl 197 (.st 2)),(.sl 96 (.st 0)),(.sl 26 (.st 1)),(.sl 26 (.st 1))]):=⟨fun k=> [(44,xG.ct k),(106,qu.ct k),(116,NQ.ct k),(117,I4.ct k),(118,q6.ct k)],
 [],
 [(100004,⟨⟨[(0,.one (.ptr 0 0)),(4,.one (.ptr 1 0)),(5,.one (.ptr 2 0))],[.cells [] [.val (.sl 26 (.st 1)),.val (.sl 197 (.st 2)),.arr 3,.arr 4],.cells [] [.val tI,.val .str,.val (.sl 3 tI),.val tI,.val (.sl 26 (.st 1))],.cells [] [.val tI,.val .str,.val (.sl 3 tI),.val tI,.val (.sl 26 (.st 1))],.arr 26 (.st 1),.arr 26 (.st 1)]⟩,[(.sl 26 (.st 1)),(.sl 197 (.st 2)),tI,.str,(.sl 3 tI),tI,(.sl 26 (.st 1)),tI,.str,(.sl 3 tI),tI,(.sl 26 (.st 1)),(.sl 26 (.st 1)),(.sl 26 (.st 1))],fun k h=>qe.d4 k h.1 h.2.1 h.2.2.1 h.2.2.2.1 h.2.2.2.2.1 h.2.2.2.2.2.1 h.2.2.2.2.2.2.1 h.2.2.2.2.2.2.2.1 h.2.2.2.2.2.2.2.2.1 h.2.2.2.2.2.2.2.2.2.1 h.2.2.2.2.2.2.2.2.2.2.1 h.2.2.2.2.2.2.2.2.2.2.2.1 h.2.2.2.2.2.2.2.2.2.2.2.2.1 h.2.2.2.2.2.2.2.2.2.2.2.2.2⟩),
 (100005,⟨⟨[(0,.one (.ptr 0 0)),(4,.one (.ptr 1 0)),(5,.one (.ptr 2 0))],[.cells [] [.val (.sl 26 (.st 1)),.val (.sl 197 (.st 2)),.arr 3,.arr 4],.cells [] [.val tI,.val .str,.val (.sl 3 tI),.val tI,.val (.sl 26 (.st 1))],.cells [] [.val tI,.val .str,.val (.sl 3 tI),.val tI,.val (.sl 26 (.st 1))],.arr 26 (.st 1),.arr 26 (.st 1)]⟩,[(.sl 26 (.st 1)),(.sl 197 (.st 2)),tI,.str,(.sl 3 tI),tI,(.sl 26 (.st 1)),tI,.str,(.sl 3 tI),tI,(.sl 26 (.st 1)),(.sl 26 (.st 1)),(.sl 26 (.st 1))],fun k h=>qe.d5 k h.1 h.2.1 h.2.2.1 h.2.2.2.1 h.2.2.2.2.1 h.2.2.2.2.2.1 h.2.2.2.2.2.2.1 h.2.2.2.2.2.2.2.1 h.2.2.2.2.2.2.2.2.1 h.2.2.2.2.2.2.2.2.2.1 h.2.2.2.2.2.2.2.2.2.2.1 h.2.2.2.2.2.2.2.2.2.2.2.1 h.2.2.2.2.2.2.2.2.2.2.2.2.1 h.2.2.2.2.2.2.2.2.2.2.2.2.2⟩),
 (100006,⟨⟨[(0,.one (.ptr 0 0)),(4,.one (.ptr 1 0)),(5,.one (.ptr 2 0))],[.cells [] [.val (.sl 26 (.st 1)),.val (.sl 197 (.st 2)),.arr 3,.arr 4],.cells [] [.val tI,.val .str,.val (.sl 3 tI),.val tI,.val (.sl 26 (.st 1))],.cells [] [.val tI,.val .str,.val (.sl 3 tI),.val tI,.val (.sl 26 (.st 1))],.arr 26 (.st 1),.arr 26 (.st 1)]⟩,[(.sl 26 (.st 1)),(.sl 197 (.st 2)),tI,.str,(.sl 3 tI),tI,(.sl 26 (.st 1)),tI,.str,(.sl 3 tI),tI,(.sl 26 (.st 1)),(.sl 26 (.st 1)),(.sl 26 (.st 1))],fun k h=>qe.d6 k h.1 h.2.1 h.2.2.1 h.2.2.2.1 h.2.2.2.2.1 h.2.2.2.2.2.1 h.2.2.2.2.2.2.1 h.2.2.2.2.2.2.2.1 h.2.2.2.2.2.2.2.2.1 h.2.2.2.2.2.2.2.2.2.1 h.2.2.2.2.2.2.2.2.2.2.1 h.2.2.2.2.2.2.2.2.2.2.2.1 h.2.2.2.2.2.2.2.2.2.2.2.2.1 h.2.2.2.2.2.2.2.2.2.2.2.2.2⟩),
 (100010,⟨⟨[(4,.one (.ptr 1 0)),(5,.one (.ptr 2 0))],[.cells [] [.val (.sl 26 (.st 1)),.val (.sl 197 (.st 2)),.arr 3,.arr 4],.cells [] [.val tI,.val .str,.val (.sl 3 tI),.val tI,.val (.sl 26 (.st 1))],.cells [] [.val tI,.val .str,.val (.sl 3 tI),.val tI,.val (.sl 26 (.st 1))],.arr 26 (.st 1),.arr 26 (.st 1)]⟩,[(.sl 26 (.st 1)),(.sl 197 (.st 2)),tI,.str,(.sl 3 tI),tI,(.sl 26 (.st 1)),tI,.str,(.sl 3 tI),tI,(.sl 26 (.st 1)),(.sl 26 (.st 1)),(.sl 26 (.st 1))],fun k h=>qe.d10 k h.1 h.2.1 h.2.2.1 h.2.2.2.1 h.2.2.2.2.1 h.2.2.2.2.2.1 h.2.2.2.2.2.2.1 h.2.2.2.2.2.2.2.1 h.2.2.2.2.2.2.2.2.1 h.2.2.2.2.2.2.2.2.2.1 h.2.2.2.2.2.2.2.2.2.2.1 h.2.2.2.2.2.2.2.2.2.2.2.1 h.2.2.2.2.2.2.2.2.2.2.2.2.1 h.2.2.2.2.2.2.2.2.2.2.2.2.2⟩),
 (100012,⟨⟨[(4,.one (.ptr 1 0)),(5,.one (.ptr 2 0))],[.cells [] [.val (.sl 26 (.st 1)),.val (.sl 197 (.st 2)),.arr 3,.arr 4],.cells [] [.any,.val .str,.any,.any,.any],.cells [] [.val tI,.val .str,.any,.any,.any],.arr 26 (.st 1),.arr 26 (.st 1)]⟩,[(.sl 26 (.st 1)),(.sl 197 (.st 2)),.str,tI,.str,(.sl 26 (.st 1)),(.sl 26 (.st 1))],fun k h=>qe.d12 k h.1 h.2.1 h.2.2.1 h.2.2.2.1 h.2.2.2.2.1 h.2.2.2.2.2.1 h.2.2.2.2.2.2⟩),
 (2,⟨⟨[(0,.one (.ptr 0 0)),(4,.one (.ptr 1 0)),(5,.one (.ptr 2 0)),(8,oB)],[.cells [] [.val (.sl 26 (.st 1)),.val (.sl 197 (.st 2)),.arr 3,.arr 4],.cells [] [.val tI,.val .str,.val (.sl 3 tI),.val tI,.val (.sl 26 (.st 1))],.cells [] [.val tI,.val .str,.val (.sl 3 tI),.val tI,.val (.sl 26 (.st 1))],.arr 26 (.st 1),.arr 26 (.st 1)]⟩,[.bool,(.sl 26 (.st 1)),(.sl 197 (.st 2)),tI,.str,(.sl 3 tI),tI,(.sl 26 (.st 1)),tI,.str,(.sl 3 tI),tI,(.sl 26 (.st 1)),(.sl 26 (.st 1)),(.sl 26 (.st 1))],fun k h=>qe.j2 k h.1 h.2.1 h.2.2.1 h.2.2.2.1 h.2.2.2.2.1 h.2.2.2.2.2.1 h.2.2.2.2.2.2.1 h.2.2.2.2.2.2.2.1 h.2.2.2.2.2.2.2.2.1 h.2.2.2.2.2.2.2.2.2.1 h.2.2.2.2.2.2.2.2.2.2.1 h.2.2.2.2.2.2.2.2.2.2.2.1 h.2.2.2.2.2.2.2.2.2.2.2.2.1 h.2.2.2.2.2.2.2.2.2.2.2.2.2.1 h.2.2.2.2.2.2.2.2.2.2.2.2.2.2⟩)],
 [(1,[[0,1,2,3,4,5,6,7,8,9,10,11]]),(4,[[0,1,2,3,5,4,6,7,8,10,11,9,12],[0,1,2,3,5,4,6,7,8,10,11,12,9],[0,1,2,3,5,6,4,7,8,10,11,9,12],[0,1,2,3,5,6,4,7,8,10,11,12,9],[0,1,2,4,3,5,6,7,8,10,11,9,12],[0,1,2,4,3,5,6,7,8,10,11,12,9],[0,1,2,4,6,3,5,7,8,10,11,9,12],[0,1,2,4,6,3,5,7,8,10,11,12,9],[0,1,2,6,3,4,5,7,8,10,11,9,12],[0,1,2,6,3,4,5,7,8,10,11,12,9]]),(5,[[0,1,2,3,5,4,6,7,8,10,11,9,12],[0,1,2,3,5,4,6,7,8,10,11,12,9],[0,1,2,3,5,6,4,7,8,10,11,9,12],[0,1,2,3,5,6,4,7,8,10,11,12,9],[0,1,2,4,3,5,6,7,8,10,11,9,12],[0,1,2,4,3,5,6,7,8,10,11,12,9],[0,1,2,4,6,3,5,7,8,10,11,9,12],[0,1,2,4,6,3,5,7,8,10,11,12,9],[0,1,2,6,3,4,5,7,8,10,11,9,12],[0,1,2,6,3,4,5,7,8,10,11,12,9]]),(6,[[1,2,3,0,4,5,6,7,8,9],[1,2,3,4,0,5,6,7,8,9],[1,2,3,4,5,0,6,7,8,9],[1,2,3,4,5,6,0,7,8,9],[1,2,3,4,5,6,7,0,8,9],[1,2,3,4,6,0,5,7,8,9],[1,2,3,4,6,5,0,7,8,9],[1,2,3,4,6,5,7,0,8,9],[1,2,3,5,0,4,6,7,8,9],[1,2,3,5,4,0,6,7,8,9],[1,2,3,5,4,6,0,7,8,9],[1,2,3,5,4,6,7,0,8,9],[1,2,3,5,6,0,4,7,8,9],[1,2,3,5,6,4,0,7,8,9],[1,2,3,5,6,4,7,0,8,9],[1,2,3,6,0,4,5,7,8,9],[1,2,3,6,4,0,5,7,8,9],[1,2,3,6,4,5,0,7,8,9],[1,2,3,6,4,5,7,0,8,9],[1,2,3,6,5,0,4,7,8,9],[1,2,3,6,5,4,0,7,8,9],[1,2,3,6,5,4,7,0,8,9]]),(10,[[0,1,2,3,4,5,6,7],[0,2,1,3,4,5,6,7]]),(12,[[1,0,2,3,4,5,6,7,8,9,10,11,12],[1,2,3,4,5,7,0,6,8,9,10,11,12],[1,2,3,4,5,7,6,0,8,9,10,11,12],[1,2,3,4,5,7,6,8,9,10,0,11,12],[1,2,3,4,5,7,8,0,6,9,10,11,12],[1,2,3,4,5,7,8,6,9,10,0,11,12]])],[]⟩
def q9.d:FD sg (HL sg.S [(.sl 96 (.st 0)),.bool,(.sl 26 (.st 1)),(.sl 197 (.st 2)),(.sl 26 (.st 1)),(.sl 26 (.st 1))]):=⟨fun k=> [(37,qe.ct k),(43,uQ.ct k),(106,qu.ct k),(159,qw.ct k)],
 [(4,⟨⟨[(0,.one (.ptr 0 0)),(2,.one (.val (.sl 26 (.st 1)))),(4,.one (.ptr 1 0)),(8,.one (.arr 2)),(9,.one (.arr 3)),(10,oI)],[.cells [] [.val (.sl 26 (.st 1)),.val (.sl 197 (.st 2)),.arr 4,.arr 5],.cells [] [.val tI,.val .str,.val (.sl 3 tI),.val tI,.val (.sl 26 (.st 1))],.ow false true 96 (.st 0),.arr 26 (.st 1),.arr 26 (.st 1),.arr 26 (.st 1)]⟩,[(.sl 26 (.st 1)),tI,(.sl 26 (.st 1)),(.sl 197 (.st 2)),tI,.str,(.sl 3 tI),tI,(.sl 26 (.st 1)),(.sl 96 (.st 0)),(.sl 26 (.st 1)),(.sl 26 (.st 1)),(.sl 26 (.st 1))],fun k h=>q9.l4 k h.1 h.2.1 h.2.2.1 h.2.2.2.1 h.2.2.2.2.1 h.2.2.2.2.2.1 h.2.2.2.2.2.2.1 h.2.2.2.2.2.2.2.1 h.2.2.2.2.2.2.2.2.1 h.2.2.2.2.2.2.2.2.2.1 h.2.2.2.2.2.2.2.2.2.2.1 h.2.2.2.2.2.2.2.2.2.2.2.1 h.2.2.2.2.2.2.2.2.2.2.2.2⟩),
 (8,⟨⟨[(0,.one (.ptr 0 0)),(2,.one (.val (.sl 26 (.st 1)))),(4,.one (.ptr 1 0)),(8,.one (.arr 2)),(11,oI)],[.cells [] [.val (.sl 26 (.st 1)),.val (.sl 197 (.st 2)),.arr 3,.arr 4],.cells [] [.val tI,.val .str,.val (.sl 3 tI),.val tI,.val (.sl 26 (.st 1))],.ow false true 96 (.st 0),.arr 26 (.st 1),.arr 26 (.st 1)]⟩,[(.sl 26 (.st 1)),tI,(.sl 26 (.st 1)),(.sl 197 (.st 2)),tI,.str,(.sl 3 tI),tI,(.sl 26 (.st 1)),(.sl 96 (.st 0)),(.sl 26 (.st 1)),(.sl 26 (.st 1))],fun k h=>q9.l8 k h.1 h.2.1 h.2.2.1 h.2.2.2.1 h.2.2.2.2.1 h.2.2.2.2.2.1 h.2.2.2.2.2.2.1 h.2.2.2.2.2.2.2.1 h.2.2.2.2.2.2.2.2.1 h.2.2.2.2.2.2.2.2.2.1 h.2.2.2.2.2.2.2.2.2.2.1 h.2.2.2.2.2.2.2.2.2.2.2⟩),
 (14,⟨⟨[(0,.one (.ptr 0 0)),(2,.one (.val (.sl 26 (.st 1)))),(4,.one (.ptr 1 0)),(8,.one (.arr 2)),(11,oI),(12,.one (.arr 3)),(14,oI)],[.cells [] [.val (.sl 26 (.st 1)),.val (.sl 197 (.st 2)),.arr 4,.arr 5],.cells [] [.val tI,.val .str,.val (.sl 3 tI),.val tI,.val (.sl 26 (.st 1))],.ow false true 96 (.st 0),.arr 96 (.st 0),.arr 26 (.st 1),.arr 26 (.st 1)]⟩,[(.sl 26 (.st 1)),tI,tI,(.sl 26 (.st 1)),(.sl 197 (.st 2)),tI,.str,(.sl 3 tI),tI,(.sl 26 (.st 1)),(.sl 96 (.st 0)),(.sl 96 (.st 0)),(.sl 26 (.st 1)),(.sl 26 (.st 1))],fun k h=>q9.iO k h.1 h.2.1 h.2.2.1 h.2.2.2.1 h.2.2.2.2.1 h.2.2.2.2.2.1 h.2.2.2.2.2.2.1 h.2.2.2.2.2.2.2.1 h.2.2.2.2.2.2.2.2.1 h.2.2.2.2.2.2.2.2.2.1 h.2.2.2.2.2.2.2.2.2.2.1 h.2.2.2.2.2.2.2.2.2.2.2.1 h.2.2.2.2.2.2.2.2.2.2.2.2.1 h.2.2.2.2.2.2.2.2.2.2.2.2.2⟩)],
 [(100006,⟨⟨[(0,.one (.ptr 0 0)),(2,.one (.val (.sl 26 (.st 1)))),(4,.one (.ptr 1 0)),(8,.one (.arr 2)),(9,.one (.arr 3)),(10,oI)],[.cells [] [.val (.sl 26 (.st 1)),.val (.sl 197 (.st 2)),.arr 4,.arr 5],.cells [] [.val tI,.val .str,.val (.sl 3 tI),.val tI,.val (.sl 26 (.st 1))],.ow false true 96 (.st 0),.arr 26 (.st 1),.arr 26 (.st 1),.arr 26 (.st 1)]⟩,[(.sl 26 (.st 1)),tI,(.sl 26 (.st 1)),(.sl 197 (.st 2)),tI,.str,(.sl 3 tI),tI,(.sl 26 (.st 1)),(.sl 96 (.st 0)),(.sl 26 (.st 1)),(.sl 26 (.st 1)),(.sl 26 (.st 1))],fun k h=>q9.d6 k h.1 h.2.1 h.2.2.1 h.2.2.2.1 h.2.2.2.2.1 h.2.2.2.2.2.1 h.2.2.2.2.2.2.1 h.2.2.2.2.2.2.2.1 h.2.2.2.2.2.2.2.2.1 h.2.2.2.2.2.2.2.2.2.1 h.2.2.2.2.2.2.2.2.2.2.1 h.2.2.2.2.2.2.2.2.2.2.2.1 h.2.2.2.2.2.2.2.2.2.2.2.2⟩),
 (100016,⟨⟨[(0,.one (.ptr 0 0)),(2,.one (.val (.sl 26 (.st 1)))),(4,.one (.ptr 1 0)),(8,.one (.arr 2)),(11,oI),(12,.one (.arr 3)),(14,oI)],[.cells [] [.val (.sl 26 (.st 1)),.val (.sl 197 (.st 2)),.arr 4,.arr 5],.cells [] [.val tI,.val .str,.val (.sl 3 tI),.val tI,.val (.sl 26 (.st 1))],.ow false true 96 (.st 0),.arr 96 (.st 0),.arr 26 (.st 1),.arr 26 (.st 1)]⟩,[(.sl 26 (.st 1)),tI,tI,(.sl 26 (.st 1)),(.sl 197 (.st 2)),tI,.str,(.sl 3 tI),tI,(.sl 26 (.st 1)),(.sl 96 (.st 0)),(.sl 96 (.st 0)),(.sl 26 (.st 1)),(.sl 26 (.st 1))],fun k h=>q9.d16 k h.1 h.2.1 h.2.2.1 h.2.2.2.1 h.2.2.2.2.1 h.2.2.2.2.2.1 h.2.2.2.2.2.2.1 h.2.2.2.2.2.2.2.1 h.2.2.2.2.2.2.2.2.1 h.2.2.2.2.2.2.2.2.2.1 h.2.2.2.2.2.2.2.2.2.2.1 h.2.2.2.2.2.2.2.2.2.2.2.1 h.2.2.2.2.2.2.2.2.2.2.2.2.1 h.2.2.2.2.2.2.2.2.2.2.2.2.2⟩)],
 [(2,[[0,1,2,3,4,5,6]]),(6,[[0,1,2,3,4,7,8,9,5,6,10,11,12,13,14,15,16],[0,1,2,3,4,7,8,9,6,5,10,11,12,13,14,15,16],[0,1,2,3,4,7,8,9,6,10,5,11,12,13,14,15,16],[0,1,2,3,4,7,8,9,10,5,6,11,12,13,14,15,16],[0,1,2,3,4,7,8,9,10,6,5,11,12,13,14,15,16]]),(10,[[0,1,2,3,4,5,6,7,8,9,10,11]]),(16,[[0,1,2,3,5,6,7,4,9,8,10,11,12,14,15,13,16],[0,1,2,3,5,6,7,4,9,8,10,11,12,14,15,16,13],[0,1,2,3,5,6,7,4,9,10,8,11,12,14,15,13,16],[0,1,2,3,5,6,7,4,9,10,8,11,12,14,15,16,13],[0,1,2,3,5,6,7,8,4,9,10,11,12,14,15,13,16],[0,1,2,3,5,6,7,8,4,9,10,11,12,14,15,16,13],[0,1,2,3,5,6,7,8,10,4,9,11,12,14,15,13,16],[0,1,2,3,5,6,7,8,10,4,9,11,12,14,15,16,13],[0,1,2,3,5,6,7,10,4,8,9,11,12,14,15,13,16],[0,1,2,3,5,6,7,10,4,8,9,11,12,14,15,16,13]])],[15,42,43]⟩
def q6.ZT (k:Nat):List (Nat×Ct sg):= [(37,qe.ct k),(107,wS.ct k),(108,q11.ct k),(119,q16.ct k),(178,q9.ct k),(179,q22.ct k)]
def q6.env (k:Nat):Env sg (HL sg.S [.bool,(.sl 26 (.st 1)),(.sl 197 (.st 2)),(.sl 96 (.st 0)),(.sl 26 (.st 1)),(.sl 26 (.st 1))]):=⟨162,[0],k,get (q6.ZT k),[(14,q6.Yj)],[(100029,q6.Au),(3,q6.aa3),(9,q6.aa4),(10,q6.Yi)],[(18,[[0,1,2,3,4,5,6,7,8,9,10,11,12,13,14]]),(22,[[0,1,2,3,4,5,6,7,8,9,10,11,12,13,14,15,16]]),(29,[[0,1,3,9,10,2,4,5,6,7,8,11,12,13,14,15,16,17],[0,1,3,9,10,2,4,5,6,7,11,8,12,13,14,15,16,17],[0,1,3,9,10,2,11,4,5,6,7,8,12,13,14,15,16,17],[0,1,3,9,10,4,5,6,2,7,8,11,12,13,14,15,16,17],[0,1,3,9,10,4,5,6,2,7,11,8,12,13,14,15,16,17],[0,1,3,9,10,4,5,6,11,2,7,8,12,13,14,15,16,17],[0,1,3,9,10,11,2,4,5,6,7,8,12,13,14,15,16,17]])],[]⟩
theorem q6.eq (k:Nat) (h:HL sg.S (q6.ct (k+1)).its):(q6.ct (k+1)).F h=YB (q6.ct (k+1)) (q6.env k) Tryz.f118 (mP Tryz.f118) h:=by kernel_rfl
def q6.pts (m:Nat):=used q6.env (jM q6.env (mP Tryz.f118) (fun _=>MQ Tryz.f118 (q6.ct m)))
theorem q6.n (m:Nat):len (q6.pts m)=11:=by kernel_rfl
theorem q6.g0 (m:Nat):kC q6.env (nth (q6.pts m) 0):=DK q6.aa3 (by kernel_rfl) (by kernel_rfl) (fun k h=>by kernel_rfl)
theorem q6.g1 (m:Nat):kC q6.env (nth (q6.pts m) 1):=DK q6.aa4 (by kernel_rfl) (by kernel_rfl) (fun k h=>by kernel_rfl)
theorem q6.g2 (m:Nat):kC q6.env (nth (q6.pts m) 2):=DK q6.Yi (by kernel_rfl) (by kernel_rfl) (fun k h=>by kernel_rfl)
theorem q6.g3 (m:Nat):kC q6.env (nth (q6.pts m) 3):=U1 q6.Yj (by kernel_rfl) (by kernel_rfl) (fun _=>rfl) (fun k h=>by kernel_rfl)
theorem q6.g4 (m:Nat):kC q6.env (nth (q6.pts m) 4):=o9 q6.Au (fun k h=>q6.Qc k h.1 h.2.1 h.2.2.1 h.2.2.2.1 h.2.2.2.2.1 h.2.2.2.2.2.1 h.2.2.2.2.2.2.1 h.2.2.2.2.2.2.2.1 h.2.2.2.2.2.2.2.2.1 h.2.2.2.2.2.2.2.2.2.1 h.2.2.2.2.2.2.2.2.2.2.1 h.2.2.2.2.2.2.2.2.2.2.2) (by kernel_rfl) (by kernel_rfl) (fun k h=>by kernel_rfl) (fun k h r e=>(xM e))
theorem q6.g5 (m:Nat):kC q6.env (nth (q6.pts m) 5):=o9 q6.Au (fun k h=>q6.Qc k h.1 h.2.1 h.2.2.1 h.2.2.2.1 h.2.2.2.2.1 h.2.2.2.2.2.1 h.2.2.2.2.2.2.1 h.2.2.2.2.2.2.2.1 h.2.2.2.2.2.2.2.2.1 h.2.2.2.2.2.2.2.2.2.1 h.2.2.2.2.2.2.2.2.2.2.1 h.2.2.2.2.2.2.2.2.2.2.2) (by kernel_rfl) (by kernel_rfl) (fun k h=>by kernel_rfl) (fun k h r e=>(xM e))
theorem q6.g6 (m:Nat):kC q6.env (nth (q6.pts m) 6):=o9 q6.Au (fun k h=>q6.U_ k h.1 h.2.1 h.2.2.1 h.2.2.2.1 h.2.2.2.2.1 h.2.2.2.2.2.1 h.2.2.2.2.2.2.1 h.2.2.2.2.2.2.2.1 h.2.2.2.2.2.2.2.2.1 h.2.2.2.2.2.2.2.2.2.1 h.2.2.2.2.2.2.2.2.2.2.1 h.2.2.2.2.2.2.2.2.2.2.2) (by kernel_rfl) (by kernel_rfl) (fun k h=>by kernel_rfl) (fun k h r e=>(BA e))
theorem q6.g7 (m:Nat):kC q6.env (nth (q6.pts m) 7):=o9 q6.Au (fun k h=>q6.Qc k h.1 h.2.1 h.2.2.1 h.2.2.2.1 h.2.2.2.2.1 h.2.2.2.2.2.1 h.2.2.2.2.2.2.1 h.2.2.2.2.2.2.2.1 h.2.2.2.2.2.2.2.2.1 h.2.2.2.2.2.2.2.2.2.1 h.2.2.2.2.2.2.2.2.2.2.1 h.2.2.2.2.2.2.2.2.2.2.2) (by kernel_rfl) (by kernel_rfl) (fun k h=>by kernel_rfl) (fun k h r e=>(xM e))
theorem q6.g8 (m:Nat):kC q6.env (nth (q6.pts m) 8):=o9 q6.Au (fun k h=>q6.Qc k h.1 h.2.1 h.2.2.1 h.2.2.2.1 h.2.2.2.2.1 h.2.2.2.2.2.1 h.2.2.2.2.2.2.1 h.2.2.2.2.2.2.2.1 h.2.2.2.2.2.2.2.2.1 h.2.2.2.2.2.2.2.2.2.1 h.2.2.2.2.2.2.2.2.2.2.1 h.2.2.2.2.2.2.2.2.2.2.2) (by kernel_rfl) (by kernel_rfl) (fun k h=>by kernel_rfl) (fun k h r e=>(xM e))
theorem q6.g9 (m:Nat):kC q6.env (nth (q6.pts m) 9):=o9 q6.Au (fun k h=>q6.U_ k h.1 h.2.1 h.2.2.1 h.2.2.2.1 h.2.2.2.2.1 h.2.2.2.2.2.1 h.2.2.2.2.2.2.1 h.2.2.2.2.2.2.2.1 h.2.2.2.2.2.2.2.2.1 h.2.2.2.2.2.2.2.2.2.1 h.2.2.2.2.2.2.2.2.2.2.1 h.2.2.2.2.2.2.2.2.2.2.2) (by kernel_rfl) (by kernel_rfl) (fun k h=>by kernel_rfl) (fun k h r e=>(BA e))
theorem q6.g10 (m:Nat):kC q6.env (nth (q6.pts m) 10):=o9 q6.Au (fun k h=>q6.U_ k h.1 h.2.1 h.2.2.1 h.2.2.2.1 h.2.2.2.2.1 h.2.2.2.2.2.1 h.2.2.2.2.2.2.1 h.2.2.2.2.2.2.2.1 h.2.2.2.2.2.2.2.2.1 h.2.2.2.2.2.2.2.2.2.1 h.2.2.2.2.2.2.2.2.2.2.1 h.2.2.2.2.2.2.2.2.2.2.2) (by kernel_rfl) (by kernel_rfl) (fun k h=>by kernel_rfl) (fun k h r e=>(BA e))
theorem q6.good (m:Nat):qE q6.env (jM q6.env (mP Tryz.f118) (fun _=>MQ Tryz.f118 (q6.ct m))):=P5 11 (q6.n m) (fun i hi=>match i with|0=>q6.g0 m|1=>q6.g1 m|2=>q6.g2 m|3=>q6.g3 m|4=>q6.g4 m|5=>q6.g5 m|6=>q6.g6 m|7=>q6.g7 m|8=>q6.g8 m|9=>q6.g9 m|10=>q6.g10 m|i+11=>absurd hi (by omega))
theorem q6.Zt:nJ sg (q6.env 0).ny (mP Tryz.f118)=true:=by kernel_rfl
theorem qe.all: ∀k:Nat,(qe.ct k).Holds Tryz.prog 37∧(q9.ct k).Holds Tryz.prog 178∧(q6.ct k).Holds Tryz.prog 118:=
 jo ⟨eX,eX,eX⟩ fun k ih=>
 ⟨cO sg.kit Tryz.f37 _ qe.d 51 k (fun j hj=>⟨xG.holds j,qu.holds j,NQ.holds j,I4.holds j,(ih j hj).2.2,True.intro⟩),cO sg.kit Tryz.f178 _ q9.d 18 k (fun j hj=>⟨(ih j hj).1,uQ.holds j,qu.holds j,qw.holds j,True.intro⟩),Yd (fn:=Tryz.f118) (body:=(mP Tryz.f118)) sg.ok sg.tab sg.mixed (by kernel_rfl) (by kernel_rfl) (by kernel_rfl) (q6.ct (k+1)) q6.env k (fun _=>by kernel_rfl) (fun _=>rfl) (fun _=>by kernel_rfl) (fun _=>rfl) (fun _=>rfl) (fun _=>rfl) q6.Zt (fun j hj=>Ye (l:=q6.ZT j) ⟨(ih j hj).1,(wS.holds j),(q11.holds j),(q16.holds j),(ih j hj).2.1,(q22.holds j),trivial⟩) (q6.good (k+1)) (q6.eq k) (Nat.le_of_ble_eq_true (by kernel_rfl)) (by kernel_rfl) (by kernel_rfl) (by kernel_rfl) (fun h=>by cases h)⟩
theorem qe.holds (k:Nat):(qe.ct k).Holds Tryz.prog 37:=(qe.all k).1
theorem q9.holds (k:Nat):(q9.ct k).Holds Tryz.prog 178:=(qe.all k).2.1
theorem q6.holds (k:Nat):(q6.ct k).Holds Tryz.prog 118:=(qe.all k).2.2
def Va.ct (k:Nat):Ct sg:=⟨false,⟨[(0,.st 1),(1,.one (.val (.sl 26 (.st 1)))),(2,.st 1),(3,.one (.val (.sl 197 (.st 2))))],[]⟩,⟨[(0,.one (.arr 0)),(1,oB)],[.arr 96 (.st 0)]⟩,[(.st 1),(.sl 26 (.st 1)),(.st 1),(.sl 197 (.st 2))],[.bool,(.sl 96 (.st 0))],fun h=>Va.f k h.1 h.2.1 h.2.2.1 h.2.2.2⟩
def Va.d:FD sg (HL sg.S [.bool,(.sl 96 (.st 0))]):=⟨fun k=> [(11,yl.ct k),(25,q13.ct k),(37,qe.ct k)],
 [],
 [],
 [],[]⟩
theorem Va.holds (k:Nat):(Va.ct k).Holds Tryz.prog 8:=
 cO sg.kit Tryz.f8 _ Va.d 0 k (fun j _=>⟨yl.holds j,q13.holds j,qe.holds j,True.intro⟩)
def qh.ct (k:Nat):Ct sg:=⟨false,⟨[(0,.one (.ptr 0 0)),(1,.st 1),(2,.one (.val (.sl 26 (.st 1)))),(3,oI)],[.cells [] [.val (.sl 5 (.int .u8)),.val tI]]⟩,⟨[(0,.st 1)],[.cells [] [.val (.sl 5 (.int .u8)),.val tI]]⟩,[(.st 1),(.sl 26 (.st 1)),tI,(.sl 5 (.int .u8)),tI],[(.st 1),(.sl 5 (.int .u8)),tI],fun h=>qh.f k h.1 h.2.1 h.2.2.1 h.2.2.2.1 h.2.2.2.2⟩
def qh.d:FD sg (HL sg.S [(.st 1),(.sl 5 (.int .u8)),tI]):=⟨fun k=> [(33,qi.ct k),(91,qh.ct k),(92,q7.ct k),(105,qp.ct k),(159,qw.ct k)],
 [(5,⟨⟨[(8,.one (.ptr 1 0)),(10,.one (.ptr 2 0)),(11,oI)],[.cells [] [.val (.sl 5 (.int .u8)),.val tI],.cells [] [.any,.any,.any,.any,.any],.cells [] [.val tI,.val .str,.val (.sl 3 tI),.val tI,.val (.sl 26 (.st 1))]]⟩,[tI,(.sl 5 (.int .u8)),tI,tI,.str,(.sl 3 tI),tI,(.sl 26 (.st 1))],fun k h=>qh.l5 k h.1 h.2.1 h.2.2.1 h.2.2.2.1 h.2.2.2.2.1 h.2.2.2.2.2.1 h.2.2.2.2.2.2.1 h.2.2.2.2.2.2.2⟩),
 (13,⟨⟨[(0,.one (.ptr 0 0)),(2,.one (.val (.sl 26 (.st 1)))),(3,oI),(5,.one (.ptr 1 0)),(8,.one (.ptr 2 0)),(12,.one (.ptr 3 0)),(13,oI)],[.cells [] [.val (.sl 5 (.int .u8)),.val tI],.cells [] [.val tI,.val .str,.val (.sl 3 tI),.val tI,.val (.sl 26 (.st 1))],.cells [] [.any,.any,.any,.any,.any],.cells [] [.val tI,.val .str,.val (.sl 3 tI),.val tI,.arr 4],.arr 26 (.st 1)]⟩,[(.sl 26 (.st 1)),tI,tI,(.sl 5 (.int .u8)),tI,tI,.str,(.sl 3 tI),tI,(.sl 26 (.st 1)),tI,.str,(.sl 3 tI),tI,(.sl 26 (.st 1))],fun k h=>qh.Ey k h.1 h.2.1 h.2.2.1 h.2.2.2.1 h.2.2.2.2.1 h.2.2.2.2.2.1 h.2.2.2.2.2.2.1 h.2.2.2.2.2.2.2.1 h.2.2.2.2.2.2.2.2.1 h.2.2.2.2.2.2.2.2.2.1 h.2.2.2.2.2.2.2.2.2.2.1 h.2.2.2.2.2.2.2.2.2.2.2.1 h.2.2.2.2.2.2.2.2.2.2.2.2.1 h.2.2.2.2.2.2.2.2.2.2.2.2.2.1 h.2.2.2.2.2.2.2.2.2.2.2.2.2.2⟩)],
 [(100015,⟨⟨[(0,.one (.ptr 0 0)),(2,.one (.val (.sl 26 (.st 1)))),(3,oI),(5,.one (.ptr 1 0)),(8,.one (.ptr 2 0)),(12,.one (.ptr 3 0)),(13,oI)],[.cells [] [.val (.sl 5 (.int .u8)),.val tI],.cells [] [.val tI,.val .str,.val (.sl 3 tI),.val tI,.val (.sl 26 (.st 1))],.cells [] [.any,.any,.any,.any,.any],.cells [] [.val tI,.val .str,.val (.sl 3 tI),.val tI,.arr 4],.arr 26 (.st 1)]⟩,[(.sl 26 (.st 1)),tI,tI,(.sl 5 (.int .u8)),tI,tI,.str,(.sl 3 tI),tI,(.sl 26 (.st 1)),tI,.str,(.sl 3 tI),tI,(.sl 26 (.st 1))],fun k h=>qh.d15 k h.1 h.2.1 h.2.2.1 h.2.2.2.1 h.2.2.2.2.1 h.2.2.2.2.2.1 h.2.2.2.2.2.2.1 h.2.2.2.2.2.2.2.1 h.2.2.2.2.2.2.2.2.1 h.2.2.2.2.2.2.2.2.2.1 h.2.2.2.2.2.2.2.2.2.2.1 h.2.2.2.2.2.2.2.2.2.2.2.1 h.2.2.2.2.2.2.2.2.2.2.2.2.1 h.2.2.2.2.2.2.2.2.2.2.2.2.2.1 h.2.2.2.2.2.2.2.2.2.2.2.2.2.2⟩),
 (100022,⟨⟨[(0,.one (.ptr 0 0)),(2,.one (.val (.sl 26 (.st 1)))),(5,.one (.ptr 1 0)),(8,.one (.ptr 2 0)),(12,.one (.ptr 3 0))],[.cells [] [.val (.sl 5 (.int .u8)),.val tI],.cells [] [.val tI,.val .str,.val (.sl 3 tI),.val tI,.val (.sl 26 (.st 1))],.cells [] [.any,.any,.any,.any,.any],.cells [] [.any,.any,.any,.any,.arr 4],.arr 26 (.st 1)]⟩,[(.sl 26 (.st 1)),(.sl 5 (.int .u8)),tI,tI,.str,(.sl 3 tI),tI,(.sl 26 (.st 1)),(.sl 26 (.st 1))],fun k h=>qh.d22 k h.1 h.2.1 h.2.2.1 h.2.2.2.1 h.2.2.2.2.1 h.2.2.2.2.2.1 h.2.2.2.2.2.2.1 h.2.2.2.2.2.2.2.1 h.2.2.2.2.2.2.2.2⟩),
 (2,⟨⟨[(0,.one (.ptr 0 0)),(2,.one (.val (.sl 26 (.st 1)))),(3,oI),(5,.one (.ptr 1 0)),(8,.one (.ptr 2 0)),(25,oB)],[.cells [] [.val (.sl 5 (.int .u8)),.val tI],.cells [] [.val tI,.val .str,.val (.sl 3 tI),.val tI,.val (.sl 26 (.st 1))],.cells [] [.any,.any,.any,.any,.any]]⟩,[(.sl 26 (.st 1)),tI,.bool,(.sl 5 (.int .u8)),tI,tI,.str,(.sl 3 tI),tI,(.sl 26 (.st 1))],fun k h=>qh.j2 k h.1 h.2.1 h.2.2.1 h.2.2.2.1 h.2.2.2.2.1 h.2.2.2.2.2.1 h.2.2.2.2.2.2.1 h.2.2.2.2.2.2.2.1 h.2.2.2.2.2.2.2.2.1 h.2.2.2.2.2.2.2.2.2⟩)],
 [(15,[[0,2,3,4,5,6,1,7,8,9,10,11],[0,2,3,4,5,6,7,1,8,9,10,11],[0,2,3,4,5,6,7,8,1,9,10,11]]),(22,[[0,2,3,4,1,5,6,7],[0,2,3,4,5,1,6,7]])],[]⟩
theorem qh.all: ∀k:Nat,(qh.ct k).Holds Tryz.prog 91:=
 jo eX fun k ih=>
 cO sg.kit Tryz.f91 _ qh.d 8 k (fun j hj=>⟨qi.holds j,(ih j hj),q7.holds j,qp.holds j,qw.holds j,True.intro⟩)
theorem qh.holds (k:Nat):(qh.ct k).Holds Tryz.prog 91:=(qh.all k)
def qz.ct (k:Nat):Ct sg:=⟨false,⟨[(0,.one (.val (.sl 5 (.int .u8))))],[]⟩,⟨[(0,.st 1),(1,.one (.arr 0))],[.arr 96 (.st 0)]⟩,[(.sl 5 (.int .u8))],[(.st 1),(.sl 96 (.st 0))],fun h=>qz.f k h⟩
def qz.d:FD sg (HL sg.S [(.st 1),(.sl 96 (.st 0))]):=⟨fun k=> [(8,Va.ct k),(29,IZ.ct k),(30,ql.ct k),(31,qd.ct k),(33,qi.ct k),(43,uQ.ct k),(91,qh.ct k),(92,q7.ct k)],
 [(3,⟨⟨[(2,.one (.ptr 0 0)),(4,.one (.ptr 1 0)),(5,oI)],[.cells [] [.any,.any,.any,.any,.any],.cells [] [.val (.sl 5 (.int .u8)),.val tI]]⟩,[tI,(.sl 5 (.int .u8)),tI],fun k h=>qz.l3 k h.1 h.2.1 h.2.2⟩)],
 [(100006,⟨⟨[(2,.one (.ptr 0 0)),(4,.one (.ptr 1 0)),(5,oI),(6,.one (.ptr 2 0))],[.cells [] [.any,.any,.any,.any,.any],.cells [] [.val (.sl 5 (.int .u8)),.val tI],.cells [] [.val tI,.val .str,.val (.sl 3 tI),.val tI,.val (.sl 26 (.st 1))]]⟩,[tI,(.sl 5 (.int .u8)),tI,tI,.str,(.sl 3 tI),tI,(.sl 26 (.st 1))],fun k h=>qz.d6 k h.1 h.2.1 h.2.2.1 h.2.2.2.1 h.2.2.2.2.1 h.2.2.2.2.2.1 h.2.2.2.2.2.2.1 h.2.2.2.2.2.2.2⟩),
 (100008,⟨⟨[(2,.one (.ptr 0 0)),(4,.one (.ptr 1 0)),(6,.one (.ptr 2 0)),(7,.one (.arr 3))],[.cells [] [.any,.any,.any,.any,.any],.cells [] [.val (.sl 5 (.int .u8)),.val tI],.cells [] [.val tI,.val .str,.val (.sl 3 tI),.val tI,.val (.sl 26 (.st 1))],.arr 96 (.st 0)]⟩,[(.sl 5 (.int .u8)),tI,tI,.str,(.sl 3 tI),tI,(.sl 26 (.st 1)),(.sl 96 (.st 0))],fun k h=>qz.d8 k h.1 h.2.1 h.2.2.1 h.2.2.2.1 h.2.2.2.2.1 h.2.2.2.2.2.1 h.2.2.2.2.2.2.1 h.2.2.2.2.2.2.2⟩),
 (11,⟨⟨[(2,.one (.ptr 0 0)),(4,.one (.ptr 1 0)),(7,.one (.arr 2)),(9,.one (.ptr 3 0))],[.cells [] [.any,.any,.any,.any,.any],.cells [] [.val (.sl 5 (.int .u8)),.val tI],.arr 96 (.st 0),.cells [] [.val tI,.val .str,.val (.sl 3 tI),.val tI,.val (.sl 26 (.st 1))]]⟩,[(.sl 5 (.int .u8)),tI,(.sl 96 (.st 0)),tI,.str,(.sl 3 tI),tI,(.sl 26 (.st 1))],fun k h=>qz.j11 k h.1 h.2.1 h.2.2.1 h.2.2.2.1 h.2.2.2.2.1 h.2.2.2.2.2.1 h.2.2.2.2.2.2.1 h.2.2.2.2.2.2.2⟩)],
 [(6,[[2,0,1,3,4,5,6,7,8,9,10,11],[2,0,1,3,5,4,6,7,8,9,10,11],[2,0,1,5,3,4,6,7,8,9,10,11],[2,0,3,1,4,5,6,7,8,9,10,11],[2,0,3,1,5,4,6,7,8,9,10,11],[2,0,3,4,1,5,6,7,8,9,10,11],[2,0,3,4,5,1,6,7,8,9,10,11],[2,0,3,5,1,4,6,7,8,9,10,11],[2,0,3,5,4,1,6,7,8,9,10,11],[2,0,5,1,3,4,6,7,8,9,10,11],[2,0,5,3,1,4,6,7,8,9,10,11],[2,0,5,3,4,1,6,7,8,9,10,11],[2,1,0,3,4,5,6,7,8,9,10,11],[2,1,0,3,5,4,6,7,8,9,10,11],[2,1,0,5,3,4,6,7,8,9,10,11],[2,1,3,0,4,5,6,7,8,9,10,11],[2,1,3,0,5,4,6,7,8,9,10,11],[2,1,3,4,0,5,6,7,8,9,10,11],[2,1,3,4,5,0,6,7,8,9,10,11],[2,1,3,5,0,4,6,7,8,9,10,11],[2,1,3,5,4,0,6,7,8,9,10,11],[2,1,5,3,0,4,6,7,8,9,10,11],[2,1,5,3,4,0,6,7,8,9,10,11],[2,3,0,1,4,5,6,7,8,9,10,11],[2,3,0,1,5,4,6,7,8,9,10,11],[2,3,0,4,1,5,6,7,8,9,10,11],[2,3,0,4,5,1,6,7,8,9,10,11],[2,3,0,5,1,4,6,7,8,9,10,11],[2,3,0,5,4,1,6,7,8,9,10,11],[2,3,1,0,4,5,6,7,8,9,10,11],[2,3,1,0,5,4,6,7,8,9,10,11],[2,3,1,4,0,5,6,7,8,9,10,11],[2,3,1,4,5,0,6,7,8,9,10,11],[2,3,1,5,0,4,6,7,8,9,10,11],[2,3,1,5,4,0,6,7,8,9,10,11],[2,3,4,0,1,5,6,7,8,9,10,11],[2,3,4,0,5,1,6,7,8,9,10,11],[2,3,4,1,0,5,6,7,8,9,10,11],[2,3,4,1,5,0,6,7,8,9,10,11],[2,3,4,5,0,1,6,7,8,9,10,11],[2,3,4,5,1,0,6,7,8,9,10,11],[2,3,5,0,1,4,6,7,8,9,10,11],[2,3,5,0,4,1,6,7,8,9,10,11],[2,3,5,1,0,4,6,7,8,9,10,11],[2,3,5,1,4,0,6,7,8,9,10,11],[2,3,5,4,0,1,6,7,8,9,10,11],[2,3,5,4,1,0,6,7,8,9,10,11],[2,5,0,1,3,4,6,7,8,9,10,11],[2,5,0,3,1,4,6,7,8,9,10,11],[2,5,0,3,4,1,6,7,8,9,10,11],[2,5,1,3,0,4,6,7,8,9,10,11],[2,5,1,3,4,0,6,7,8,9,10,11],[2,5,3,0,1,4,6,7,8,9,10,11],[2,5,3,0,4,1,6,7,8,9,10,11],[2,5,3,1,0,4,6,7,8,9,10,11],[2,5,3,1,4,0,6,7,8,9,10,11],[2,5,3,4,0,1,6,7,8,9,10,11],[2,5,3,4,1,0,6,7,8,9,10,11]]),(8,[[0,1,2,3,4,5,6,7],[0,1,2,3,4,6,5,7],[0,1,2,3,6,4,5,7],[0,1,2,6,3,4,5,7],[0,1,3,2,4,5,6,7],[0,1,3,2,4,6,5,7],[0,1,3,2,6,4,5,7],[0,1,3,6,2,4,5,7],[0,1,6,2,3,4,5,7],[0,1,6,3,2,4,5,7],[0,2,1,3,4,5,6,7],[0,2,1,3,4,6,5,7],[0,2,1,3,6,4,5,7],[0,2,1,6,3,4,5,7],[0,2,3,1,4,5,6,7],[0,2,3,1,4,6,5,7],[0,2,3,1,6,4,5,7],[0,2,3,4,1,5,6,7],[0,2,3,4,1,6,5,7],[0,2,3,4,6,1,5,7],[0,2,3,6,1,4,5,7],[0,2,3,6,4,1,5,7],[0,2,6,1,3,4,5,7],[0,2,6,3,1,4,5,7],[0,2,6,3,4,1,5,7],[0,3,1,2,4,5,6,7],[0,3,1,2,4,6,5,7],[0,3,1,2,6,4,5,7],[0,3,1,6,2,4,5,7],[0,3,2,1,4,5,6,7],[0,3,2,1,4,6,5,7],[0,3,2,1,6,4,5,7],[0,3,2,4,1,5,6,7],[0,3,2,4,1,6,5,7],[0,3,2,4,6,1,5,7],[0,3,2,6,1,4,5,7],[0,3,2,6,4,1,5,7],[0,3,6,2,1,4,5,7],[0,3,6,2,4,1,5,7],[0,6,1,2,3,4,5,7],[0,6,1,3,2,4,5,7],[0,6,2,1,3,4,5,7],[0,6,2,3,1,4,5,7],[0,6,2,3,4,1,5,7],[0,6,3,2,1,4,5,7],[0,6,3,2,4,1,5,7]])],[]⟩
theorem qz.holds (k:Nat):(qz.ct k).Holds Tryz.prog 21:=
 cO sg.kit Tryz.f21 _ qz.d 106 k (fun j _=>⟨Va.holds j,IZ.holds j,ql.holds j,qd.holds j,qi.holds j,uQ.holds j,qh.holds j,q7.holds j,True.intro⟩)
def Wh.ct (k:Nat):Ct sg:=⟨true,⟨[(0,oS),(1,oS)],[]⟩,⟨[(0,oB)],[]⟩,[.str,.str],[.bool],fun h=>Wh.f k h.1 h.2⟩
def Wh.d:FD sg (HL sg.S [.bool]):=⟨fun _=> [],
 [],
 [],
 [],[]⟩
theorem Wh.holds (k:Nat):(Wh.ct k).Holds Tryz.prog 234:=
 cO sg.kit Tryz.f234 _ Wh.d 0 k (fun _ _=>True.intro)
def q37.ct (k:Nat):Ct sg:=⟨true,⟨[(0,oS),(1,oS)],[]⟩,⟨[(0,oS)],[]⟩,[.str,.str],[.str],fun h=>q37.f k h.1 h.2⟩
def q37.d:FD sg (HL sg.S [.str]):=⟨fun k=> [(234,Wh.ct k)],
 [],
 [],
 [],[]⟩
theorem q37.holds (k:Nat):(q37.ct k).Holds Tryz.prog 214:=
 cO sg.kit Tryz.f214 _ q37.d 0 k (fun j _=>⟨Wh.holds j,True.intro⟩)
def q35.ct (k:Nat):Ct sg:=⟨true,⟨[(0,oS),(1,oS)],[]⟩,⟨[(0,oS)],[]⟩,[.str,.str],[.str],fun h=>q35.f k h.1 h.2⟩
def q35.d:FD sg (HL sg.S [.str]):=⟨fun k=> [(214,q37.ct k)],
 [],
 [],
 [],[]⟩
theorem q35.holds (k:Nat):(q35.ct k).Holds Tryz.prog 197:=
 cO sg.kit Tryz.f197 _ q35.d 0 k (fun j _=>⟨q37.holds j,True.intro⟩)
def vJ.ct (k:Nat):Ct sg:=⟨true,⟨[(0,oS)],[]⟩,⟨[(0,oB)],[]⟩,[.str],[.bool],fun h=>vJ.f k h⟩
def vJ.d:FD sg (HL sg.S [.bool]):=⟨fun k=> [(197,q35.ct k),(198,tq.ct)],
 [(6,⟨⟨[(33,.one (.val (.sl 5 (.int .u8)))),(34,oI),(35,oI)],[]⟩,[(.sl 5 (.int .u8)),tI,tI],fun k h=>vJ.l6 k h.1 h.2.1 h.2.2⟩)],
 [(3,⟨⟨[(0,oS)],[]⟩,[.str],fun k h=>vJ.j3 k h⟩),
 (5,⟨⟨[(0,oS),(3,oI),(28,oB)],[]⟩,[.str,tI,.bool],fun k h=>vJ.j5 k h.1 h.2.1 h.2.2⟩)],
 [],[]⟩
theorem vJ.holds (k:Nat):(vJ.ct k).Holds Tryz.prog 167:=
 cO sg.kit Tryz.f167 _ vJ.d 3 k (fun j _=>⟨q35.holds j,tq.holds,True.intro⟩)
def Iq.ct (k:Nat):Ct sg:=⟨true,⟨[(0,oS)],[]⟩,⟨[(0,oB)],[]⟩,[.str],[.bool],fun h=>Iq.f k h⟩
def Iq.d:FD sg (HL sg.S [.bool]):=⟨fun k=> [(167,vJ.ct k),(196,jg.ct)],
 [(2,⟨⟨[(0,oS),(6,.one (.val (.sl 5 (.int .u8)))),(7,oI),(8,oI)],[]⟩,[.str,(.sl 5 (.int .u8)),tI,tI],fun k h=>Iq.l2 k h.1 h.2.1 h.2.2.1 h.2.2.2⟩)],
 [],
 [],[]⟩
theorem Iq.holds (k:Nat):(Iq.ct k).Holds Tryz.prog 166:=
 cO sg.kit Tryz.f166 _ Iq.d 1 k (fun j _=>⟨vJ.holds j,jg.holds,True.intro⟩)
def qg.ct (k:Nat):Ct sg:=⟨true,⟨[(0,.st 1),(1,oI)],[]⟩,⟨[(0,oI)],[]⟩,[(.st 1),tI],[tI],fun h=>qg.f k h.1 h.2⟩
def qg.d:FD sg (HL sg.S [tI]):=⟨fun k=> [(95,qg.ct k),(166,Iq.ct k),(167,vJ.ct k)],
 [(10,⟨⟨[(2,.one (.ptr 0 0)),(5,oI),(40,.one (.val (.sl 3 tI))),(41,oI),(42,oI)],[.cells [] [.any,.any,.val (.sl 3 tI),.any,.any]]⟩,[tI,(.sl 3 tI),tI,tI,(.sl 3 tI)],fun k h=>qg.l10 k h.1 h.2.1 h.2.2.1 h.2.2.2.1 h.2.2.2.2⟩),
 (27,⟨⟨[(1,oI),(5,oI),(139,.one (.val (.sl 26 (.st 1)))),(140,oI),(141,oI)],[]⟩,[tI,tI,(.sl 26 (.st 1)),tI,tI],fun k h=>qg.Tu k h.1 h.2.1 h.2.2.1 h.2.2.2.1 h.2.2.2.2⟩)],
 [(9,⟨⟨[(2,.one (.ptr 0 0)),(5,oI)],[.cells [] [.any,.any,.val (.sl 3 tI),.any,.any]]⟩,[tI,(.sl 3 tI)],fun k h=>qg.j9 k h.1 h.2⟩),
 (20,⟨⟨[(1,oI),(2,.one (.ptr 0 0)),(5,oI),(93,oB)],[.cells [] [.val tI,.val .str,.val (.sl 3 tI),.val tI,.val (.sl 26 (.st 1))]]⟩,[tI,tI,.bool,tI,.str,(.sl 3 tI),tI,(.sl 26 (.st 1))],fun k h=>qg.j20 k h.1 h.2.1 h.2.2.1 h.2.2.2.1 h.2.2.2.2.1 h.2.2.2.2.2.1 h.2.2.2.2.2.2.1 h.2.2.2.2.2.2.2⟩),
 (22,⟨⟨[(1,oI),(2,.one (.ptr 0 0)),(5,oI)],[.cells [] [.val tI,.any,.any,.any,.val (.sl 26 (.st 1))]]⟩,[tI,tI,tI,(.sl 26 (.st 1))],fun k h=>qg.j22 k h.1 h.2.1 h.2.2.1 h.2.2.2⟩),
 (26,⟨⟨[(1,oI),(2,.one (.ptr 0 0)),(5,oI)],[.cells [] [.any,.any,.any,.any,.val (.sl 26 (.st 1))]]⟩,[tI,tI,(.sl 26 (.st 1))],fun k h=>qg.j26 k h.1 h.2.1 h.2.2⟩)],
 [],[]⟩
theorem qg.all: ∀k:Nat,(qg.ct k).Holds Tryz.prog 95:=
 jo eX fun k ih=>
 cO sg.kit Tryz.f95 _ qg.d 6 k (fun j hj=>⟨(ih j hj),Iq.holds j,vJ.holds j,True.intro⟩)
theorem qg.holds (k:Nat):(qg.ct k).Holds Tryz.prog 95:=(qg.all k)
def yX.ct (k:Nat):Ct sg:=⟨true,⟨[(0,.st 1)],[]⟩,⟨[(0,oB)],[]⟩,[(.st 1)],[.bool],fun h=>yX.f k h⟩
def yX.d:FD sg (HL sg.S [.bool]):=⟨fun k=> [(95,qg.ct k)],
 [],
 [],
 [],[]⟩
theorem yX.holds (k:Nat):(yX.ct k).Holds Tryz.prog 23:=
 cO sg.kit Tryz.f23 _ yX.d 0 k (fun j _=>⟨qg.holds j,True.intro⟩)
def qt.ct (k:Nat):Ct sg:=⟨true,⟨[(0,.st 0)],[]⟩,⟨[(0,oB)],[]⟩,[(.st 0)],[.bool],fun h=>qt.f k h⟩
def qt.d:FD sg (HL sg.S [.bool]):=⟨fun k=> [(23,yX.ct k),(46,qt.ct k)],
 [(6,⟨⟨[(1,.one (.ptr 0 0)),(38,.one (.val (.sl 96 (.st 0)))),(39,oI),(40,oI)],[.cells [] [.any,.any,.any,.any,.any,.val tI,.any,.any,.any,.any,.any,.any]]⟩,[(.sl 96 (.st 0)),tI,tI,tI],fun k h=>qt.l6 k h.1 h.2.1 h.2.2.1 h.2.2.2⟩)],
 [(3,⟨⟨[(1,.one (.ptr 0 0))],[.cells [] [.any,.any,.any,.any,.any,.val tI,.val tI,.val .str,.val (.sl 3 tI),.val tI,.val (.sl 26 (.st 1)),.val (.sl 96 (.st 0))]]⟩,[tI,tI,.str,(.sl 3 tI),tI,(.sl 26 (.st 1)),(.sl 96 (.st 0))],fun k h=>qt.j3 k h.1 h.2.1 h.2.2.1 h.2.2.2.1 h.2.2.2.2.1 h.2.2.2.2.2.1 h.2.2.2.2.2.2⟩)],
 [],[]⟩
theorem qt.all: ∀k:Nat,(qt.ct k).Holds Tryz.prog 46:=
 jo eX fun k ih=>
 cO sg.kit Tryz.f46 _ qt.d 2 k (fun j hj=>⟨yX.holds j,(ih j hj),True.intro⟩)
theorem qt.holds (k:Nat):(qt.ct k).Holds Tryz.prog 46:=(qt.all k)
def Iu.ct (k:Nat):Ct sg:=⟨true,⟨[(0,.one (.val (.sl 3 tI))),(1,.one (.val (.sl 3 tI)))],[]⟩,⟨[(0,oB)],[]⟩,[(.sl 3 tI),(.sl 3 tI)],[.bool],fun h=>Iu.f k h.1 h.2⟩
def Iu.d:FD sg (HL sg.S [.bool]):=⟨fun _=> [],
 [(4,⟨⟨[(0,.one (.val (.sl 3 tI))),(1,.one (.val (.sl 3 tI))),(12,oI),(13,oI)],[]⟩,[(.sl 3 tI),(.sl 3 tI),tI,tI],fun k h=>Iu.l4 k h.1 h.2.1 h.2.2.1 h.2.2.2⟩)],
 [],
 [(6,[[0,1,2,3,4,5,6,7,8]])],[]⟩
theorem Iu.holds (k:Nat):(Iu.ct k).Holds Tryz.prog 203:=
 cO sg.kit Tryz.f203 _ Iu.d 1 k (fun _ _=>True.intro)
def Qd.ct (k:Nat):Ct sg:=⟨true,⟨[(0,.st 1),(1,.st 1)],[]⟩,⟨[(0,oB)],[]⟩,[(.st 1),(.st 1)],[.bool],fun h=>Qd.f k h.1 h.2⟩
def Qd.d:FD sg (HL sg.S [.bool]):=⟨fun k=> [(203,Iu.ct k)],
 [],
 [],
 [],[]⟩
theorem Qd.holds (k:Nat):(Qd.ct k).Holds Tryz.prog 175:=
 cO sg.kit Tryz.f175 _ Qd.d 0 k (fun j _=>⟨Iu.holds j,True.intro⟩)
def EO.ct (k:Nat):Ct sg:=⟨true,⟨[(0,.one (.val (.sl 96 (.st 0)))),(1,.st 1)],[]⟩,⟨[(0,oI)],[]⟩,[(.sl 96 (.st 0)),(.st 1)],[tI],fun h=>EO.f k h.1 h.2⟩
def EO.d:FD sg (HL sg.S [tI]):=⟨fun k=> [(175,Qd.ct k)],
 [(2,⟨⟨[(3,.one (.ptr 0 0)),(7,.one (.val (.sl 96 (.st 0)))),(8,oI),(9,oI)],[.cells [] [.val tI,.val .str,.val (.sl 3 tI),.val tI,.val (.sl 26 (.st 1))]]⟩,[(.sl 96 (.st 0)),tI,tI,tI,.str,(.sl 3 tI),tI,(.sl 26 (.st 1))],fun k h=>EO.l2 k h.1 h.2.1 h.2.2.1 h.2.2.2.1 h.2.2.2.2.1 h.2.2.2.2.2.1 h.2.2.2.2.2.2.1 h.2.2.2.2.2.2.2⟩)],
 [],
 [],[]⟩
theorem EO.holds (k:Nat):(EO.ct k).Holds Tryz.prog 121:=
 cO sg.kit Tryz.f121 _ EO.d 1 k (fun j _=>⟨Qd.holds j,True.intro⟩)
def vS.ct (k:Nat):Ct sg:=⟨false,⟨[(0,.st 1)],[]⟩,⟨[(0,.st 1)],[]⟩,[(.st 1)],[(.st 1)],fun h=>vS.f k h⟩
def vS.d:FD sg (HL sg.S [(.st 1)]):=⟨fun k=> [(112,vS.ct k)],
 [(4,⟨⟨[(1,.one (.ptr 0 0)),(2,.one (.ptr 1 0)),(3,.one (.arr 2)),(11,.one (.val (.sl 26 (.st 1)))),(12,oI),(13,oI)],[.cells [] [.val tI,.val .str,.arr 3,.val tI,.any],.cells [] [.any,.any,.any,.any,.any],.arr 26 (.st 1),.arr 3 tI]⟩,[(.sl 26 (.st 1)),tI,tI,tI,.str,tI,(.sl 26 (.st 1)),(.sl 3 tI)],fun k h=>vS.l4 k h.1 h.2.1 h.2.2.1 h.2.2.2.1 h.2.2.2.2.1 h.2.2.2.2.2.1 h.2.2.2.2.2.2.1 h.2.2.2.2.2.2.2⟩)],
 [],
 [],[]⟩
theorem vS.all: ∀k:Nat,(vS.ct k).Holds Tryz.prog 112:=
 jo eX fun k ih=>
 cO sg.kit Tryz.f112 _ vS.d 1 k (fun j hj=>⟨(ih j hj),True.intro⟩)
theorem vS.holds (k:Nat):(vS.ct k).Holds Tryz.prog 112:=(vS.all k)
def Ak.ct (k:Nat):Ct sg:=⟨true,⟨[(0,.one (.val (.sl 26 (.st 1))))],[]⟩,⟨[(0,oI)],[]⟩,[(.sl 26 (.st 1))],[tI],fun h=>Ak.f k h⟩
def Ak.d:FD sg (HL sg.S [tI]):=⟨fun k=> [(181,Ak.ct k)],
 [(3,⟨⟨[(3,oI),(6,.one (.val (.sl 26 (.st 1)))),(7,oI),(8,oI)],[]⟩,[tI,(.sl 26 (.st 1)),tI,tI],fun k h=>Ak.l3 k h.1 h.2.1 h.2.2.1 h.2.2.2⟩)],
 [],
 [],[]⟩
theorem Ak.all: ∀k:Nat,(Ak.ct k).Holds Tryz.prog 181:=
 jo eX fun k ih=>
 cO sg.kit Tryz.f181 _ Ak.d 1 k (fun j hj=>⟨(ih j hj),True.intro⟩)
theorem Ak.holds (k:Nat):(Ak.ct k).Holds Tryz.prog 181:=(Ak.all k)
def I7.ct (k:Nat):Ct sg:=⟨false,⟨[(0,.one (.ptr 0 0)),(1,.st 1)],[.cells [] [.val tI,.val .bool]]⟩,⟨[(0,.st 1)],[.cells [] [.val tI,.val .bool]]⟩,[(.st 1),tI,.bool],[(.st 1),tI,.bool],fun h=>I7.f k h.1 h.2.1 h.2.2⟩
def I7.d:FD sg (HL sg.S [(.st 1),tI,.bool]):=⟨fun k=> [(181,Ak.ct k)],
 [],
 [(100001,⟨⟨[(0,.one (.ptr 0 0)),(3,.one (.ptr 1 0)),(4,.one (.ptr 2 0))],[.cells [] [.val tI,.val .bool],.cells [] [.val tI,.val .str,.val (.sl 3 tI),.val tI,.val (.sl 26 (.st 1))],.cells [] [.any,.any,.any,.any,.any]]⟩,[tI,.bool,tI,.str,(.sl 3 tI),tI,(.sl 26 (.st 1))],fun k h=>I7.d1 k h.1 h.2.1 h.2.2.1 h.2.2.2.1 h.2.2.2.2.1 h.2.2.2.2.2.1 h.2.2.2.2.2.2⟩)],
 [(1,[[0,1,2,4,3,5,6,7,8,9,10],[0,1,2,4,5,3,6,7,8,9,10],[0,1,2,4,5,6,3,7,8,9,10]])],[]⟩
theorem I7.holds (k:Nat):(I7.ct k).Holds Tryz.prog 122:=
 cO sg.kit Tryz.f122 _ I7.d 3 k (fun j _=>⟨Ak.holds j,True.intro⟩)
def q2z.ct (k:Nat):Ct sg:=⟨false,⟨[(0,.one (.ptr 0 0))],[.cells [] [.val tI,.val .bool]]⟩,⟨[(0,.st 1)],[.cells [] [.val tI,.val .bool]]⟩,[tI,.bool],[(.st 1),tI,.bool],fun h=>q2z.f k h.1 h.2⟩
def q2z.d:FD sg (HL sg.S [(.st 1),tI,.bool]):=⟨fun _=> [],
 [],
 [],
 [],[]⟩
theorem q2z.holds (k:Nat):(q2z.ct k).Holds Tryz.prog 123:=
 cO sg.kit Tryz.f123 _ q2z.d 0 k (fun _ _=>True.intro)
def Am.ct (k:Nat):Ct sg:=⟨true,⟨[(0,.st 1),(1,oS)],[]⟩,⟨[(0,oB)],[]⟩,[(.st 1),.str],[.bool],fun h=>Am.f k h.1 h.2⟩
def Am.d:FD sg (HL sg.S [.bool]):=⟨fun _=> [],
 [],
 [],
 [],[]⟩
theorem Am.holds (k:Nat):(Am.ct k).Holds Tryz.prog 39:=
 cO sg.kit Tryz.f39 _ Am.d 0 k (fun _ _=>True.intro)
def BL.ct (k:Nat):Ct sg:=⟨false,⟨[(0,.st 1)],[]⟩,⟨[(0,.one (.val (.sl 26 (.st 1)))),(1,.one (.val (.po (.st 1))))],[]⟩,[(.st 1)],[(.sl 26 (.st 1)),(.po (.st 1))],fun h=>BL.f k h⟩
def BL.d:FD sg (HL sg.S [(.sl 26 (.st 1)),(.po (.st 1))]):=⟨fun _=> [],
 [],
 [],
 [],[3,5,6]⟩
theorem BL.holds (k:Nat):(BL.ct k).Holds Tryz.prog 113:=
 cO sg.kit Tryz.f113 _ BL.d 0 k (fun _ _=>True.intro)
def F5.ct (k:Nat):Ct sg:=⟨false,⟨[(0,.one (.val (.sl 26 (.st 1)))),(1,.st 1)],[]⟩,⟨[(0,.st 1)],[]⟩,[(.sl 26 (.st 1)),(.st 1)],[(.st 1)],fun h=>F5.f k h.1 h.2⟩
def F5.d:FD sg (HL sg.S [(.st 1)]):=⟨fun _=> [],
 [],
 [(100005,⟨⟨[(3,.one (.ptr 0 0)),(4,.one (.ptr 1 0)),(5,.one (.arr 2))],[.cells [] [.val tI,.any,.any,.any,.val (.sl 26 (.st 1))],.cells [] [.any,.any,.any,.any,.any],.arr 26 (.st 1)]⟩,[tI,(.sl 26 (.st 1)),(.sl 26 (.st 1))],fun k h=>F5.d5 k h.1 h.2.1 h.2.2⟩)],
 [(5,[[0,2,3,4,1,5,6,7],[0,2,3,4,5,1,6,7]])],[]⟩
theorem F5.holds (k:Nat):(F5.ct k).Holds Tryz.prog 115:=
 cO sg.kit Tryz.f115 _ F5.d 2 k (fun _ _=>True.intro)
def Iw.ct (k:Nat):Ct sg:=⟨false,⟨[(0,.st 1),(1,.one (.ptr 0 0)),(2,.one (.ptr 1 0)),(3,.one (.ptr 2 0)),(4,.one (.ptr 3 0))],[.cells [] [.val (.sl 96 (.st 0))],.cells [] [.arr 4],.cells [] [.val tI],.cells [] [.ptr 5 0],.mo (.sl 0 tI) (.sl 0 .bool) none,.cells [] [.val tI,.val .bool]]⟩,⟨[],[.cells [] [.val (.sl 96 (.st 0))],.cells [] [.arr 4],.cells [] [.val tI],.cells [] [.ptr 5 0],.mo (.sl 0 tI) (.sl 0 .bool) none,.cells [] [.val tI,.val .bool]]⟩,[(.st 1),(.sl 96 (.st 0)),tI,(.sl 0 tI),(.sl 0 .bool),tI,.bool],[(.sl 96 (.st 0)),tI,(.sl 0 tI),(.sl 0 .bool),tI,.bool],fun h=>Iw.f k h.1 h.2.1 h.2.2.1 h.2.2.2.1 h.2.2.2.2.1 h.2.2.2.2.2.1 h.2.2.2.2.2.2⟩
def Iw.d:FD sg (HL sg.S [(.sl 96 (.st 0)),tI,(.sl 0 tI),(.sl 0 .bool),tI,.bool]):=⟨fun k=> [(121,EO.ct k)],
 [],
 [(2,⟨⟨[(1,.one (.ptr 0 0)),(2,.one (.ptr 1 0)),(3,.one (.ptr 2 0)),(4,.one (.ptr 3 0)),(5,.one (.ptr 6 0))],[.cells [] [.val (.sl 96 (.st 0))],.cells [] [.arr 4],.cells [] [.val tI],.cells [] [.ptr 5 0],.mo (.sl 0 tI) (.sl 0 .bool) none,.cells [] [.val tI,.val .bool],.cells [] [.val tI,.val .str,.val (.sl 3 tI),.val tI,.val (.sl 26 (.st 1))]]⟩,[(.sl 96 (.st 0)),tI,(.sl 0 tI),(.sl 0 .bool),tI,.bool,tI,.str,(.sl 3 tI),tI,(.sl 26 (.st 1))],fun k h=>Iw.j2 k h.1 h.2.1 h.2.2.1 h.2.2.2.1 h.2.2.2.2.1 h.2.2.2.2.2.1 h.2.2.2.2.2.2.1 h.2.2.2.2.2.2.2.1 h.2.2.2.2.2.2.2.2.1 h.2.2.2.2.2.2.2.2.2.1 h.2.2.2.2.2.2.2.2.2.2⟩),
 (4,⟨⟨[(1,.one (.ptr 0 0)),(2,.one (.ptr 1 0)),(3,.one (.ptr 2 0)),(4,.one (.ptr 3 0)),(6,oI)],[.cells [] [.val (.sl 96 (.st 0))],.cells [] [.arr 4],.cells [] [.val tI],.cells [] [.ptr 5 0],.mo (.sl 0 tI) (.sl 0 .bool) none,.cells [] [.val tI,.val .bool]]⟩,[tI,(.sl 96 (.st 0)),tI,(.sl 0 tI),(.sl 0 .bool),tI,.bool],fun k h=>Iw.j4 k h.1 h.2.1 h.2.2.1 h.2.2.2.1 h.2.2.2.2.1 h.2.2.2.2.2.1 h.2.2.2.2.2.2⟩)],
 [],[]⟩
theorem Iw.holds (k:Nat):(Iw.ct k).Holds Tryz.prog 183:=
 cO sg.kit Tryz.f183 _ Iw.d 2 k (fun j _=>⟨EO.holds j,True.intro⟩)
def qm.ct (k:Nat):Ct sg:=⟨false,⟨[(0,.st 1),(1,.one (.fn 183 [0,1,2,3]))],[.cells [] [.val (.sl 96 (.st 0))],.cells [] [.arr 4],.cells [] [.val tI],.cells [] [.ptr 5 0],.mo (.sl 0 tI) (.sl 0 .bool) none,.cells [] [.val tI,.val .bool]]⟩,⟨[],[.cells [] [.val (.sl 96 (.st 0))],.cells [] [.arr 4],.cells [] [.val tI],.cells [] [.ptr 5 0],.mo (.sl 0 tI) (.sl 0 .bool) none,.cells [] [.val tI,.val .bool]]⟩,[(.st 1),(.sl 96 (.st 0)),tI,(.sl 0 tI),(.sl 0 .bool),tI,.bool],[(.sl 96 (.st 0)),tI,(.sl 0 tI),(.sl 0 .bool),tI,.bool],fun h=>qm.f k h.1 h.2.1 h.2.2.1 h.2.2.2.1 h.2.2.2.2.1 h.2.2.2.2.2.1 h.2.2.2.2.2.2⟩
def qm.d:FD sg (HL sg.S [(.sl 96 (.st 0)),tI,(.sl 0 tI),(.sl 0 .bool),tI,.bool]):=⟨fun k=> [(182,qm.ct k),(183,Iw.ct k)],
 [(4,⟨⟨[(1,.one (.fn 183 [0,1,2,3])),(13,.one (.val (.sl 26 (.st 1)))),(14,oI),(15,oI)],[.cells [] [.val (.sl 96 (.st 0))],.cells [] [.arr 4],.cells [] [.val tI],.cells [] [.ptr 5 0],.mo (.sl 0 tI) (.sl 0 .bool) none,.cells [] [.val tI,.val .bool]]⟩,[(.sl 26 (.st 1)),tI,tI,(.sl 96 (.st 0)),tI,(.sl 0 tI),(.sl 0 .bool),tI,.bool],fun k h=>qm.l4 k h.1 h.2.1 h.2.2.1 h.2.2.2.1 h.2.2.2.2.1 h.2.2.2.2.2.1 h.2.2.2.2.2.2.1 h.2.2.2.2.2.2.2.1 h.2.2.2.2.2.2.2.2⟩)],
 [(3,⟨⟨[(1,.one (.fn 183 [0,1,2,3])),(2,.one (.ptr 6 0))],[.cells [] [.val (.sl 96 (.st 0))],.cells [] [.arr 4],.cells [] [.val tI],.cells [] [.ptr 5 0],.mo (.sl 0 tI) (.sl 0 .bool) none,.cells [] [.val tI,.val .bool],.cells [] [.any,.any,.any,.any,.val (.sl 26 (.st 1))]]⟩,[(.sl 96 (.st 0)),tI,(.sl 0 tI),(.sl 0 .bool),tI,.bool,(.sl 26 (.st 1))],fun k h=>qm.j3 k h.1 h.2.1 h.2.2.1 h.2.2.2.1 h.2.2.2.2.1 h.2.2.2.2.2.1 h.2.2.2.2.2.2⟩)],
 [],[]⟩
theorem qm.all: ∀k:Nat,(qm.ct k).Holds Tryz.prog 182:=
 jo eX fun k ih=>
 cO sg.kit Tryz.f182 _ qm.d 2 k (fun j hj=>⟨(ih j hj),Iw.holds j,True.intro⟩)
theorem qm.holds (k:Nat):(qm.ct k).Holds Tryz.prog 182:=(qm.all k)
def qa.ct (k:Nat):Ct sg:=⟨false,⟨[(0,.one (.ptr 0 0)),(1,.st 1),(2,.one (.val (.sl 96 (.st 0)))),(3,oB)],[.cells [] [.val tI,.val .bool]]⟩,⟨[(0,.st 1)],[.cells [] [.val tI,.val .bool]]⟩,[(.st 1),(.sl 96 (.st 0)),.bool,tI,.bool],[(.st 1),tI,.bool],fun h=>qa.f k h.1 h.2.1 h.2.2.1 h.2.2.2.1 h.2.2.2.2⟩
def qb.ct (k:Nat):Ct sg:=⟨false,⟨[(0,.one (.ptr 0 0)),(1,.st 1),(2,oI),(3,.one (.val (.sl 96 (.st 0)))),(4,oB)],[.cells [] [.val tI,.val .bool]]⟩,⟨[(0,.one (.arr 1))],[.cells [] [.val tI,.val .bool],.arr 26 (.st 1)]⟩,[(.st 1),tI,(.sl 96 (.st 0)),.bool,tI,.bool],[tI,.bool,(.sl 26 (.st 1))],fun h=>qb.f k h.1 h.2.1 h.2.2.1 h.2.2.2.1 h.2.2.2.2.1 h.2.2.2.2.2⟩
def qa.d:FD sg (HL sg.S [(.st 1),tI,.bool]):=⟨fun k=> [(39,Am.ct k),(47,qa.ct k),(112,vS.ct k),(113,BL.ct k),(115,F5.ct k),(121,EO.ct k),(122,I7.ct k),(123,q2z.ct k),(124,qb.ct k)],
 [(18,⟨⟨[(0,.one (.ptr 0 0)),(2,.one (.val (.sl 96 (.st 0)))),(3,oB),(8,.one (.ptr 1 0)),(10,.one (.val (.sl 26 (.st 1)))),(11,.one (.val (.po (.st 1)))),(12,.one (.arr 2)),(13,oI)],[.cells [] [.val tI,.val .bool],.cells [] [.any,.any,.any,.any,.any],.arr 26 (.st 1)]⟩,[(.sl 96 (.st 0)),.bool,(.sl 26 (.st 1)),(.po (.st 1)),tI,tI,.bool,(.sl 26 (.st 1))],fun k h=>qa.lG k h.1 h.2.1 h.2.2.1 h.2.2.2.1 h.2.2.2.2.1 h.2.2.2.2.2.1 h.2.2.2.2.2.2.1 h.2.2.2.2.2.2.2⟩),
 (23,⟨⟨[(0,.one (.ptr 0 0)),(2,.one (.val (.sl 96 (.st 0)))),(3,oB),(8,.one (.ptr 1 0)),(10,.one (.val (.sl 26 (.st 1)))),(11,.one (.val (.po (.st 1)))),(12,.one (.arr 2)),(13,oI),(14,oI)],[.cells [] [.val tI,.val .bool],.cells [] [.any,.any,.any,.any,.any],.arr 26 (.st 1)]⟩,[(.sl 96 (.st 0)),.bool,(.sl 26 (.st 1)),(.po (.st 1)),tI,tI,tI,.bool,(.sl 26 (.st 1))],fun k h=>qa.EP k h.1 h.2.1 h.2.2.1 h.2.2.2.1 h.2.2.2.2.1 h.2.2.2.2.2.1 h.2.2.2.2.2.2.1 h.2.2.2.2.2.2.2.1 h.2.2.2.2.2.2.2.2⟩)],
 [(14,⟨⟨[(0,.one (.ptr 0 0)),(2,.one (.val (.sl 96 (.st 0)))),(3,oB),(5,.one (.ptr 1 0)),(8,.one (.ptr 2 0)),(74,oB)],[.cells [] [.val tI,.val .bool],.cells [] [.val tI,.val .str,.val (.sl 3 tI),.val tI,.val (.sl 26 (.st 1))],.cells [] [.any,.any,.any,.any,.any]]⟩,[(.sl 96 (.st 0)),.bool,.bool,tI,.bool,tI,.str,(.sl 3 tI),tI,(.sl 26 (.st 1))],fun k h=>qa.j14 k h.1 h.2.1 h.2.2.1 h.2.2.2.1 h.2.2.2.2.1 h.2.2.2.2.2.1 h.2.2.2.2.2.2.1 h.2.2.2.2.2.2.2.1 h.2.2.2.2.2.2.2.2.1 h.2.2.2.2.2.2.2.2.2⟩),
 (20,⟨⟨[(0,.one (.ptr 0 0)),(2,.one (.val (.sl 96 (.st 0)))),(3,oB),(8,.one (.ptr 1 0)),(10,.one (.val (.sl 26 (.st 1)))),(11,.one (.val (.po (.st 1)))),(12,.one (.arr 2)),(13,oI)],[.cells [] [.val tI,.val .bool],.cells [] [.any,.any,.any,.any,.any],.arr 26 (.st 1)]⟩,[(.sl 96 (.st 0)),.bool,(.sl 26 (.st 1)),(.po (.st 1)),tI,tI,.bool,(.sl 26 (.st 1))],fun k h=>qa.j20 k h.1 h.2.1 h.2.2.1 h.2.2.2.1 h.2.2.2.2.1 h.2.2.2.2.2.1 h.2.2.2.2.2.2.1 h.2.2.2.2.2.2.2⟩),
 (22,⟨⟨[(0,.one (.ptr 0 0)),(2,.one (.val (.sl 96 (.st 0)))),(3,oB),(8,.one (.ptr 1 0)),(10,.one (.val (.sl 26 (.st 1)))),(11,.one (.val (.po (.st 1)))),(12,.one (.arr 2)),(13,oI)],[.cells [] [.val tI,.val .bool],.cells [] [.any,.any,.any,.any,.any],.arr 26 (.st 1)]⟩,[(.sl 96 (.st 0)),.bool,(.sl 26 (.st 1)),(.po (.st 1)),tI,tI,.bool,(.sl 26 (.st 1))],fun k h=>qa.j22 k h.1 h.2.1 h.2.2.1 h.2.2.2.1 h.2.2.2.2.1 h.2.2.2.2.2.1 h.2.2.2.2.2.2.1 h.2.2.2.2.2.2.2⟩)],
 [],[]⟩
def qb.d:FD sg (HL sg.S [tI,.bool,(.sl 26 (.st 1))]):=⟨fun k=> [(47,qa.ct k),(124,qb.ct k),(182,qm.ct k)],
 [(12,⟨⟨[(2,oI),(4,oB),(5,.one (.ptr 1 0)),(6,.one (.ptr 2 0)),(8,.one (.ptr 3 0)),(11,.one (.ptr 4 0)),(12,.one (.ptr 5 0)),(13,.one (.arr 6)),(14,oI)],[.cells [] [.val tI,.val .bool],.cells [] [.ptr 0 0],.cells [] [.val tI,.val .str,.val (.sl 3 tI),.val tI,.val (.sl 26 (.st 1))],.cells [] [.val (.sl 96 (.st 0))],.cells [] [.arr 7],.cells [] [.val tI],.arr 26 (.st 1),.mo (.sl 0 tI) (.sl 0 .bool) none]⟩,[tI,.bool,tI,tI,.bool,tI,.str,(.sl 3 tI),tI,(.sl 26 (.st 1)),(.sl 96 (.st 0)),tI,(.sl 26 (.st 1)),(.sl 0 tI),(.sl 0 .bool)],fun k h=>qb.l12 k h.1 h.2.1 h.2.2.1 h.2.2.2.1 h.2.2.2.2.1 h.2.2.2.2.2.1 h.2.2.2.2.2.2.1 h.2.2.2.2.2.2.2.1 h.2.2.2.2.2.2.2.2.1 h.2.2.2.2.2.2.2.2.2.1 h.2.2.2.2.2.2.2.2.2.2.1 h.2.2.2.2.2.2.2.2.2.2.2.1 h.2.2.2.2.2.2.2.2.2.2.2.2.1 h.2.2.2.2.2.2.2.2.2.2.2.2.2.1 h.2.2.2.2.2.2.2.2.2.2.2.2.2.2⟩),
 (16,⟨⟨[(2,oI),(4,oB),(5,.one (.ptr 1 0)),(6,.one (.ptr 2 0)),(8,.one (.ptr 3 0)),(11,.one (.ptr 4 0)),(12,.one (.ptr 5 0)),(13,.one (.arr 6)),(14,oI),(15,.one (.arr 7)),(55,.one (.arr 8))],[.cells [] [.val tI,.val .bool],.cells [] [.ptr 0 0],.cells [] [.val tI,.val .str,.val (.sl 3 tI),.val tI,.val (.sl 26 (.st 1))],.cells [] [.val (.sl 96 (.st 0))],.cells [] [.arr 9],.cells [] [.val tI],.arr 26 (.st 1),.arr 96 (.st 0),.mo tI (.sl 0 tI) (some 9),.mo (.sl 0 tI) (.sl 0 .bool) none]⟩,[tI,.bool,tI,tI,.bool,tI,.str,(.sl 3 tI),tI,(.sl 26 (.st 1)),(.sl 96 (.st 0)),tI,(.sl 26 (.st 1)),(.sl 96 (.st 0)),tI,(.sl 0 tI),(.sl 0 tI),(.sl 0 .bool)],fun k h=>qb.Ez k h.1 h.2.1 h.2.2.1 h.2.2.2.1 h.2.2.2.2.1 h.2.2.2.2.2.1 h.2.2.2.2.2.2.1 h.2.2.2.2.2.2.2.1 h.2.2.2.2.2.2.2.2.1 h.2.2.2.2.2.2.2.2.2.1 h.2.2.2.2.2.2.2.2.2.2.1 h.2.2.2.2.2.2.2.2.2.2.2.1 h.2.2.2.2.2.2.2.2.2.2.2.2.1 h.2.2.2.2.2.2.2.2.2.2.2.2.2.1 h.2.2.2.2.2.2.2.2.2.2.2.2.2.2.1 h.2.2.2.2.2.2.2.2.2.2.2.2.2.2.2.1 h.2.2.2.2.2.2.2.2.2.2.2.2.2.2.2.2.1 h.2.2.2.2.2.2.2.2.2.2.2.2.2.2.2.2.2⟩)],
 [(10,⟨⟨[(2,oI),(4,oB),(5,.one (.ptr 1 0)),(6,.one (.ptr 2 0)),(8,.one (.ptr 3 0)),(11,.one (.ptr 4 0)),(12,.one (.ptr 5 0))],[.cells [] [.val tI,.val .bool],.cells [] [.ptr 0 0],.cells [] [.val tI,.val .str,.val (.sl 3 tI),.val tI,.val (.sl 26 (.st 1))],.cells [] [.val (.sl 96 (.st 0))],.cells [] [.arr 6],.cells [] [.val tI],.mo (.sl 0 tI) (.sl 0 .bool) none]⟩,[tI,.bool,tI,.bool,tI,.str,(.sl 3 tI),tI,(.sl 26 (.st 1)),(.sl 96 (.st 0)),tI,(.sl 0 tI),(.sl 0 .bool)],fun k h=>qb.j10 k h.1 h.2.1 h.2.2.1 h.2.2.2.1 h.2.2.2.2.1 h.2.2.2.2.2.1 h.2.2.2.2.2.2.1 h.2.2.2.2.2.2.2.1 h.2.2.2.2.2.2.2.2.1 h.2.2.2.2.2.2.2.2.2.1 h.2.2.2.2.2.2.2.2.2.2.1 h.2.2.2.2.2.2.2.2.2.2.2.1 h.2.2.2.2.2.2.2.2.2.2.2.2⟩),
 (14,⟨⟨[(2,oI),(4,oB),(5,.one (.ptr 1 0)),(6,.one (.ptr 2 0)),(8,.one (.ptr 3 0)),(11,.one (.ptr 4 0)),(12,.one (.ptr 5 0)),(13,.one (.arr 6)),(14,oI)],[.cells [] [.val tI,.val .bool],.cells [] [.ptr 0 0],.cells [] [.val tI,.val .str,.val (.sl 3 tI),.val tI,.val (.sl 26 (.st 1))],.cells [] [.val (.sl 96 (.st 0))],.cells [] [.arr 7],.cells [] [.val tI],.arr 26 (.st 1),.mo (.sl 0 tI) (.sl 0 .bool) none]⟩,[tI,.bool,tI,tI,.bool,tI,.str,(.sl 3 tI),tI,(.sl 26 (.st 1)),(.sl 96 (.st 0)),tI,(.sl 26 (.st 1)),(.sl 0 tI),(.sl 0 .bool)],fun k h=>qb.j14 k h.1 h.2.1 h.2.2.1 h.2.2.2.1 h.2.2.2.2.1 h.2.2.2.2.2.1 h.2.2.2.2.2.2.1 h.2.2.2.2.2.2.2.1 h.2.2.2.2.2.2.2.2.1 h.2.2.2.2.2.2.2.2.2.1 h.2.2.2.2.2.2.2.2.2.2.1 h.2.2.2.2.2.2.2.2.2.2.2.1 h.2.2.2.2.2.2.2.2.2.2.2.2.1 h.2.2.2.2.2.2.2.2.2.2.2.2.2.1 h.2.2.2.2.2.2.2.2.2.2.2.2.2.2⟩)],
 [],[]⟩
theorem qa.all: ∀k:Nat,(qa.ct k).Holds Tryz.prog 47∧(qb.ct k).Holds Tryz.prog 124:=
 jo ⟨eX,eX⟩ fun k ih=>
 ⟨cO sg.kit Tryz.f47 _ qa.d 5 k (fun j hj=>⟨Am.holds j,(ih j hj).1,vS.holds j,BL.holds j,F5.holds j,EO.holds j,I7.holds j,q2z.holds j,(ih j hj).2,True.intro⟩),cO sg.kit Tryz.f124 _ qb.d 4 k (fun j hj=>⟨(ih j hj).1,(ih j hj).2,qm.holds j,True.intro⟩)⟩
theorem qa.holds (k:Nat):(qa.ct k).Holds Tryz.prog 47:=(qa.all k).1
theorem qb.holds (k:Nat):(qb.ct k).Holds Tryz.prog 124:=(qa.all k).2
def EC.ct (k:Nat):Ct sg:=⟨false,⟨[(0,.st 1),(1,.one (.val (.sl 96 (.st 0))))],[]⟩,⟨[(0,.st 1),(1,oB)],[]⟩,[(.st 1),(.sl 96 (.st 0))],[(.st 1),.bool],fun h=>EC.f k h.1 h.2⟩
def EC.d:FD sg (HL sg.S [(.st 1),.bool]):=⟨fun k=> [(23,yX.ct k),(46,qt.ct k),(47,qa.ct k)],
 [(4,⟨⟨[(1,.one (.val (.sl 96 (.st 0)))),(2,.one (.ptr 0 0)),(4,.one (.ptr 1 0)),(14,.one (.val (.sl 96 (.st 0)))),(15,oI),(16,oI)],[.cells [] [.val tI,.val .str,.val (.sl 3 tI),.val tI,.val (.sl 26 (.st 1))],.cells [] [.any,.any,.any,.any,.any]]⟩,[(.sl 96 (.st 0)),(.sl 96 (.st 0)),tI,tI,tI,.str,(.sl 3 tI),tI,(.sl 26 (.st 1))],fun k h=>EC.l4 k h.1 h.2.1 h.2.2.1 h.2.2.2.1 h.2.2.2.2.1 h.2.2.2.2.2.1 h.2.2.2.2.2.2.1 h.2.2.2.2.2.2.2.1 h.2.2.2.2.2.2.2.2⟩)],
 [],
 [],[]⟩
theorem EC.holds (k:Nat):(EC.ct k).Holds Tryz.prog 14:=
 cO sg.kit Tryz.f14 _ EC.d 1 k (fun j _=>⟨yX.holds j,qt.holds j,qa.holds j,True.intro⟩)
def Rn.ct (k:Nat):Ct sg:=⟨true,⟨[(0,oI),(1,oI),(2,oI)],[]⟩,⟨[(0,oB)],[]⟩,[tI,tI,tI],[.bool],fun h=>Rn.f k h.1 h.2.1 h.2.2⟩
def Rn.d:FD sg (HL sg.S [.bool]):=⟨fun _=> [],
 [],
 [],
 [],[]⟩
theorem Rn.holds (k:Nat):(Rn.ct k).Holds Tryz.prog 161:=
 cO sg.kit Tryz.f161 _ Rn.d 0 k (fun _ _=>True.intro)
def qq.ct (k:Nat):Ct sg:=⟨true,⟨[(0,.one (.val (.sl 96 (.st 0)))),(1,oI)],[]⟩,⟨[(0,oB)],[]⟩,[(.sl 96 (.st 0)),tI],[.bool],fun h=>qq.f k h.1 h.2⟩
def qq.d:FD sg (HL sg.S [.bool]):=⟨fun k=> [(25,q13.ct k),(93,qq.ct k),(161,Rn.ct k)],
 [(2,⟨⟨[(0,.one (.val (.sl 96 (.st 0)))),(1,oI),(5,oI)],[]⟩,[(.sl 96 (.st 0)),tI,tI],fun k h=>qq.l2 k h.1 h.2.1 h.2.2⟩)],
 [(7,⟨⟨[(0,.one (.val (.sl 96 (.st 0)))),(1,oI),(5,oI),(6,.one (.ptr 0 0))],[.cells [] [.any,.any,.any,.any,.any,.val tI,.val tI,.val .str,.val (.sl 3 tI),.val tI,.val (.sl 26 (.st 1)),.val (.sl 96 (.st 0))]]⟩,[(.sl 96 (.st 0)),tI,tI,tI,tI,.str,(.sl 3 tI),tI,(.sl 26 (.st 1)),(.sl 96 (.st 0))],fun k h=>qq.j7 k h.1 h.2.1 h.2.2.1 h.2.2.2.1 h.2.2.2.2.1 h.2.2.2.2.2.1 h.2.2.2.2.2.2.1 h.2.2.2.2.2.2.2.1 h.2.2.2.2.2.2.2.2.1 h.2.2.2.2.2.2.2.2.2⟩)],
 [],[]⟩
theorem qq.all: ∀k:Nat,(qq.ct k).Holds Tryz.prog 93:=
 jo eX fun k ih=>
 cO sg.kit Tryz.f93 _ qq.d 2 k (fun j hj=>⟨q13.holds j,(ih j hj),Rn.holds j,True.intro⟩)
theorem qq.holds (k:Nat):(qq.ct k).Holds Tryz.prog 93:=(qq.all k)
def BM.ct (k:Nat):Ct sg:=⟨true,⟨[(0,.one (.val (.sl 96 (.st 0)))),(1,.st 1)],[]⟩,⟨[(0,oI)],[]⟩,[(.sl 96 (.st 0)),(.st 1)],[tI],fun h=>BM.f k h.1 h.2⟩
def BM.d:FD sg (HL sg.S [tI]):=⟨fun k=> [(120,Qa.ct k)],
 [(2,⟨⟨[(0,.one (.val (.sl 96 (.st 0)))),(3,.one (.ptr 0 0)),(5,oI)],[.cells [] [.val tI,.val .str,.val (.sl 3 tI),.val tI,.val (.sl 26 (.st 1))]]⟩,[(.sl 96 (.st 0)),tI,tI,.str,(.sl 3 tI),tI,(.sl 26 (.st 1))],fun k h=>BM.l2 k h.1 h.2.1 h.2.2.1 h.2.2.2.1 h.2.2.2.2.1 h.2.2.2.2.2.1 h.2.2.2.2.2.2⟩)],
 [],
 [(4,[[0,1,2,3,4,5,6]])],[]⟩
theorem BM.holds (k:Nat):(BM.ct k).Holds Tryz.prog 193:=
 cO sg.kit Tryz.f193 _ BM.d 1 k (fun j _=>⟨Qa.holds j,True.intro⟩)
def I8.ct (k:Nat):Ct sg:=⟨false,⟨[(0,.st 1),(1,.one (.val (.sl 96 (.st 0))))],[]⟩,⟨[(0,.st 1),(1,oB)],[]⟩,[(.st 1),(.sl 96 (.st 0))],[(.st 1),.bool],fun h=>I8.f k h.1 h.2⟩
def I8.d:FD sg (HL sg.S [(.st 1),.bool]):=⟨fun k=> [(106,qu.ct k),(193,BM.ct k)],
 [],
 [(100004,⟨⟨[(1,.one (.val (.sl 96 (.st 0)))),(4,.one (.ptr 0 0)),(6,oI)],[.cells [] [.any,.any,.any,.any,.any]]⟩,[(.sl 96 (.st 0)),tI],fun k h=>I8.d4 k h.1 h.2⟩)],
 [(4,[[0,1,2,3,4,6,7,8,9,5,10,11,12,13],[0,1,2,3,4,6,7,8,9,5,12,10,11,13],[0,1,2,3,4,6,7,8,9,10,11,5,12,13]])],[]⟩
theorem I8.holds (k:Nat):(I8.ct k).Holds Tryz.prog 162:=
 cO sg.kit Tryz.f162 _ I8.d 3 k (fun j _=>⟨qu.holds j,BM.holds j,True.intro⟩)
def Vd.ct (k:Nat):Ct sg:=⟨false,⟨[(0,.st 1)],[]⟩,⟨[(0,.st 1)],[]⟩,[(.st 1)],[(.st 1)],fun h=>Vd.f k h⟩
def Vd.d:FD sg (HL sg.S [(.st 1)]):=⟨fun k=> [(105,qp.ct k)],
 [],
 [],
 [(4,[[0,1,2,3,4,5,6,7,8,9,10,11,12]])],[]⟩
theorem Vd.holds (k:Nat):(Vd.ct k).Holds Tryz.prog 194:=
 cO sg.kit Tryz.f194 _ Vd.d 0 k (fun j _=>⟨qp.holds j,True.intro⟩)
def BN.ct (k:Nat):Ct sg:=⟨false,⟨[(0,.st 1),(1,.one (.val (.sl 96 (.st 0))))],[]⟩,⟨[(0,.st 1),(1,oB)],[]⟩,[(.st 1),(.sl 96 (.st 0))],[(.st 1),.bool],fun h=>BN.f k h.1 h.2⟩
def BN.d:FD sg (HL sg.S [(.st 1),.bool]):=⟨fun k=> [(106,qu.ct k),(162,I8.ct k),(163,BN.ct k),(194,Vd.ct k)],
 [(5,⟨⟨[(1,.one (.val (.sl 96 (.st 0)))),(2,.one (.ptr 0 0)),(4,.one (.ptr 1 0)),(6,.one (.ptr 2 0)),(7,oI)],[.cells [] [.any,.any,.any,.any,.val (.sl 26 (.st 1))],.cells [] [.any,.any,.any,.any,.any],.cells [] [.val tI,.val .str,.arr 3,.val tI,.arr 4],.arr 3 tI,.arr 26 (.st 1)]⟩,[(.sl 96 (.st 0)),tI,(.sl 26 (.st 1)),tI,.str,tI,(.sl 3 tI),(.sl 26 (.st 1))],fun k h=>BN.l5 k h.1 h.2.1 h.2.2.1 h.2.2.2.1 h.2.2.2.2.1 h.2.2.2.2.2.1 h.2.2.2.2.2.2.1 h.2.2.2.2.2.2.2⟩)],
 [],
 [],[]⟩
theorem BN.all: ∀k:Nat,(BN.ct k).Holds Tryz.prog 163:=
 jo eX fun k ih=>
 cO sg.kit Tryz.f163 _ BN.d 1 k (fun j hj=>⟨qu.holds j,I8.holds j,(ih j hj),Vd.holds j,True.intro⟩)
theorem BN.holds (k:Nat):(BN.ct k).Holds Tryz.prog 163:=(BN.all k)
def q10.ct (k:Nat):Ct sg:=⟨false,⟨[(0,.one (.val (.sl 96 (.st 0)))),(1,.one (.val (.sl 26 (.st 1)))),(2,oI)],[]⟩,⟨[(0,.one (.arr 0))],[.arr 96 (.st 0)]⟩,[(.sl 96 (.st 0)),(.sl 26 (.st 1)),tI],[(.sl 96 (.st 0))],fun h=>q10.f k h.1 h.2.1 h.2.2⟩
def q10.d:FD sg (HL sg.S [(.sl 96 (.st 0))]):=⟨fun k=> [(44,xG.ct k),(193,BM.ct k)],
 [(3,⟨⟨[(0,.one (.val (.sl 96 (.st 0)))),(1,.one (.val (.sl 26 (.st 1)))),(2,oI),(7,.one (.arr 0)),(8,oI)],[.arr 96 (.st 0)]⟩,[(.sl 96 (.st 0)),(.sl 26 (.st 1)),tI,tI,(.sl 96 (.st 0))],fun k h=>q10.l3 k h.1 h.2.1 h.2.2.1 h.2.2.2.1 h.2.2.2.2⟩)],
 [(7,⟨⟨[(0,.one (.val (.sl 96 (.st 0)))),(1,.one (.val (.sl 26 (.st 1)))),(2,oI),(7,.one (.arr 0)),(8,oI),(9,.one (.ptr 1 0)),(37,oB)],[.arr 96 (.st 0),.cells [] [.val tI,.val .str,.val (.sl 3 tI),.val tI,.val (.sl 26 (.st 1)),.val tI,.val tI,.val .str,.val (.sl 3 tI),.val tI,.val (.sl 26 (.st 1)),.val (.sl 96 (.st 0))]]⟩,[(.sl 96 (.st 0)),(.sl 26 (.st 1)),tI,tI,.bool,(.sl 96 (.st 0)),tI,.str,(.sl 3 tI),tI,(.sl 26 (.st 1)),tI,tI,.str,(.sl 3 tI),tI,(.sl 26 (.st 1)),(.sl 96 (.st 0))],fun k h=>q10.j7 k h.1 h.2.1 h.2.2.1 h.2.2.2.1 h.2.2.2.2.1 h.2.2.2.2.2.1 h.2.2.2.2.2.2.1 h.2.2.2.2.2.2.2.1 h.2.2.2.2.2.2.2.2.1 h.2.2.2.2.2.2.2.2.2.1 h.2.2.2.2.2.2.2.2.2.2.1 h.2.2.2.2.2.2.2.2.2.2.2.1 h.2.2.2.2.2.2.2.2.2.2.2.2.1 h.2.2.2.2.2.2.2.2.2.2.2.2.2.1 h.2.2.2.2.2.2.2.2.2.2.2.2.2.2.1 h.2.2.2.2.2.2.2.2.2.2.2.2.2.2.2.1 h.2.2.2.2.2.2.2.2.2.2.2.2.2.2.2.2.1 h.2.2.2.2.2.2.2.2.2.2.2.2.2.2.2.2.2⟩)],
 [],[]⟩
theorem q10.holds (k:Nat):(q10.ct k).Holds Tryz.prog 195:=
 cO sg.kit Tryz.f195 _ q10.d 2 k (fun j _=>⟨xG.holds j,BM.holds j,True.intro⟩)
def zF.ct (k:Nat):Ct sg:=⟨true,⟨[(0,.one (.val (.sl 26 (.st 1))))],[]⟩,⟨[(0,oI)],[]⟩,[(.sl 26 (.st 1))],[tI],fun h=>zF.f k h⟩
def zF.d:FD sg (HL sg.S [tI]):=⟨fun k=> [(98,yj.ct k)],
 [(3,⟨⟨[(0,.one (.val (.sl 26 (.st 1)))),(3,oI),(4,oI)],[]⟩,[(.sl 26 (.st 1)),tI,tI],fun k h=>zF.l3 k h.1 h.2.1 h.2.2⟩)],
 [],
 [],[]⟩
theorem zF.holds (k:Nat):(zF.ct k).Holds Tryz.prog 165:=
 cO sg.kit Tryz.f165 _ zF.d 1 k (fun j _=>⟨yj.holds j,True.intro⟩)
def qc.ct (k:Nat):Ct sg:=⟨false,⟨[(0,.st 1),(1,.one (.val (.sl 96 (.st 0))))],[]⟩,⟨[(0,.st 1),(1,oB)],[]⟩,[(.st 1),(.sl 96 (.st 0))],[(.st 1),.bool],fun h=>qc.f k h.1 h.2⟩
def qf.ct (k:Nat):Ct sg:=⟨false,⟨[(0,.st 1),(1,.one (.val (.sl 96 (.st 0)))),(2,oI)],[]⟩,⟨[(0,.one (.arr 0)),(1,oB)],[.arr 26 (.st 1)]⟩,[(.st 1),(.sl 96 (.st 0)),tI],[.bool,(.sl 26 (.st 1))],fun h=>qf.f k h.1 h.2.1 h.2.2⟩
def qc.d:FD sg (HL sg.S [(.st 1),.bool]):=⟨fun k=> [(94,qc.ct k),(105,qp.ct k),(106,qu.ct k),(107,wS.ct k),(108,q11.ct k),(162,I8.ct k),(163,BN.ct k),(164,qf.ct k),(165,zF.ct k)],
 [(11,⟨⟨[(1,.one (.val (.sl 96 (.st 0)))),(2,.one (.ptr 0 0)),(4,.one (.ptr 1 0)),(6,.one (.val (.sl 26 (.st 1)))),(7,.one (.ptr 2 0)),(8,oI)],[.cells [] [.val tI,.any,.any,.any,.val (.sl 26 (.st 1))],.cells [] [.any,.any,.any,.any,.any],.cells [] [.val tI,.val .str,.val (.sl 3 tI),.val tI,.arr 3],.arr 26 (.st 1)]⟩,[(.sl 96 (.st 0)),(.sl 26 (.st 1)),tI,tI,(.sl 26 (.st 1)),tI,.str,(.sl 3 tI),tI,(.sl 26 (.st 1))],fun k h=>qc.t_ k h.1 h.2.1 h.2.2.1 h.2.2.2.1 h.2.2.2.2.1 h.2.2.2.2.2.1 h.2.2.2.2.2.2.1 h.2.2.2.2.2.2.2.1 h.2.2.2.2.2.2.2.2.1 h.2.2.2.2.2.2.2.2.2⟩),
 (14,⟨⟨[(1,.one (.val (.sl 96 (.st 0)))),(2,.one (.ptr 0 0)),(4,.one (.ptr 1 0)),(6,.one (.val (.sl 26 (.st 1)))),(7,.one (.ptr 2 0)),(8,oI),(9,oI)],[.cells [] [.val tI,.any,.any,.any,.val (.sl 26 (.st 1))],.cells [] [.any,.any,.any,.any,.any],.cells [] [.val tI,.val .str,.val (.sl 3 tI),.val tI,.arr 3],.arr 26 (.st 1)]⟩,[(.sl 96 (.st 0)),(.sl 26 (.st 1)),tI,tI,tI,(.sl 26 (.st 1)),tI,.str,(.sl 3 tI),tI,(.sl 26 (.st 1))],fun k h=>qc.iO k h.1 h.2.1 h.2.2.1 h.2.2.2.1 h.2.2.2.2.1 h.2.2.2.2.2.1 h.2.2.2.2.2.2.1 h.2.2.2.2.2.2.2.1 h.2.2.2.2.2.2.2.2.1 h.2.2.2.2.2.2.2.2.2.1 h.2.2.2.2.2.2.2.2.2.2⟩)],
 [(7,⟨⟨[(1,.one (.val (.sl 96 (.st 0)))),(2,.one (.ptr 0 0)),(4,.one (.ptr 1 0)),(42,oB)],[.cells [] [.val tI,.val .str,.val (.sl 3 tI),.val tI,.val (.sl 26 (.st 1))],.cells [] [.any,.any,.any,.any,.any]]⟩,[(.sl 96 (.st 0)),.bool,tI,.str,(.sl 3 tI),tI,(.sl 26 (.st 1))],fun k h=>qc.j7 k h.1 h.2.1 h.2.2.1 h.2.2.2.1 h.2.2.2.2.1 h.2.2.2.2.2.1 h.2.2.2.2.2.2⟩),
 (19,⟨⟨[(1,.one (.val (.sl 96 (.st 0)))),(2,.one (.ptr 0 0)),(4,.one (.ptr 1 0)),(6,.one (.val (.sl 26 (.st 1)))),(7,.one (.ptr 2 0)),(8,oI),(9,oI),(10,.one (.arr 3))],[.cells [] [.val tI,.any,.any,.any,.val (.sl 26 (.st 1))],.cells [] [.any,.any,.any,.any,.any],.cells [] [.val tI,.val .str,.val (.sl 3 tI),.val tI,.arr 4],.arr 26 (.st 1),.arr 26 (.st 1)]⟩,[(.sl 96 (.st 0)),(.sl 26 (.st 1)),tI,tI,tI,(.sl 26 (.st 1)),tI,.str,(.sl 3 tI),tI,(.sl 26 (.st 1)),(.sl 26 (.st 1))],fun k h=>qc.j19 k h.1 h.2.1 h.2.2.1 h.2.2.2.1 h.2.2.2.2.1 h.2.2.2.2.2.1 h.2.2.2.2.2.2.1 h.2.2.2.2.2.2.2.1 h.2.2.2.2.2.2.2.2.1 h.2.2.2.2.2.2.2.2.2.1 h.2.2.2.2.2.2.2.2.2.2.1 h.2.2.2.2.2.2.2.2.2.2.2⟩)],
 [],[]⟩
def qf.d:FD sg (HL sg.S [.bool,(.sl 26 (.st 1))]):=⟨fun k=> [(43,uQ.ct k),(94,qc.ct k),(164,qf.ct k),(165,zF.ct k),(193,BM.ct k),(195,q10.ct k)],
 [(7,⟨⟨[(1,.one (.val (.sl 96 (.st 0)))),(2,oI),(3,.one (.ptr 0 0)),(10,.one (.arr 1)),(11,oI),(12,oI)],[.cells [] [.val tI,.val .str,.val (.sl 3 tI),.val tI,.val (.sl 26 (.st 1))],.arr 26 (.st 1)]⟩,[(.sl 96 (.st 0)),tI,tI,tI,tI,.str,(.sl 3 tI),tI,(.sl 26 (.st 1)),(.sl 26 (.st 1))],fun k h=>qf.l7 k h.1 h.2.1 h.2.2.1 h.2.2.2.1 h.2.2.2.2.1 h.2.2.2.2.2.1 h.2.2.2.2.2.2.1 h.2.2.2.2.2.2.2.1 h.2.2.2.2.2.2.2.2.1 h.2.2.2.2.2.2.2.2.2⟩),
 (18,⟨⟨[(1,.one (.val (.sl 96 (.st 0)))),(2,oI),(3,.one (.ptr 0 0)),(10,.one (.val (.sl 26 (.st 1)))),(11,oI),(14,.one (.arr 1)),(15,oI)],[.cells [] [.val tI,.val .str,.val (.sl 3 tI),.val tI,.val (.sl 26 (.st 1))],.arr 26 (.st 1)]⟩,[(.sl 96 (.st 0)),tI,(.sl 26 (.st 1)),tI,tI,tI,.str,(.sl 3 tI),tI,(.sl 26 (.st 1)),(.sl 26 (.st 1))],fun k h=>qf.lG k h.1 h.2.1 h.2.2.1 h.2.2.2.1 h.2.2.2.2.1 h.2.2.2.2.2.1 h.2.2.2.2.2.2.1 h.2.2.2.2.2.2.2.1 h.2.2.2.2.2.2.2.2.1 h.2.2.2.2.2.2.2.2.2.1 h.2.2.2.2.2.2.2.2.2.2⟩)],
 [(100020,⟨⟨[(1,.one (.val (.sl 96 (.st 0)))),(2,oI),(3,.one (.ptr 0 0)),(10,.one (.val (.sl 26 (.st 1)))),(11,oI),(14,.one (.arr 1)),(15,oI)],[.cells [] [.val tI,.val .str,.val (.sl 3 tI),.val tI,.val (.sl 26 (.st 1))],.arr 26 (.st 1)]⟩,[(.sl 96 (.st 0)),tI,(.sl 26 (.st 1)),tI,tI,tI,.str,(.sl 3 tI),tI,(.sl 26 (.st 1)),(.sl 26 (.st 1))],fun k h=>qf.d20 k h.1 h.2.1 h.2.2.1 h.2.2.2.1 h.2.2.2.2.1 h.2.2.2.2.2.1 h.2.2.2.2.2.2.1 h.2.2.2.2.2.2.2.1 h.2.2.2.2.2.2.2.2.1 h.2.2.2.2.2.2.2.2.2.1 h.2.2.2.2.2.2.2.2.2.2⟩),
 (11,⟨⟨[(1,.one (.val (.sl 96 (.st 0)))),(2,oI),(3,.one (.ptr 0 0)),(10,.one (.arr 1)),(11,oI),(12,oI),(13,oI)],[.cells [] [.val tI,.val .str,.val (.sl 3 tI),.val tI,.val (.sl 26 (.st 1))],.arr 26 (.st 1)]⟩,[(.sl 96 (.st 0)),tI,tI,tI,tI,tI,.str,(.sl 3 tI),tI,(.sl 26 (.st 1)),(.sl 26 (.st 1))],fun k h=>qf.j11 k h.1 h.2.1 h.2.2.1 h.2.2.2.1 h.2.2.2.2.1 h.2.2.2.2.2.1 h.2.2.2.2.2.2.1 h.2.2.2.2.2.2.2.1 h.2.2.2.2.2.2.2.2.1 h.2.2.2.2.2.2.2.2.2.1 h.2.2.2.2.2.2.2.2.2.2⟩)],
 [(20,[[1,2,3,5,6,0,4,7,8,9,10,11,12],[1,2,3,5,6,4,0,7,8,9,10,11,12]])],[]⟩
theorem qc.all: ∀k:Nat,(qc.ct k).Holds Tryz.prog 94∧(qf.ct k).Holds Tryz.prog 164:=
 jo ⟨eX,eX⟩ fun k ih=>
 ⟨cO sg.kit Tryz.f94 _ qc.d 4 k (fun j hj=>⟨(ih j hj).1,qp.holds j,qu.holds j,wS.holds j,q11.holds j,I8.holds j,BN.holds j,(ih j hj).2,zF.holds j,True.intro⟩),cO sg.kit Tryz.f164 _ qf.d 5 k (fun j hj=>⟨uQ.holds j,(ih j hj).1,(ih j hj).2,zF.holds j,BM.holds j,q10.holds j,True.intro⟩)⟩
theorem qc.holds (k:Nat):(qc.ct k).Holds Tryz.prog 94:=(qc.all k).1
theorem qf.holds (k:Nat):(qf.ct k).Holds Tryz.prog 164:=(qc.all k).2
def I9.ct (k:Nat):Ct sg:=⟨false,⟨[(0,.st 1),(1,.one (.val (.sl 96 (.st 0))))],[]⟩,⟨[(0,.st 1),(1,oB)],[]⟩,[(.st 1),(.sl 96 (.st 0))],[(.st 1),.bool],fun h=>I9.f k h.1 h.2⟩
def I9.d:FD sg (HL sg.S [(.st 1),.bool]):=⟨fun k=> [(25,q13.ct k),(93,qq.ct k),(94,qc.ct k)],
 [],
 [(3,⟨⟨[(1,.one (.val (.sl 96 (.st 0)))),(2,.one (.ptr 0 0)),(4,.one (.ptr 1 0))],[.cells [] [.val tI,.val .str,.val (.sl 3 tI),.val tI,.val (.sl 26 (.st 1))],.cells [] [.any,.any,.any,.any,.any]]⟩,[(.sl 96 (.st 0)),tI,.str,(.sl 3 tI),tI,(.sl 26 (.st 1))],fun k h=>I9.j3 k h.1 h.2.1 h.2.2.1 h.2.2.2.1 h.2.2.2.2.1 h.2.2.2.2.2⟩)],
 [],[]⟩
theorem I9.holds (k:Nat):(I9.ct k).Holds Tryz.prog 22:=
 cO sg.kit Tryz.f22 _ I9.d 1 k (fun j _=>⟨q13.holds j,qq.holds j,qc.holds j,True.intro⟩)
def I_.ct (k:Nat):Ct sg:=⟨true,⟨[(0,.one (.val (.sl 3 tI))),(1,.one (.val (.sl 3 tI)))],[]⟩,⟨[(0,oB)],[]⟩,[(.sl 3 tI),(.sl 3 tI)],[.bool],fun h=>I_.f k h.1 h.2⟩
def I_.d:FD sg (HL sg.S [.bool]):=⟨fun _=> [],
 [(4,⟨⟨[(0,.one (.val (.sl 3 tI))),(1,.one (.val (.sl 3 tI))),(5,oI)],[]⟩,[(.sl 3 tI),(.sl 3 tI),tI],fun k h=>I_.l4 k h.1 h.2.1 h.2.2⟩)],
 [],
 [(6,[[0,1,2,3,4,5,6,7,8]])],[]⟩
theorem I_.holds (k:Nat):(I_.ct k).Holds Tryz.prog 48:=
 cO sg.kit Tryz.f48 _ I_.d 1 k (fun _ _=>True.intro)
def Iz.ct (k:Nat):Ct sg:=⟨true,⟨[(0,.st 1),(1,.st 1)],[]⟩,⟨[(0,oB)],[]⟩,[(.st 1),(.st 1)],[.bool],fun h=>Iz.f k h.1 h.2⟩
def KQ.ct (k:Nat):Ct sg:=⟨true,⟨[(0,.one (.val (.sl 26 (.st 1)))),(1,.one (.val (.sl 26 (.st 1))))],[]⟩,⟨[(0,oB)],[]⟩,[(.sl 26 (.st 1)),(.sl 26 (.st 1))],[.bool],fun h=>KQ.f k h.1 h.2⟩
def Iz.d:FD sg (HL sg.S [.bool]):=⟨fun k=> [(48,I_.ct k),(49,KQ.ct k)],
 [],
 [],
 [],[]⟩
def KQ.d:FD sg (HL sg.S [.bool]):=⟨fun k=> [(15,Iz.ct k)],
 [(4,⟨⟨[(0,.one (.val (.sl 26 (.st 1)))),(1,.one (.val (.sl 26 (.st 1)))),(5,oI)],[]⟩,[(.sl 26 (.st 1)),(.sl 26 (.st 1)),tI],fun k h=>KQ.l4 k h.1 h.2.1 h.2.2⟩)],
 [],
 [(6,[[0,1,2,3,4,5,6,7,8,9]])],[]⟩
theorem Iz.all: ∀k:Nat,(Iz.ct k).Holds Tryz.prog 15∧(KQ.ct k).Holds Tryz.prog 49:=
 jo ⟨eX,eX⟩ fun k ih=>
 ⟨cO sg.kit Tryz.f15 _ Iz.d 0 k (fun j hj=>⟨I_.holds j,(ih j hj).2,True.intro⟩),cO sg.kit Tryz.f49 _ KQ.d 1 k (fun j hj=>⟨(ih j hj).1,True.intro⟩)⟩
theorem Iz.holds (k:Nat):(Iz.ct k).Holds Tryz.prog 15:=(Iz.all k).1
theorem KQ.holds (k:Nat):(KQ.ct k).Holds Tryz.prog 49:=(Iz.all k).2
def qx.ct (k:Nat):Ct sg:=⟨false,⟨[(0,.one (.ptr 0 0)),(1,.st 1)],[.cells [] [.val (.sl 5 (.int .u8)),.val tI]]⟩,⟨[(0,.st 1)],[.cells [] [.val (.sl 5 (.int .u8)),.val tI]]⟩,[(.st 1),(.sl 5 (.int .u8)),tI],[(.st 1),(.sl 5 (.int .u8)),tI],fun h=>qx.f k h.1 h.2.1 h.2.2⟩
def qx.d:FD sg (HL sg.S [(.st 1),(.sl 5 (.int .u8)),tI]):=⟨fun k=> [(33,qi.ct k),(106,qu.ct k),(109,Aj.ct k)],
 [(4,⟨⟨[(4,.one (.ptr 1 0)),(5,.one (.ptr 2 0)),(6,oI)],[.cells [] [.val (.sl 5 (.int .u8)),.val tI],.cells [] [.any,.any,.any,.any,.any],.cells [] [.val tI,.val .str,.arr 3,.val tI,.arr 4],.arr 3 tI,.arr 26 (.st 1)]⟩,[tI,(.sl 5 (.int .u8)),tI,tI,.str,tI,(.sl 3 tI),(.sl 26 (.st 1))],fun k h=>qx.l4 k h.1 h.2.1 h.2.2.1 h.2.2.2.1 h.2.2.2.2.1 h.2.2.2.2.2.1 h.2.2.2.2.2.2.1 h.2.2.2.2.2.2.2⟩)],
 [(100012,⟨⟨[(0,.one (.ptr 0 0)),(4,.one (.ptr 1 0)),(5,.one (.ptr 2 0))],[.cells [] [.val (.sl 5 (.int .u8)),.val tI],.cells [] [.any,.any,.any,.any,.any],.cells [] [.val tI,.val .str,.arr 3,.val tI,.arr 4],.arr 3 tI,.arr 26 (.st 1)]⟩,[(.sl 5 (.int .u8)),tI,tI,.str,tI,(.sl 3 tI),(.sl 26 (.st 1))],fun k h=>qx.d12 k h.1 h.2.1 h.2.2.1 h.2.2.2.1 h.2.2.2.2.1 h.2.2.2.2.2.1 h.2.2.2.2.2.2⟩)],
 [(12,[[0,3,1,2,4,5,6,7,8,9,10],[0,3,1,4,2,5,6,7,8,9,10],[0,3,2,1,4,5,6,7,8,9,10],[0,3,2,4,5,6,1,7,8,9,10],[0,3,2,4,5,6,7,1,8,9,10],[0,3,4,1,2,5,6,7,8,9,10],[0,3,4,2,5,6,1,7,8,9,10],[0,3,4,2,5,6,7,1,8,9,10]])],[]⟩
theorem qx.holds (k:Nat):(qx.ct k).Holds Tryz.prog 34:=
 cO sg.kit Tryz.f34 _ qx.d 9 k (fun j _=>⟨qi.holds j,qu.holds j,Aj.holds j,True.intro⟩)
def Ro.ct (k:Nat):Ct sg:=⟨false,⟨[(0,.one (.ptr 0 0))],[.cells [] [.val (.sl 5 (.int .u8)),.val tI]]⟩,⟨[(0,.st 1)],[.cells [] [.val (.sl 5 (.int .u8)),.val tI]]⟩,[(.sl 5 (.int .u8)),tI],[(.st 1),(.sl 5 (.int .u8)),tI],fun h=>Ro.f k h.1 h.2⟩
def Ro.d:FD sg (HL sg.S [(.st 1),(.sl 5 (.int .u8)),tI]):=⟨fun k=> [(33,qi.ct k),(34,qx.ct k),(92,q7.ct k)],
 [],
 [],
 [],[]⟩
theorem Ro.holds (k:Nat):(Ro.ct k).Holds Tryz.prog 96:=
 cO sg.kit Tryz.f96 _ Ro.d 0 k (fun j _=>⟨qi.holds j,qx.holds j,q7.holds j,True.intro⟩)
def Vf.ct (k:Nat):Ct sg:=⟨false,⟨[(0,.one (.val (.sl 5 (.int .u8))))],[]⟩,⟨[(0,.st 1)],[]⟩,[(.sl 5 (.int .u8))],[(.st 1)],fun h=>Vf.f k h⟩
def Vf.d:FD sg (HL sg.S [(.st 1)]):=⟨fun k=> [(29,IZ.ct k),(96,Ro.ct k)],
 [],
 [],
 [],[]⟩
theorem Vf.holds (k:Nat):(Vf.ct k).Holds Tryz.prog 24:=
 cO sg.kit Tryz.f24 _ Vf.d 0 k (fun j _=>⟨IZ.holds j,Ro.holds j,True.intro⟩)
def ED.ct (k:Nat):Ct sg:=⟨true,⟨[(0,oS),(1,oI)],[]⟩,⟨[(0,oS),(1,oI)],[]⟩,[.str,tI],[.str,tI],fun h=>ED.f k h.1 h.2⟩
def ED.d:FD sg (HL sg.S [.str,tI]):=⟨fun k=> [(199,P_.ct k)],
 [(5,⟨⟨[(0,oS),(1,oI),(6,oI)],[]⟩,[.str,tI,tI],fun k h=>ED.l5 k h.1 h.2.1 h.2.2⟩),
 (10,⟨⟨[(0,oS),(1,oI),(6,oI)],[]⟩,[.str,tI,tI],fun k h=>ED.l10 k h.1 h.2.1 h.2.2⟩)],
 [(2,⟨⟨[(0,oS),(1,oI),(22,oB)],[]⟩,[.str,tI,.bool],fun k h=>ED.j2 k h.1 h.2.1 h.2.2⟩)],
 [],[]⟩
theorem ED.holds (k:Nat):(ED.ct k).Holds Tryz.prog 223:=
 cO sg.kit Tryz.f223 _ ED.d 3 k (fun j _=>⟨P_.holds j,True.intro⟩)
def Ap.ct (k:Nat):Ct sg:=⟨false,⟨[(0,.st 1),(1,.one (.val (.sl 26 (.st 1))))],[]⟩,⟨[(0,.st 3),(1,oB)],[]⟩,[(.st 1),(.sl 26 (.st 1))],[(.st 3),.bool],fun h=>Ap.f k h.1 h.2⟩
def Ap.d:FD sg (HL sg.S [(.st 3),.bool]):=⟨fun k=> [(11,yl.ct k),(106,qu.ct k)],
 [],
 [(100009,⟨⟨[(2,.one (.ptr 0 0)),(4,.one (.ptr 1 0)),(6,.one (.ptr 2 0))],[.cells [] [.any,.any,.any,.any,.val (.sl 26 (.st 1))],.cells [] [.any,.any,.any,.any,.any,.any,.any,.any,.any,.any],.cells [] [.val tI,.val .str,.arr 3,.val tI,.arr 4],.arr 3 tI,.arr 26 (.st 1)]⟩,[(.sl 26 (.st 1)),tI,.str,tI,(.sl 3 tI),(.sl 26 (.st 1))],fun k h=>Ap.d9 k h.1 h.2.1 h.2.2.1 h.2.2.2.1 h.2.2.2.2.1 h.2.2.2.2.2⟩),
 (3,⟨⟨[(1,.one (.val (.sl 26 (.st 1)))),(2,.one (.ptr 0 0)),(4,.one (.ptr 1 0))],[.cells [] [.any,.any,.any,.any,.val (.sl 26 (.st 1))],.cells [] [.any,.any,.any,.any,.any,.any,.any,.any,.any,.any]]⟩,[(.sl 26 (.st 1)),(.sl 26 (.st 1))],fun k h=>Ap.j3 k h.1 h.2⟩),
 (6,⟨⟨[(1,.one (.val (.sl 26 (.st 1)))),(2,.one (.ptr 0 0)),(4,.one (.ptr 1 0)),(6,.one (.ptr 2 0))],[.cells [] [.any,.any,.any,.any,.val (.sl 26 (.st 1))],.cells [] [.any,.any,.any,.any,.any,.any,.any,.any,.any,.any],.cells [] [.val tI,.val .str,.arr 3,.val tI,.arr 4],.arr 3 tI,.arr 26 (.st 1)]⟩,[(.sl 26 (.st 1)),(.sl 26 (.st 1)),tI,.str,tI,(.sl 3 tI),(.sl 26 (.st 1))],fun k h=>Ap.j6 k h.1 h.2.1 h.2.2.1 h.2.2.2.1 h.2.2.2.2.1 h.2.2.2.2.2.1 h.2.2.2.2.2.2⟩)],
 [(9,[[1,2,3,4,0,5,6,7,8],[1,2,3,4,5,0,6,7,8]])],[]⟩
theorem Ap.holds (k:Nat):(Ap.ct k).Holds Tryz.prog 172:=
 cO sg.kit Tryz.f172 _ Ap.d 4 k (fun j _=>⟨yl.holds j,qu.holds j,True.intro⟩)
def qy.ct (k:Nat):Ct sg:=⟨false,⟨[(0,.st 1)],[]⟩,⟨[(0,.st 4),(1,oB)],[]⟩,[(.st 1)],[(.st 4),.bool],fun h=>qy.f k h⟩
def qy.d:FD sg (HL sg.S [(.st 4),.bool]):=⟨fun k=> [(25,q13.ct k),(41,EM.ct k),(171,Bj.ct k),(172,Ap.ct k)],
 [(5,⟨⟨[(1,.one (.ptr 0 0)),(2,.one (.ptr 1 0)),(4,.one (.ptr 2 0)),(5,oI)],[.cells [] [.any,.any,.any,.any,.val (.sl 26 (.st 1))],.cells [] [.any,.any],.cells [] [.val (.sl 26 (.st 1)),.arr 3],.arr 184 (.st 3)]⟩,[tI,(.sl 26 (.st 1)),(.sl 26 (.st 1)),(.sl 184 (.st 3))],fun k h=>qy.l5 k h.1 h.2.1 h.2.2.1 h.2.2.2⟩)],
 [(100007,⟨⟨[(1,.one (.ptr 0 0)),(2,.one (.ptr 1 0)),(4,.one (.ptr 2 0)),(5,oI)],[.cells [] [.any,.any,.any,.any,.val (.sl 26 (.st 1))],.cells [] [.any,.any],.cells [] [.val (.sl 26 (.st 1)),.arr 3],.arr 184 (.st 3)]⟩,[tI,(.sl 26 (.st 1)),(.sl 26 (.st 1)),(.sl 184 (.st 3))],fun k h=>qy.d7 k h.1 h.2.1 h.2.2.1 h.2.2.2⟩),
 (2,⟨⟨[(1,.one (.ptr 0 0)),(2,.one (.ptr 1 0)),(54,oB)],[.cells [] [.any,.any,.any,.any,.val (.sl 26 (.st 1))],.cells [] [.any,.any]]⟩,[.bool,(.sl 26 (.st 1))],fun k h=>qy.j2 k h.1 h.2⟩)],
 [(7,[[0,2,5,1,3,4,6,7,8,9,10,11,12,13],[0,2,5,1,3,4,6,11,7,8,9,10,12,13],[0,2,5,1,3,4,11,6,7,8,9,10,12,13],[0,2,5,1,3,6,4,7,8,9,10,11,12,13],[0,2,5,1,3,6,4,11,7,8,9,10,12,13],[0,2,5,1,3,6,11,4,7,8,9,10,12,13],[0,2,5,1,3,11,4,6,7,8,9,10,12,13],[0,2,5,6,1,3,4,7,8,9,10,11,12,13],[0,2,5,6,1,3,4,11,7,8,9,10,12,13],[0,2,5,6,1,3,11,4,7,8,9,10,12,13],[0,2,5,6,11,1,3,4,7,8,9,10,12,13],[0,2,5,11,1,3,4,6,7,8,9,10,12,13]])],[]⟩
theorem qy.holds (k:Nat):(qy.ct k).Holds Tryz.prog 99:=
 cO sg.kit Tryz.f99 _ qy.d 14 k (fun j _=>⟨q13.holds j,EM.holds j,Bj.holds j,Ap.holds j,True.intro⟩)
def Aq.ct (k:Nat):Ct sg:=⟨false,⟨[(0,.one (.ptr 0 0))],[.cells [] [.val (.sl 5 (.int .u8)),.val tI]]⟩,⟨[(0,.one (.arr 1))],[.cells [] [.val (.sl 5 (.int .u8)),.val tI],.arr 197 (.st 2)]⟩,[(.sl 5 (.int .u8)),tI],[(.sl 5 (.int .u8)),tI,(.sl 197 (.st 2))],fun h=>Aq.f k h.1 h.2⟩
def Aq.d:FD sg (HL sg.S [(.sl 5 (.int .u8)),tI,(.sl 197 (.st 2))]):=⟨fun k=> [(33,qi.ct k),(101,qn.ct k),(104,yV.ct k)],
 [(3,⟨⟨[(0,.one (.ptr 0 0)),(3,.one (.arr 1)),(4,oI)],[.cells [] [.val (.sl 5 (.int .u8)),.val tI],.arr 197 (.st 2)]⟩,[tI,(.sl 5 (.int .u8)),tI,(.sl 197 (.st 2))],fun k h=>Aq.l3 k h.1 h.2.1 h.2.2.1 h.2.2.2⟩)],
 [(100006,⟨⟨[(0,.one (.ptr 0 0)),(3,.one (.arr 1)),(4,oI),(5,.one (.ptr 2 0))],[.cells [] [.val (.sl 5 (.int .u8)),.val tI],.arr 197 (.st 2),.cells [] [.any,.val .str,.val (.sl 3 tI),.any,.any]]⟩,[tI,(.sl 5 (.int .u8)),tI,(.sl 197 (.st 2)),.str,(.sl 3 tI)],fun k h=>Aq.d6 k h.1 h.2.1 h.2.2.1 h.2.2.2.1 h.2.2.2.2.1 h.2.2.2.2.2⟩)],
 [(6,[[0,1,3,5,2,4,6,7,8,9,10,11],[0,1,3,5,2,6,4,7,8,9,10,11],[0,1,3,5,4,2,6,7,8,9,10,11],[0,1,3,5,4,6,2,7,8,9,10,11],[0,1,3,5,6,2,4,7,8,9,10,11]])],[]⟩
theorem Aq.holds (k:Nat):(Aq.ct k).Holds Tryz.prog 35:=
 cO sg.kit Tryz.f35 _ Aq.d 6 k (fun j _=>⟨qi.holds j,qn.holds j,yV.holds j,True.intro⟩)
end
noncomputable section
namespace D
def sg:jf:=RX.sg.ow none
theorem sg.kit:Kit Tryz.prog sg:=RX.sg.kit.cv
theorem sg.ok:fH sg:=sg.kit.ok
theorem sg.tab:fJ Tryz.prog sg:=sg.kit.tab
theorem sg.mixed:Tryz.prog.follows .mixedOrders=true:=RX.sg.mixed
def Wi.ct (k:Nat):Ct sg:=⟨true,⟨[],[]⟩,⟨[(0,.one (.arr 0))],[.arr 9 .str]⟩,[],[(.sl 9 .str)],fun h=>Wi.f k⟩
def Wi.d:FD sg (HL sg.S [(.sl 9 .str)]):=⟨fun _=> [],
 [],
 [],
 [],[]⟩
theorem Wi.holds (k:Nat):(Wi.ct k).Holds Tryz.prog 174:=
 cO sg.kit Tryz.f174 _ Wi.d 0 k (fun _ _=>True.intro)
def Qh.ct (k:Nat):Ct sg:=⟨true,⟨[(0,oS)],[]⟩,⟨[(0,.one (.arr 0))],[.arr 9 .str]⟩,[.str],[(.sl 9 .str)],fun h=>Qh.f k h⟩
def Qh.d:FD sg (HL sg.S [(.sl 9 .str)]):=⟨fun k=> [(222,(Ri.ct k).ow none),(223,(ED.ct k).ow none)],
 [(3,⟨⟨[(0,oS),(3,.one (.arr 0)),(4,oI)],[.arr 9 .str]⟩,[.str,tI,(.sl 9 .str)],fun k h=>Qh.l3 k h.1 h.2.1 h.2.2⟩)],
 [],
 [],[]⟩
theorem Qh.holds (k:Nat):(Qh.ct k).Holds Tryz.prog 201:=
 cO sg.kit Tryz.f201 _ Qh.d 1 k (fun j _=>⟨(Ri.holds j).cv,(ED.holds j).cv,True.intro⟩)
def qp.ct (k:Nat):Ct sg:=⟨false,⟨[(0,.one (.jS 0)),(1,.agg [.val tI,.val .str,.jS 1,.val tI,.jS 2])],[.ow false true 26 (.st 1),.ow false false 3 tI,.ow false true 26 (.st 1)]⟩,⟨[(0,.agg [.val tI,.val .str,.jS 0,.val tI,.jS 1])],[.ow false false 3 tI,.ow false true 26 (.st 1)]⟩,[tI,.str,tI,(.sl 26 (.st 1)),(.sl 3 tI),(.sl 26 (.st 1))],[tI,.str,tI,(.sl 3 tI),(.sl 26 (.st 1))],fun h=>qp.f k h.1 h.2.1 h.2.2.1 h.2.2.2.1 h.2.2.2.2.1 h.2.2.2.2.2⟩
def qp.d:FD sg (HL sg.S [tI,.str,tI,(.sl 3 tI),(.sl 26 (.st 1))]):=⟨fun _=> [],
 [],
 [(100006,⟨⟨[(0,.one (.jS 0)),(3,.one (.ptr 1 0)),(4,.one (.ptr 2 0))],[.ow false true 26 (.st 1),.cells [] [.val tI,.any,.jS 3,.any,.jS 4],.cells [] [.any,.any,.any,.any,.any],.arr 3 tI,.ow false true 26 (.st 1)]⟩,[(.sl 26 (.st 1)),tI,(.sl 3 tI),(.sl 26 (.st 1))],fun k h=>qp.d6 k h.1 h.2.1 h.2.2.1 h.2.2.2⟩),
 (100007,⟨⟨[(0,.one (.jS 0)),(3,.one (.ptr 1 0)),(4,.one (.ptr 2 0))],[.ow false true 26 (.st 1),.cells [] [.val tI,.val .str,.jS 3,.val tI,.jS 4],.cells [] [.any,.any,.any,.any,.any],.arr 3 tI,.ow false true 26 (.st 1)]⟩,[(.sl 26 (.st 1)),tI,.str,tI,(.sl 3 tI),(.sl 26 (.st 1))],fun k h=>qp.d7 k h.1 h.2.1 h.2.2.1 h.2.2.2.1 h.2.2.2.2.1 h.2.2.2.2.2⟩)],
 [(6,[[0,3,5,1,2,4,6,7,8,9],[0,3,5,1,2,6,4,7,8,9],[0,3,5,1,6,2,4,7,8,9],[0,3,5,2,1,4,6,7,8,9],[0,3,5,2,1,6,4,7,8,9],[0,3,5,2,4,6,1,7,8,9],[0,3,5,2,4,6,7,1,8,9],[0,3,5,2,6,1,4,7,8,9],[0,3,5,2,6,4,1,7,8,9],[0,3,5,2,6,4,7,1,8,9],[0,3,5,6,1,2,4,7,8,9],[0,3,5,6,2,1,4,7,8,9],[0,3,5,6,2,4,1,7,8,9],[0,3,5,6,2,4,7,1,8,9]]),(7,[[1,0,2,3,4,5,6,7],[1,0,3,2,4,5,6,7],[1,0,3,4,2,5,6,7],[1,3,0,2,4,5,6,7],[1,3,0,4,2,5,6,7],[1,3,4,0,2,5,6,7]])],[16,18,21,23,25,27,28]⟩
theorem qp.holds (k:Nat):(qp.ct k).Holds Tryz.prog 105:=
 cO sg.kit Tryz.f105 _ qp.d 20 k (fun _ _=>True.intro)
def qr.ct (k:Nat):Ct sg:=⟨false,⟨[(0,.one (.ptr 0 0)),(1,oI)],[.cells [] [.val (.sl 9 .str),.val tI,.val tI,.val .bool]]⟩,⟨[(0,.agg [.val tI,.val .str,.jS 1,.val tI,.jS 2])],[.cells [] [.val (.sl 9 .str),.val tI,.val tI,.val .bool],.ow false false 3 tI,.ow false true 26 (.st 1)]⟩,[tI,(.sl 9 .str),tI,tI,.bool],[tI,.str,tI,(.sl 9 .str),tI,tI,.bool,(.sl 3 tI),(.sl 26 (.st 1))],fun h=>qr.f k h.1 h.2.1 h.2.2.1 h.2.2.2.1 h.2.2.2.2⟩
def Ja.ct (k:Nat):Ct sg:=⟨false,⟨[(0,.one (.ptr 0 0)),(1,.one (.jS 1)),(2,oI)],[.cells [] [.val (.sl 9 .str),.val tI,.val tI,.val .bool],.ow false true 26 (.st 1)]⟩,⟨[(0,.agg [.val tI,.val .str,.jS 1,.val tI,.jS 2])],[.cells [] [.val (.sl 9 .str),.val tI,.val tI,.val .bool],.ow false false 3 tI,.ow false true 26 (.st 1)]⟩,[tI,(.sl 9 .str),tI,tI,.bool,(.sl 26 (.st 1))],[tI,.str,tI,(.sl 9 .str),tI,tI,.bool,(.sl 3 tI),(.sl 26 (.st 1))],fun h=>Ja.f k h.1 h.2.1 h.2.2.1 h.2.2.2.1 h.2.2.2.2.1 h.2.2.2.2.2⟩
def Ar.ct (k:Nat):Ct sg:=⟨false,⟨[(0,.one (.ptr 0 0)),(1,oI)],[.cells [] [.val (.sl 9 .str),.val tI,.val tI,.val .bool]]⟩,⟨[(0,.agg [.val tI,.val .str,.jS 1,.val tI,.jS 2])],[.cells [] [.val (.sl 9 .str),.val tI,.val tI,.val .bool],.ow false false 3 tI,.ow false true 26 (.st 1)]⟩,[tI,(.sl 9 .str),tI,tI,.bool],[tI,.str,tI,(.sl 9 .str),tI,tI,.bool,(.sl 3 tI),(.sl 26 (.st 1))],fun h=>Ar.f k h.1 h.2.1 h.2.2.1 h.2.2.2.1 h.2.2.2.2⟩
def qr.d:FD sg (HL sg.S [tI,.str,tI,(.sl 9 .str),tI,tI,.bool,(.sl 3 tI),(.sl 26 (.st 1))]):=⟨fun k=> [(168,(Bl.ct k).ow none),(170,(q12.ct k).ow none),(202,qr.ct k),(224,Ar.ct k)],
 [],
 [(100011,⟨⟨[(0,.one (.ptr 0 0)),(1,oI),(4,.one (.ptr 1 0)),(6,.one (.ptr 2 0))],[.cells [] [.val (.sl 9 .str),.val tI,.val tI,.val .bool],.cells [] [.any,.any,.any,.any,.any],.cells [] [.val tI,.val .str,.val (.sl 3 tI),.val tI,.val (.sl 26 (.st 1))]]⟩,[tI,(.sl 9 .str),tI,tI,.bool,tI,.str,(.sl 3 tI),tI,(.sl 26 (.st 1))],fun k h=>qr.d11 k h.1 h.2.1 h.2.2.1 h.2.2.2.1 h.2.2.2.2.1 h.2.2.2.2.2.1 h.2.2.2.2.2.2.1 h.2.2.2.2.2.2.2.1 h.2.2.2.2.2.2.2.2.1 h.2.2.2.2.2.2.2.2.2⟩),
 (4,⟨⟨[(0,.one (.ptr 0 0)),(1,oI),(4,.one (.ptr 1 0))],[.cells [] [.val (.sl 9 .str),.val tI,.val tI,.val .bool],.cells [] [.any,.any,.any,.any,.any]]⟩,[tI,(.sl 9 .str),tI,tI,.bool],fun k h=>qr.j4 k h.1 h.2.1 h.2.2.1 h.2.2.2.1 h.2.2.2.2⟩),
 (13,⟨⟨[(0,.one (.ptr 0 0)),(4,.one (.ptr 1 0)),(5,oS),(78,oB)],[.cells [] [.val (.sl 9 .str),.val tI,.val tI,.val .bool],.cells [] [.any,.any,.any,.any,.any]]⟩,[.str,.bool,(.sl 9 .str),tI,tI,.bool],fun k h=>qr.j13 k h.1 h.2.1 h.2.2.1 h.2.2.2.1 h.2.2.2.2.1 h.2.2.2.2.2⟩),
 (15,⟨⟨[(0,.one (.ptr 0 0)),(4,.one (.ptr 1 0)),(5,oS),(88,oB)],[.cells [] [.val (.sl 9 .str),.val tI,.val tI,.val .bool],.cells [] [.any,.any,.any,.any,.any]]⟩,[.str,.bool,(.sl 9 .str),tI,tI,.bool],fun k h=>qr.j15 k h.1 h.2.1 h.2.2.1 h.2.2.2.1 h.2.2.2.2.1 h.2.2.2.2.2⟩)],
 [(1,[[0,1,2,3,4,5,6,7,8,9,10,11,12,13,14,15,16,17,18,19]]),(4,[[0,1,2,3,4,5,6,7,8,9,10]]),(11,[[1,2,3,0,4,5,6,7],[1,2,3,4,0,5,6,7]])],[76]⟩
def Ja.d:FD sg (HL sg.S [tI,.str,tI,(.sl 9 .str),tI,tI,.bool,(.sl 3 tI),(.sl 26 (.st 1))]):=⟨fun k=> [(105,qp.ct k),(202,qr.ct k)],
 [],
 [(8,⟨⟨[(0,.one (.ptr 0 0)),(1,.one (.jS 1)),(6,.one (.ptr 2 0)),(7,.one (.ptr 3 0))],[.cells [] [.val (.sl 9 .str),.val tI,.val tI,.val .bool],.ow false true 26 (.st 1),.cells [] [.any,.any,.any,.any,.any],.cells [] [.val tI,.val .str,.jS 4,.val tI,.jS 5],.arr 3 tI,.ow false true 26 (.st 1)]⟩,[(.sl 9 .str),tI,tI,.bool,(.sl 26 (.st 1)),tI,.str,tI,(.sl 3 tI),(.sl 26 (.st 1))],fun k h=>Ja.j8 k h.1 h.2.1 h.2.2.1 h.2.2.2.1 h.2.2.2.2.1 h.2.2.2.2.2.1 h.2.2.2.2.2.2.1 h.2.2.2.2.2.2.2.1 h.2.2.2.2.2.2.2.2.1 h.2.2.2.2.2.2.2.2.2⟩)],
 [(6,[[0,1,2,3,4,5,6,7,8,9,10,11,12,13,14,15,16,17,18,19,20,21,22]])],[]⟩
def Ar.d:FD sg (HL sg.S [tI,.str,tI,(.sl 9 .str),tI,tI,.bool,(.sl 3 tI),(.sl 26 (.st 1))]):=⟨fun k=> [(202,qr.ct k),(239,Ja.ct k)],
 [(2,⟨⟨[(0,.one (.ptr 0 0)),(1,oI),(4,.one (.ptr 1 0)),(5,.one (.arr 2))],[.cells [] [.val (.sl 9 .str),.val tI,.val tI,.val .bool],.cells [] [.any,.any,.any,.any,.any],.ow false true 26 (.st 1)]⟩,[tI,(.sl 9 .str),tI,tI,.bool,(.sl 26 (.st 1))],fun k h=>Ar.l2 k h.1 h.2.1 h.2.2.1 h.2.2.2.1 h.2.2.2.2.1 h.2.2.2.2.2⟩)],
 [(3,⟨⟨[(0,.one (.ptr 0 0)),(1,oI),(4,.one (.ptr 1 0)),(5,.one (.arr 2))],[.cells [] [.val (.sl 9 .str),.val tI,.val tI,.val .bool],.cells [] [.any,.any,.any,.any,.any],.ow false true 26 (.st 1)]⟩,[tI,(.sl 9 .str),tI,tI,.bool,(.sl 26 (.st 1))],fun k h=>Ar.j3 k h.1 h.2.1 h.2.2.1 h.2.2.2.1 h.2.2.2.2.1 h.2.2.2.2.2⟩)],
 [(2,[[0,1,2,3,4,5,6,7,8,9,10,11,12,13,14,15,16,17,18,19,20,21,22,23,24,25,26,27,28,29]]),(3,[[0,1,2,3,4,5,6,7,8,9,10]]),(6,[[0,1,2,3,4,5,6,7,8,9]])],[6,57,58]⟩
theorem qr.all: ∀k:Nat,(qr.ct k).Holds Tryz.prog 202∧(Ja.ct k).Holds Tryz.prog 239∧(Ar.ct k).Holds Tryz.prog 224:=
 jo ⟨eX,eX,eX⟩ fun k ih=>
 ⟨cO sg.kit Tryz.f202 _ qr.d 5 k (fun j hj=>⟨(Bl.holds j).cv,(q12.holds j).cv,(ih j hj).1,(ih j hj).2.2,True.intro⟩),cO sg.kit Tryz.f239 _ Ja.d 1 k (fun j hj=>⟨qp.holds j,(ih j hj).1,True.intro⟩),cO sg.kit Tryz.f224 _ Ar.d 2 k (fun j hj=>⟨(ih j hj).1,(ih j hj).2.1,True.intro⟩)⟩
theorem qr.holds (k:Nat):(qr.ct k).Holds Tryz.prog 202:=(qr.all k).1
theorem Ja.holds (k:Nat):(Ja.ct k).Holds Tryz.prog 239:=(qr.all k).2.1
theorem Ar.holds (k:Nat):(Ar.ct k).Holds Tryz.prog 224:=(qr.all k).2.2
def BO.ct (k:Nat):Ct sg:=⟨true,⟨[(0,oS)],[]⟩,⟨[(0,.one (.jS 0)),(1,oB)],[.ow false true 26 (.st 1)]⟩,[.str],[.bool,(.sl 26 (.st 1))],fun h=>BO.f k h⟩
def BO.d:FD sg (HL sg.S [.bool,(.sl 26 (.st 1))]):=⟨fun k=> [(98,(yj.ct k).ow none),(201,Qh.ct k),(202,qr.ct k)],
 [(6,⟨⟨[(4,.one (.ptr 0 0)),(5,.one (.arr 1)),(6,oI)],[.cells [] [.val (.sl 9 .str),.val tI,.val tI,.val .bool],.ow false true 26 (.st 1)]⟩,[tI,(.sl 9 .str),tI,tI,.bool,(.sl 26 (.st 1))],fun k h=>BO.l6 k h.1 h.2.1 h.2.2.1 h.2.2.2.1 h.2.2.2.2.1 h.2.2.2.2.2⟩)],
 [(7,⟨⟨[(4,.one (.ptr 0 0)),(5,.one (.arr 1)),(6,oI)],[.cells [] [.val (.sl 9 .str),.val tI,.val tI,.val .bool],.ow false true 26 (.st 1)]⟩,[tI,(.sl 9 .str),tI,tI,.bool,(.sl 26 (.st 1))],fun k h=>BO.j7 k h.1 h.2.1 h.2.2.1 h.2.2.2.1 h.2.2.2.2.1 h.2.2.2.2.2⟩)],
 [(6,[[0,1,2,3,4,5,6,7,8,9,10,11,12,13,14,15,16]])],[11,16,42,43,52]⟩
theorem BO.holds (k:Nat):(BO.ct k).Holds Tryz.prog 173:=
 cO sg.kit Tryz.f173 _ BO.d 2 k (fun j _=>⟨(yj.holds j).cv,Qh.holds j,qr.holds j,True.intro⟩)
def qn.ct (k:Nat):Ct sg:=⟨false,⟨[(0,.one (.ptr 0 0))],[.cells [] [.val (.sl 5 (.int .u8)),.val tI]]⟩,⟨[(0,.agg [.val tI,.val .str,.jS 1,.val tI,.jS 2])],[.cells [] [.val (.sl 5 (.int .u8)),.val tI],.ow false false 3 tI,.ow false true 26 (.st 1)]⟩,[(.sl 5 (.int .u8)),tI],[tI,.str,tI,(.sl 5 (.int .u8)),tI,(.sl 3 tI),(.sl 26 (.st 1))],fun h=>qn.f k h.1 h.2⟩
def qn.d:FD sg (HL sg.S [tI,.str,tI,(.sl 5 (.int .u8)),tI,(.sl 3 tI),(.sl 26 (.st 1))]):=⟨fun k=> [(33,(qi.ct k).ow none),(109,(Aj.ct k).ow none)],
 [(3,⟨⟨[(0,.one (.ptr 0 0)),(2,.one (.ptr 1 0)),(3,.one (.ptr 2 0)),(4,oI)],[.cells [] [.val (.sl 5 (.int .u8)),.val tI],.cells [] [.any,.any,.any,.any,.any],.cells [] [.val tI,.val .str,.arr 3,.val tI,.val (.sl 26 (.st 1))],.arr 3 tI]⟩,[tI,(.sl 5 (.int .u8)),tI,tI,.str,tI,(.sl 26 (.st 1)),(.sl 3 tI)],fun k h=>qn.l3 k h.1 h.2.1 h.2.2.1 h.2.2.2.1 h.2.2.2.2.1 h.2.2.2.2.2.1 h.2.2.2.2.2.2.1 h.2.2.2.2.2.2.2⟩)],
 [],
 [],[]⟩
theorem qn.holds (k:Nat):(qn.ct k).Holds Tryz.prog 101:=
 cO sg.kit Tryz.f101 _ qn.d 1 k (fun j _=>⟨(qi.holds j).cv,(Aj.holds j).cv,True.intro⟩)
def q7.ct (k:Nat):Ct sg:=⟨false,⟨[(0,.one (.ptr 0 0)),(1,oI)],[.cells [] [.val (.sl 5 (.int .u8)),.val tI]]⟩,⟨[(0,.agg [.val tI,.val .str,.jS 1,.val tI,.jS 2])],[.cells [] [.val (.sl 5 (.int .u8)),.val tI],.ow false false 3 tI,.ow false true 26 (.st 1)]⟩,[tI,(.sl 5 (.int .u8)),tI],[tI,.str,tI,(.sl 5 (.int .u8)),tI,(.sl 3 tI),(.sl 26 (.st 1))],fun h=>q7.f k h.1 h.2.1 h.2.2⟩
def q7.d:FD sg (HL sg.S [tI,.str,tI,(.sl 5 (.int .u8)),tI,(.sl 3 tI),(.sl 26 (.st 1))]):=⟨fun k=> [(33,(qi.ct k).ow none),(92,q7.ct k),(101,qn.ct k),(109,(Aj.ct k).ow none),(160,(P9.ct k).ow none)],
 [(12,⟨⟨[(0,.one (.ptr 0 0)),(1,oI),(4,.one (.ptr 1 0)),(5,.one (.ptr 2 0)),(6,oI)],[.cells [] [.val (.sl 5 (.int .u8)),.val tI],.cells [] [.any,.any,.any,.any,.any],.cells [] [.val tI,.val .str,.val (.sl 3 tI),.val tI,.arr 3],.ow false true 26 (.st 1)]⟩,[tI,tI,(.sl 5 (.int .u8)),tI,tI,.str,(.sl 3 tI),tI,(.sl 26 (.st 1))],fun k h=>q7.l12 k h.1 h.2.1 h.2.2.1 h.2.2.2.1 h.2.2.2.2.1 h.2.2.2.2.2.1 h.2.2.2.2.2.2.1 h.2.2.2.2.2.2.2.1 h.2.2.2.2.2.2.2.2⟩),
 (19,⟨⟨[(0,.one (.ptr 0 0)),(1,oI),(4,.one (.ptr 1 0)),(7,.one (.ptr 2 0)),(8,oI)],[.cells [] [.val (.sl 5 (.int .u8)),.val tI],.cells [] [.any,.any,.any,.any,.any],.cells [] [.val tI,.val .str,.val (.sl 3 tI),.val tI,.arr 3],.ow false true 26 (.st 1)]⟩,[tI,tI,(.sl 5 (.int .u8)),tI,tI,.str,(.sl 3 tI),tI,(.sl 26 (.st 1))],fun k h=>q7.tX k h.1 h.2.1 h.2.2.1 h.2.2.2.1 h.2.2.2.2.1 h.2.2.2.2.2.1 h.2.2.2.2.2.2.1 h.2.2.2.2.2.2.2.1 h.2.2.2.2.2.2.2.2⟩)],
 [(100014,⟨⟨[(0,.one (.ptr 0 0)),(1,oI),(4,.one (.ptr 1 0)),(5,.one (.ptr 2 0)),(6,oI)],[.cells [] [.val (.sl 5 (.int .u8)),.val tI],.cells [] [.any,.any,.any,.any,.any],.cells [] [.val tI,.val .str,.val (.sl 3 tI),.val tI,.arr 3],.ow false true 26 (.st 1)]⟩,[tI,tI,(.sl 5 (.int .u8)),tI,tI,.str,(.sl 3 tI),tI,(.sl 26 (.st 1))],fun k h=>q7.d14 k h.1 h.2.1 h.2.2.1 h.2.2.2.1 h.2.2.2.2.1 h.2.2.2.2.2.1 h.2.2.2.2.2.2.1 h.2.2.2.2.2.2.2.1 h.2.2.2.2.2.2.2.2⟩),
 (100015,⟨⟨[(0,.one (.ptr 0 0)),(4,.one (.ptr 1 0)),(5,.one (.ptr 2 0))],[.cells [] [.val (.sl 5 (.int .u8)),.val tI],.cells [] [.any,.any,.any,.any,.any],.cells [] [.val tI,.val .str,.val (.sl 3 tI),.val tI,.arr 3],.ow false true 26 (.st 1)]⟩,[(.sl 5 (.int .u8)),tI,tI,.str,(.sl 3 tI),tI,(.sl 26 (.st 1))],fun k h=>q7.d15 k h.1 h.2.1 h.2.2.1 h.2.2.2.1 h.2.2.2.2.1 h.2.2.2.2.2.1 h.2.2.2.2.2.2⟩),
 (100021,⟨⟨[(0,.one (.ptr 0 0)),(1,oI),(4,.one (.ptr 1 0)),(7,.one (.ptr 2 0)),(8,oI)],[.cells [] [.val (.sl 5 (.int .u8)),.val tI],.cells [] [.any,.any,.any,.any,.any],.cells [] [.val tI,.val .str,.val (.sl 3 tI),.val tI,.arr 3],.ow false true 26 (.st 1)]⟩,[tI,tI,(.sl 5 (.int .u8)),tI,tI,.str,(.sl 3 tI),tI,(.sl 26 (.st 1))],fun k h=>q7.d21 k h.1 h.2.1 h.2.2.1 h.2.2.2.1 h.2.2.2.2.1 h.2.2.2.2.2.1 h.2.2.2.2.2.2.1 h.2.2.2.2.2.2.2.1 h.2.2.2.2.2.2.2.2⟩),
 (4,⟨⟨[(0,.one (.ptr 0 0)),(1,oI),(4,.one (.ptr 1 0)),(14,oI),(15,oB)],[.cells [] [.val (.sl 5 (.int .u8)),.val tI],.cells [] [.any,.any,.any,.any,.any]]⟩,[tI,tI,.bool,(.sl 5 (.int .u8)),tI],fun k h=>q7.j4 k h.1 h.2.1 h.2.2.1 h.2.2.2.1 h.2.2.2.2⟩)],
 [(14,[[0,2,3,4,1,5,6,7,8,9],[0,2,3,4,5,1,6,7,8,9],[0,2,3,4,5,6,1,7,8,9]]),(15,[[0,2,1,3,4,5,6,7],[0,2,3,1,4,5,6,7],[0,2,3,4,1,5,6,7]]),(21,[[0,2,3,4,1,5,6,7,8,9],[0,2,3,4,5,1,6,7,8,9],[0,2,3,4,5,6,1,7,8,9]])],[45,46,52,53,69,70]⟩
theorem q7.all: ∀k:Nat,(q7.ct k).Holds Tryz.prog 92:=
 jo eX fun k ih=>
 cO sg.kit Tryz.f92 _ q7.d 12 k (fun j hj=>⟨(qi.holds j).cv,(ih j hj),qn.holds j,(Aj.holds j).cv,(P9.holds j).cv,True.intro⟩)
theorem q7.holds (k:Nat):(q7.ct k).Holds Tryz.prog 92:=(q7.all k)
def N9.ct (k:Nat):Ct sg:=⟨false,⟨[(0,.one (.ptr 0 0))],[.cells [] [.val (.sl 5 (.int .u8)),.val tI]]⟩,⟨[(0,.st 1)],[.cells [] [.val (.sl 5 (.int .u8)),.val tI]]⟩,[(.sl 5 (.int .u8)),tI],[(.st 1),(.sl 5 (.int .u8)),tI],fun h=>N9.f k h.1 h.2⟩
def N9.d:FD sg (HL sg.S [(.st 1),(.sl 5 (.int .u8)),tI]):=⟨fun k=> [(33,(qi.ct k).ow none),(34,(qx.ct k).ow none),(92,q7.ct k),(109,(Aj.ct k).ow none),(173,BO.ct k),(174,Wi.ct k)],
 [],
 [(100007,⟨⟨[(0,.one (.ptr 0 0)),(2,.one (.ptr 1 0)),(5,.one (.ptr 2 0))],[.cells [] [.val (.sl 5 (.int .u8)),.val tI],.cells [] [.any,.any,.any,.any,.any],.cells [] [.val tI,.val .str,.jS 3,.val tI,.jS 4],.arr 3 tI,.ow false true 26 (.st 1)]⟩,[(.sl 5 (.int .u8)),tI,tI,.str,tI,(.sl 3 tI),(.sl 26 (.st 1))],fun k h=>N9.d7 k h.1 h.2.1 h.2.2.1 h.2.2.2.1 h.2.2.2.2.1 h.2.2.2.2.2.1 h.2.2.2.2.2.2⟩)],
 [(7,[[0,2,3,4,5,6,9,1,7,8,10,11,12],[0,2,3,4,5,6,9,7,8,1,10,11,12],[0,2,3,4,5,6,9,7,8,10,1,11,12]]),(11,[[0,2,1,3,4,5],[0,2,3,1,4,5]])],[49]⟩
theorem N9.holds (k:Nat):(N9.ct k).Holds Tryz.prog 100:=
 cO sg.kit Tryz.f100 _ N9.d 3 k (fun j _=>⟨(qi.holds j).cv,(qx.holds j).cv,q7.holds j,(Aj.holds j).cv,BO.holds j,Wi.holds j,True.intro⟩)
end D
end
noncomputable section
def yt.ct (k:Nat):Ct sg:=⟨false,⟨[(0,.one (.val (.sl 5 (.int .u8))))],[]⟩,⟨[(0,.st 4),(1,.st 1),(2,.one (.arr 0))],[.arr 197 (.st 2)]⟩,[(.sl 5 (.int .u8))],[(.st 4),(.st 1),(.sl 197 (.st 2))],fun h=>yt.f k h⟩
def yt.d:FD sg (HL sg.S [(.st 4),(.st 1),(.sl 197 (.st 2))]):=⟨fun k=> [(29,IZ.ct k),(31,qd.ct k),(33,qi.ct k),(34,qx.ct k),(35,Aq.ct k),(92,q7.ct k),(99,qy.ct k),(100,(D.N9.ct k).ow sg.own),(101,qn.ct k)],
 [],
 [(100005,⟨⟨[(2,.one (.ptr 0 0)),(3,.one (.ptr 1 0)),(5,.one (.ptr 2 0)),(6,.one (.ptr 3 0)),(8,.one (.ptr 4 0))],[.cells [] [.any,.any],.cells [] [.any,.any,.any,.any,.any],.cells [] [.val (.sl 5 (.int .u8)),.val tI],.cells [] [.val (.sl 26 (.st 1)),.val (.sl 184 (.st 3))],.cells [] [.any,.any,.any,.any,.arr 5],.arr 26 (.st 1)]⟩,[(.sl 5 (.int .u8)),tI,(.sl 26 (.st 1)),(.sl 184 (.st 3)),(.sl 26 (.st 1))],fun k h=>yt.d5 k h.1 h.2.1 h.2.2.1 h.2.2.2.1 h.2.2.2.2⟩),
 (100008,⟨⟨[(2,.one (.ptr 0 0)),(3,.one (.ptr 1 0)),(5,.one (.ptr 2 0)),(6,.one (.ptr 3 0)),(8,.one (.ptr 4 0))],[.cells [] [.any,.any],.cells [] [.any,.any,.any,.any,.any],.cells [] [.val (.sl 5 (.int .u8)),.val tI],.cells [] [.val (.sl 26 (.st 1)),.val (.sl 184 (.st 3))],.cells [] [.val tI,.val .str,.val (.sl 3 tI),.val tI,.val (.sl 26 (.st 1))]]⟩,[(.sl 5 (.int .u8)),tI,(.sl 26 (.st 1)),(.sl 184 (.st 3)),tI,.str,(.sl 3 tI),tI,(.sl 26 (.st 1))],fun k h=>yt.d8 k h.1 h.2.1 h.2.2.1 h.2.2.2.1 h.2.2.2.2.1 h.2.2.2.2.2.1 h.2.2.2.2.2.2.1 h.2.2.2.2.2.2.2.1 h.2.2.2.2.2.2.2.2⟩),
 (6,⟨⟨[(2,.one (.ptr 0 0)),(3,.one (.ptr 1 0)),(5,.one (.ptr 2 0)),(6,.one (.ptr 3 0)),(8,.one (.ptr 4 0))],[.cells [] [.any,.any],.cells [] [.any,.any,.any,.any,.any],.cells [] [.val (.sl 5 (.int .u8)),.val tI],.cells [] [.val (.sl 26 (.st 1)),.val (.sl 184 (.st 3))],.cells [] [.val tI,.val .str,.val (.sl 3 tI),.val tI,.val (.sl 26 (.st 1))]]⟩,[(.sl 5 (.int .u8)),tI,(.sl 26 (.st 1)),(.sl 184 (.st 3)),tI,.str,(.sl 3 tI),tI,(.sl 26 (.st 1))],fun k h=>yt.j6 k h.1 h.2.1 h.2.2.1 h.2.2.2.1 h.2.2.2.2.1 h.2.2.2.2.2.1 h.2.2.2.2.2.2.1 h.2.2.2.2.2.2.2.1 h.2.2.2.2.2.2.2.2⟩)],
 [(5,[[0,1,3,4,5,6,2,7,8,9,10,11,12],[0,1,3,4,5,6,7,2,8,9,10,11,12]]),(8,[[2,0,1,3,4,5,6],[2,0,3,1,4,5,6],[2,0,3,4,1,5,6],[2,1,0,3,4,5,6],[2,1,3,0,4,5,6],[2,3,0,1,4,5,6],[2,3,0,4,1,5,6]])],[]⟩
theorem yt.holds (k:Nat):(yt.ct k).Holds Tryz.prog 26:=
 cO sg.kit Tryz.f26 _ yt.d 10 k (fun j _=>⟨IZ.holds j,qd.holds j,qi.holds j,qx.holds j,Aq.holds j,q7.holds j,qy.holds j,(D.N9.holds j).cv,qn.holds j,True.intro⟩)
def Jb.ct (k:Nat):Ct sg:=⟨true,⟨[(0,.one (.val (.sl 26 (.st 1))))],[]⟩,⟨[(0,oB)],[]⟩,[(.sl 26 (.st 1))],[.bool],fun h=>Jb.f k h⟩
def Jb.d:FD sg (HL sg.S [.bool]):=⟨fun k=> [(23,yX.ct k)],
 [(2,⟨⟨[(5,.one (.val (.sl 26 (.st 1)))),(6,oI),(7,oI)],[]⟩,[(.sl 26 (.st 1)),tI,tI],fun k h=>Jb.l2 k h.1 h.2.1 h.2.2⟩)],
 [],
 [],[]⟩
theorem Jb.holds (k:Nat):(Jb.ct k).Holds Tryz.prog 38:=
 cO sg.kit Tryz.f38 _ Jb.d 1 k (fun j _=>⟨yX.holds j,True.intro⟩)
def q1n.ct (k:Nat):Ct sg:=⟨true,⟨[(0,.one (.val (.sl 26 (.st 1)))),(1,.st 1)],[]⟩,⟨[(0,oB)],[]⟩,[(.sl 26 (.st 1)),(.st 1)],[.bool],fun h=>q1n.f k h.1 h.2⟩
def q1n.d:FD sg (HL sg.S [.bool]):=⟨fun k=> [(175,Qd.ct k)],
 [(2,⟨⟨[(3,.one (.ptr 0 0)),(7,.one (.val (.sl 26 (.st 1)))),(8,oI),(9,oI)],[.cells [] [.val tI,.val .str,.val (.sl 3 tI),.val tI,.val (.sl 26 (.st 1))]]⟩,[(.sl 26 (.st 1)),tI,tI,tI,.str,(.sl 3 tI),tI,(.sl 26 (.st 1))],fun k h=>q1n.l2 k h.1 h.2.1 h.2.2.1 h.2.2.2.1 h.2.2.2.2.1 h.2.2.2.2.2.1 h.2.2.2.2.2.2.1 h.2.2.2.2.2.2.2⟩)],
 [],
 [],[]⟩
theorem q1n.holds (k:Nat):(q1n.ct k).Holds Tryz.prog 110:=
 cO sg.kit Tryz.f110 _ q1n.d 1 k (fun j _=>⟨Qd.holds j,True.intro⟩)
def qj.ct (k:Nat):Ct sg:=⟨false,⟨[(0,.one (.ptr 0 0)),(1,.st 1)],[.cells [] [.val (.sl 26 (.st 1)),.arr 1,.val .bool],.arr 26 (.st 1)]⟩,⟨[],[.cells [] [.val (.sl 26 (.st 1)),.arr 1,.val .bool],.arr 26 (.st 1)]⟩,[(.st 1),(.sl 26 (.st 1)),.bool,(.sl 26 (.st 1))],[(.sl 26 (.st 1)),.bool,(.sl 26 (.st 1))],fun h=>qj.f k h.1 h.2.1 h.2.2.1 h.2.2.2⟩
def qj.d:FD sg (HL sg.S [(.sl 26 (.st 1)),.bool,(.sl 26 (.st 1))]):=⟨fun k=> [(39,Am.ct k),(40,qj.ct k),(110,q1n.ct k),(113,BL.ct k)],
 [(11,⟨⟨[(0,.one (.ptr 0 0)),(5,.one (.val (.po (.st 1)))),(6,oI),(63,.one (.val (.sl 26 (.st 1)))),(64,oI),(65,oI)],[.cells [] [.val (.sl 26 (.st 1)),.arr 1,.val .bool],.arr 26 (.st 1)]⟩,[(.po (.st 1)),tI,(.sl 26 (.st 1)),tI,tI,(.sl 26 (.st 1)),.bool,(.sl 26 (.st 1))],fun k h=>qj.t_ k h.1 h.2.1 h.2.2.1 h.2.2.2.1 h.2.2.2.2.1 h.2.2.2.2.2.1 h.2.2.2.2.2.2.1 h.2.2.2.2.2.2.2⟩)],
 [(100005,⟨⟨[(0,.one (.ptr 0 0)),(3,.one (.ptr 1 0))],[.cells [] [.val (.sl 26 (.st 1)),.arr 2,.val .bool],.cells [] [.val tI,.val .str,.val (.sl 3 tI),.val tI,.val (.sl 26 (.st 1))],.arr 26 (.st 1)]⟩,[(.sl 26 (.st 1)),.bool,tI,.str,(.sl 3 tI),tI,(.sl 26 (.st 1)),(.sl 26 (.st 1))],fun k h=>qj.d5 k h.1 h.2.1 h.2.2.1 h.2.2.2.1 h.2.2.2.2.1 h.2.2.2.2.2.1 h.2.2.2.2.2.2.1 h.2.2.2.2.2.2.2⟩),
 (4,⟨⟨[(0,.one (.ptr 0 0)),(3,.one (.ptr 1 0))],[.cells [] [.val (.sl 26 (.st 1)),.arr 2,.val .bool],.cells [] [.val tI,.val .str,.val (.sl 3 tI),.val tI,.val (.sl 26 (.st 1))],.arr 26 (.st 1)]⟩,[(.sl 26 (.st 1)),.bool,tI,.str,(.sl 3 tI),tI,(.sl 26 (.st 1)),(.sl 26 (.st 1))],fun k h=>qj.j4 k h.1 h.2.1 h.2.2.1 h.2.2.2.1 h.2.2.2.2.1 h.2.2.2.2.2.1 h.2.2.2.2.2.2.1 h.2.2.2.2.2.2.2⟩),
 (8,⟨⟨[(0,.one (.ptr 0 0)),(3,.one (.ptr 1 0)),(55,oB)],[.cells [] [.val (.sl 26 (.st 1)),.arr 2,.val .bool],.cells [] [.val tI,.val .str,.val (.sl 3 tI),.val tI,.val (.sl 26 (.st 1))],.arr 26 (.st 1)]⟩,[.bool,(.sl 26 (.st 1)),.bool,tI,.str,(.sl 3 tI),tI,(.sl 26 (.st 1)),(.sl 26 (.st 1))],fun k h=>qj.j8 k h.1 h.2.1 h.2.2.1 h.2.2.2.1 h.2.2.2.2.1 h.2.2.2.2.2.1 h.2.2.2.2.2.2.1 h.2.2.2.2.2.2.2.1 h.2.2.2.2.2.2.2.2⟩),
 (19,⟨⟨[(0,.one (.ptr 0 0)),(5,.one (.val (.po (.st 1))))],[.cells [] [.val (.sl 26 (.st 1)),.arr 1,.val .bool],.arr 26 (.st 1)]⟩,[(.po (.st 1)),(.sl 26 (.st 1)),.bool,(.sl 26 (.st 1))],fun k h=>qj.j19 k h.1 h.2.1 h.2.2.1 h.2.2.2⟩)],
 [(3,[[0,1,2,3,4,5,6,7,8,9,10,11,12,13,14,15]]),(4,[[0,1,2,3,4,5,6,7,8,9,10,11,12,13,14,15]]),(5,[[0,1,2,3,5,4,6,7,8,10,11,9,12],[0,1,2,3,5,4,6,7,8,10,11,12,9],[0,1,2,3,5,6,4,7,8,10,11,9,12],[0,1,2,3,5,6,4,7,8,10,11,12,9],[0,1,2,4,3,5,6,7,8,10,11,9,12],[0,1,2,4,3,5,6,7,8,10,11,12,9],[0,1,2,4,6,3,5,7,8,10,11,9,12],[0,1,2,4,6,3,5,7,8,10,11,12,9],[0,1,2,6,3,4,5,7,8,10,11,9,12],[0,1,2,6,3,4,5,7,8,10,11,12,9]])],[]⟩
theorem qj.all: ∀k:Nat,(qj.ct k).Holds Tryz.prog 40:=
 jo eX fun k ih=>
 cO sg.kit Tryz.f40 _ qj.d 14 k (fun j hj=>⟨Am.holds j,(ih j hj),q1n.holds j,BL.holds j,True.intro⟩)
theorem qj.holds (k:Nat):(qj.ct k).Holds Tryz.prog 40:=(qj.all k)
def N_.ct (k:Nat):Ct sg:=⟨true,⟨[(0,.st 1),(1,.one (.val (.sl 26 (.st 1))))],[]⟩,⟨[(0,oB)],[]⟩,[(.st 1),(.sl 26 (.st 1))],[.bool],fun h=>N_.f k h.1 h.2⟩
def N_.d:FD sg (HL sg.S [.bool]):=⟨fun k=> [(23,yX.ct k),(38,Jb.ct k),(39,Am.ct k),(40,qj.ct k)],
 [],
 [(3,⟨⟨[(1,.one (.val (.sl 26 (.st 1)))),(2,.one (.ptr 0 0))],[.cells [] [.val tI,.val .str,.val (.sl 3 tI),.val tI,.val (.sl 26 (.st 1))]]⟩,[(.sl 26 (.st 1)),tI,.str,(.sl 3 tI),tI,(.sl 26 (.st 1))],fun k h=>N_.j3 k h.1 h.2.1 h.2.2.1 h.2.2.2.1 h.2.2.2.2.1 h.2.2.2.2.2⟩)],
 [],[]⟩
theorem N_.holds (k:Nat):(N_.ct k).Holds Tryz.prog 10:=
 cO sg.kit Tryz.f10 _ N_.d 1 k (fun j _=>⟨yX.holds j,Jb.holds j,Am.holds j,qj.holds j,True.intro⟩)
def Jc.ct (k:Nat):Ct sg:=⟨true,⟨[(0,.one (.val (.sl 3 tI))),(1,oI)],[]⟩,⟨[(0,oB)],[]⟩,[(.sl 3 tI),tI],[.bool],fun h=>Jc.f k h.1 h.2⟩
def Jc.d:FD sg (HL sg.S [.bool]):=⟨fun _=> [],
 [(2,⟨⟨[(1,oI),(7,.one (.val (.sl 3 tI))),(8,oI),(9,oI)],[]⟩,[tI,(.sl 3 tI),tI,tI],fun k h=>Jc.l2 k h.1 h.2.1 h.2.2.1 h.2.2.2⟩)],
 [],
 [],[]⟩
theorem Jc.holds (k:Nat):(Jc.ct k).Holds Tryz.prog 204:=
 cO sg.kit Tryz.f204 _ Jc.d 1 k (fun _ _=>True.intro)
def IB.ct (k:Nat):Ct sg:=⟨true,⟨[(0,.one (.val (.sl 3 tI))),(1,.one (.val (.sl 3 tI)))],[]⟩,⟨[(0,oB)],[]⟩,[(.sl 3 tI),(.sl 3 tI)],[.bool],fun h=>IB.f k h.1 h.2⟩
def IB.d:FD sg (HL sg.S [.bool]):=⟨fun k=> [(204,Jc.ct k)],
 [(2,⟨⟨[(1,.one (.val (.sl 3 tI))),(7,.one (.val (.sl 3 tI))),(8,oI),(9,oI)],[]⟩,[(.sl 3 tI),(.sl 3 tI),tI,tI],fun k h=>IB.l2 k h.1 h.2.1 h.2.2.1 h.2.2.2⟩)],
 [],
 [],[]⟩
theorem IB.holds (k:Nat):(IB.ct k).Holds Tryz.prog 176:=
 cO sg.kit Tryz.f176 _ IB.d 1 k (fun j _=>⟨Jc.holds j,True.intro⟩)
def qv.ct (k:Nat):Ct sg:=⟨true,⟨[(0,.one (.val (.sl 197 (.st 2)))),(1,.st 1)],[]⟩,⟨[(0,oS),(1,oI)],[]⟩,[(.sl 197 (.st 2)),(.st 1)],[.str,tI],fun h=>qv.f k h.1 h.2⟩
def qv.d:FD sg (HL sg.S [.str,tI]):=⟨fun k=> [(176,IB.ct k)],
 [(5,⟨⟨[(3,.one (.ptr 0 0)),(6,.one (.arr 1)),(16,.one (.val (.sl 197 (.st 2)))),(17,oI),(18,oI)],[.cells [] [.any,.val .str,.val (.sl 3 tI),.any,.any],.arr 197 (.st 2)]⟩,[(.sl 197 (.st 2)),tI,tI,.str,(.sl 3 tI),(.sl 197 (.st 2))],fun k h=>qv.l5 k h.1 h.2.1 h.2.2.1 h.2.2.2.1 h.2.2.2.2.1 h.2.2.2.2.2⟩),
 (13,⟨⟨[(6,.one (.arr 0)),(9,oI)],[.arr 197 (.st 2)]⟩,[tI,(.sl 197 (.st 2))],fun k h=>qv.Ey k h.1 h.2⟩),
 (17,⟨⟨[(6,.one (.arr 0)),(9,oI),(10,oB),(49,.one (.arr 0)),(50,oI),(51,oI)],[.arr 197 (.st 2)]⟩,[tI,.bool,tI,tI,(.sl 197 (.st 2))],fun k h=>qv.l17 k h.1 h.2.1 h.2.2.1 h.2.2.2.1 h.2.2.2.2⟩)],
 [],
 [(19,[[0,1,2,3,4,5,6,7,8,9,10,11]])],[]⟩
theorem qv.holds (k:Nat):(qv.ct k).Holds Tryz.prog 111:=
 cO sg.kit Tryz.f111 _ qv.d 3 k (fun j _=>⟨IB.holds j,True.intro⟩)
def qk.ct (k:Nat):Ct sg:=⟨false,⟨[(0,.one (.ptr 0 0)),(1,.st 1),(2,oI)],[.cells [] [.val (.sl 26 (.st 1)),.val (.sl 197 (.st 2)),.ji]]⟩,⟨[(0,.one (.arr 1))],[.cells [] [.val (.sl 26 (.st 1)),.val (.sl 197 (.st 2)),.ji],.ow false true 96 (.st 0)]⟩,[(.st 1),tI,(.sl 26 (.st 1)),(.sl 197 (.st 2))],[(.sl 26 (.st 1)),(.sl 197 (.st 2)),(.sl 96 (.st 0))],fun h=>qk.f k h.1 h.2.1 h.2.2.1 h.2.2.2⟩
def qk.d:FD sg (HL sg.S [(.sl 26 (.st 1)),(.sl 197 (.st 2)),(.sl 96 (.st 0))]):=⟨fun k=> [(39,Am.ct k),(110,q1n.ct k),(112,vS.ct k),(113,BL.ct k),(114,qk.ct k)],
 [(10,⟨⟨[(0,.one (.ptr 0 0)),(2,oI),(7,.one (.arr 1)),(8,.one (.val (.sl 26 (.st 1)))),(9,.one (.val (.po (.st 1)))),(49,.one (.val (.sl 26 (.st 1)))),(50,oI),(51,oI)],[.cells [] [.val (.sl 26 (.st 1)),.val (.sl 197 (.st 2)),.ji],.ow false true 96 (.st 0)]⟩,[tI,(.sl 26 (.st 1)),(.po (.st 1)),(.sl 26 (.st 1)),tI,tI,(.sl 26 (.st 1)),(.sl 197 (.st 2)),(.sl 96 (.st 0))],fun k h=>qk.l10 k h.1 h.2.1 h.2.2.1 h.2.2.2.1 h.2.2.2.2.1 h.2.2.2.2.2.1 h.2.2.2.2.2.2.1 h.2.2.2.2.2.2.2.1 h.2.2.2.2.2.2.2.2⟩)],
 [(5,⟨⟨[(2,oI),(4,.one (.ptr 1 0)),(7,.one (.arr 2)),(33,oB)],[.cells [] [.val (.sl 26 (.st 1)),.val (.sl 197 (.st 2)),.ji],.cells [] [.val tI,.val .str,.val (.sl 3 tI),.val tI,.val (.sl 26 (.st 1))],.ow false true 96 (.st 0)]⟩,[tI,.bool,(.sl 26 (.st 1)),(.sl 197 (.st 2)),tI,.str,(.sl 3 tI),tI,(.sl 26 (.st 1)),(.sl 96 (.st 0))],fun k h=>qk.j5 k h.1 h.2.1 h.2.2.1 h.2.2.2.1 h.2.2.2.2.1 h.2.2.2.2.2.1 h.2.2.2.2.2.2.1 h.2.2.2.2.2.2.2.1 h.2.2.2.2.2.2.2.2.1 h.2.2.2.2.2.2.2.2.2⟩),
 (8,⟨⟨[(0,.one (.ptr 0 0)),(2,oI),(4,.one (.ptr 1 0)),(7,.one (.arr 2)),(41,oB)],[.cells [] [.val (.sl 26 (.st 1)),.val (.sl 197 (.st 2)),.ji],.cells [] [.val tI,.val .str,.val (.sl 3 tI),.val tI,.val (.sl 26 (.st 1))],.ow false true 96 (.st 0)]⟩,[tI,.bool,(.sl 26 (.st 1)),(.sl 197 (.st 2)),tI,.str,(.sl 3 tI),tI,(.sl 26 (.st 1)),(.sl 96 (.st 0))],fun k h=>qk.j8 k h.1 h.2.1 h.2.2.1 h.2.2.2.1 h.2.2.2.2.1 h.2.2.2.2.2.1 h.2.2.2.2.2.2.1 h.2.2.2.2.2.2.2.1 h.2.2.2.2.2.2.2.2.1 h.2.2.2.2.2.2.2.2.2⟩),
 (15,⟨⟨[(0,.one (.ptr 0 0)),(2,oI),(7,.one (.arr 1)),(8,.one (.val (.sl 26 (.st 1)))),(9,.one (.val (.po (.st 1)))),(11,.one (.ptr 2 0)),(12,oI),(49,.one (.val (.sl 26 (.st 1)))),(50,oI),(51,oI)],[.cells [] [.val (.sl 26 (.st 1)),.val (.sl 197 (.st 2)),.ji],.ow false true 96 (.st 0),.cells [] [.val tI,.val .str,.val (.sl 3 tI),.val tI,.val (.sl 26 (.st 1))]]⟩,[tI,(.sl 26 (.st 1)),(.po (.st 1)),tI,(.sl 26 (.st 1)),tI,tI,(.sl 26 (.st 1)),(.sl 197 (.st 2)),(.sl 96 (.st 0)),tI,.str,(.sl 3 tI),tI,(.sl 26 (.st 1))],fun k h=>qk.j15 k h.1 h.2.1 h.2.2.1 h.2.2.2.1 h.2.2.2.2.1 h.2.2.2.2.2.1 h.2.2.2.2.2.2.1 h.2.2.2.2.2.2.2.1 h.2.2.2.2.2.2.2.2.1 h.2.2.2.2.2.2.2.2.2.1 h.2.2.2.2.2.2.2.2.2.2.1 h.2.2.2.2.2.2.2.2.2.2.2.1 h.2.2.2.2.2.2.2.2.2.2.2.2.1 h.2.2.2.2.2.2.2.2.2.2.2.2.2.1 h.2.2.2.2.2.2.2.2.2.2.2.2.2.2⟩)],
 [(4,[[0,1,2,3,4,5,6,7,8,9,10,11,12,13,14,15,16]])],[39,40,77,88]⟩
theorem qk.all: ∀k:Nat,(qk.ct k).Holds Tryz.prog 114:=
 jo eX fun k ih=>
 cO sg.kit Tryz.f114 _ qk.d 4 k (fun j hj=>⟨Am.holds j,q1n.holds j,vS.holds j,BL.holds j,(ih j hj),True.intro⟩)
theorem qk.holds (k:Nat):(qk.ct k).Holds Tryz.prog 114:=(qk.all k)
def q8.ct (k:Nat):Ct sg:=⟨false,⟨[(0,.one (.ptr 0 0)),(1,.st 1),(2,.st 1)],[.cells [] [.val (.sl 26 (.st 1)),.val (.sl 197 (.st 2)),.ji]]⟩,⟨[(0,.one (.arr 1)),(1,oB)],[.cells [] [.val (.sl 26 (.st 1)),.val (.sl 197 (.st 2)),.ji],.arr 96 (.st 0)]⟩,[(.st 1),(.st 1),(.sl 26 (.st 1)),(.sl 197 (.st 2))],[.bool,(.sl 26 (.st 1)),(.sl 197 (.st 2)),(.sl 96 (.st 0))],fun h=>q8.f k h.1 h.2.1 h.2.2.1 h.2.2.2⟩
def q8.d:FD sg (HL sg.S [.bool,(.sl 26 (.st 1)),(.sl 197 (.st 2)),(.sl 96 (.st 0))]):=⟨fun k=> [(36,q8.ct k),(39,Am.ct k),(110,q1n.ct k),(111,qv.ct k),(112,vS.ct k),(113,BL.ct k),(114,qk.ct k),(115,F5.ct k)],
 [(22,⟨⟨[(0,.one (.ptr 0 0)),(4,.one (.ptr 1 0)),(12,.one (.val (.sl 26 (.st 1)))),(13,.one (.val (.po (.st 1)))),(14,.one (.val (.sl 26 (.st 1)))),(15,.one (.val (.po (.st 1)))),(16,oI),(141,.one (.val (.sl 26 (.st 1)))),(142,oI),(143,oI)],[.cells [] [.val (.sl 26 (.st 1)),.val (.sl 197 (.st 2)),.ji],.cells [] [.val tI,.any,.any,.any,.any]]⟩,[(.sl 26 (.st 1)),(.po (.st 1)),(.sl 26 (.st 1)),(.po (.st 1)),tI,(.sl 26 (.st 1)),tI,tI,(.sl 26 (.st 1)),(.sl 197 (.st 2)),tI],fun k h=>q8.EE k h.1 h.2.1 h.2.2.1 h.2.2.2.1 h.2.2.2.2.1 h.2.2.2.2.2.1 h.2.2.2.2.2.2.1 h.2.2.2.2.2.2.2.1 h.2.2.2.2.2.2.2.2.1 h.2.2.2.2.2.2.2.2.2.1 h.2.2.2.2.2.2.2.2.2.2⟩),
 (35,⟨⟨[(0,.one (.ptr 0 0)),(12,.one (.val (.sl 26 (.st 1)))),(13,.one (.val (.po (.st 1)))),(14,.one (.val (.sl 26 (.st 1)))),(15,.one (.val (.po (.st 1)))),(16,oI),(19,oI),(20,.one (.arr 1)),(21,oI),(22,oI)],[.cells [] [.val (.sl 26 (.st 1)),.val (.sl 197 (.st 2)),.ji],.arr 96 (.st 0)]⟩,[(.sl 26 (.st 1)),(.po (.st 1)),(.sl 26 (.st 1)),(.po (.st 1)),tI,tI,tI,tI,(.sl 26 (.st 1)),(.sl 197 (.st 2)),(.sl 96 (.st 0))],fun k h=>q8.BP k h.1 h.2.1 h.2.2.1 h.2.2.2.1 h.2.2.2.2.1 h.2.2.2.2.2.1 h.2.2.2.2.2.2.1 h.2.2.2.2.2.2.2.1 h.2.2.2.2.2.2.2.2.1 h.2.2.2.2.2.2.2.2.2.1 h.2.2.2.2.2.2.2.2.2.2⟩),
 (46,⟨⟨[(0,.one (.ptr 0 0)),(12,.one (.val (.sl 26 (.st 1)))),(13,.one (.val (.po (.st 1)))),(14,.one (.val (.sl 26 (.st 1)))),(15,.one (.val (.po (.st 1)))),(16,oI),(19,oI),(20,.one (.arr 1)),(21,oI),(22,oI),(25,.one (.arr 2)),(26,oI)],[.cells [] [.val (.sl 26 (.st 1)),.val (.sl 197 (.st 2)),.ji],.arr 96 (.st 0),.ow false true 96 (.st 0)]⟩,[(.sl 26 (.st 1)),(.po (.st 1)),(.sl 26 (.st 1)),(.po (.st 1)),tI,tI,tI,tI,tI,(.sl 26 (.st 1)),(.sl 197 (.st 2)),(.sl 96 (.st 0)),(.sl 96 (.st 0))],fun k h=>q8.l46 k h.1 h.2.1 h.2.2.1 h.2.2.2.1 h.2.2.2.2.1 h.2.2.2.2.2.1 h.2.2.2.2.2.2.1 h.2.2.2.2.2.2.2.1 h.2.2.2.2.2.2.2.2.1 h.2.2.2.2.2.2.2.2.2.1 h.2.2.2.2.2.2.2.2.2.2.1 h.2.2.2.2.2.2.2.2.2.2.2.1 h.2.2.2.2.2.2.2.2.2.2.2.2⟩),
 (52,⟨⟨[(0,.one (.ptr 0 0)),(12,.one (.val (.sl 26 (.st 1)))),(13,.one (.val (.po (.st 1)))),(14,.one (.val (.sl 26 (.st 1)))),(15,.one (.val (.po (.st 1)))),(16,oI),(19,oI),(20,.one (.arr 1)),(21,oI),(22,oI),(25,.one (.arr 2)),(26,oI),(27,.one (.arr 3)),(239,oI),(240,oI)],[.cells [] [.val (.sl 26 (.st 1)),.val (.sl 197 (.st 2)),.ji],.arr 96 (.st 0),.ow false true 96 (.st 0),.arr 96 (.st 0)]⟩,[(.sl 26 (.st 1)),(.po (.st 1)),(.sl 26 (.st 1)),(.po (.st 1)),tI,tI,tI,tI,tI,tI,tI,(.sl 26 (.st 1)),(.sl 197 (.st 2)),(.sl 96 (.st 0)),(.sl 96 (.st 0)),(.sl 96 (.st 0))],fun k h=>q8.KT k h.1 h.2.1 h.2.2.1 h.2.2.2.1 h.2.2.2.2.1 h.2.2.2.2.2.1 h.2.2.2.2.2.2.1 h.2.2.2.2.2.2.2.1 h.2.2.2.2.2.2.2.2.1 h.2.2.2.2.2.2.2.2.2.1 h.2.2.2.2.2.2.2.2.2.2.1 h.2.2.2.2.2.2.2.2.2.2.2.1 h.2.2.2.2.2.2.2.2.2.2.2.2.1 h.2.2.2.2.2.2.2.2.2.2.2.2.2.1 h.2.2.2.2.2.2.2.2.2.2.2.2.2.2.1 h.2.2.2.2.2.2.2.2.2.2.2.2.2.2.2⟩)],
 [(100013,⟨⟨[(4,.one (.ptr 1 0)),(5,.one (.ptr 2 0))],[.cells [] [.val (.sl 26 (.st 1)),.val (.sl 197 (.st 2)),.ji],.cells [] [.val tI,.val .str,.val (.sl 3 tI),.val tI,.val (.sl 26 (.st 1))],.cells [] [.val tI,.val .str,.val (.sl 3 tI),.val tI,.val (.sl 26 (.st 1))]]⟩,[(.sl 26 (.st 1)),(.sl 197 (.st 2)),tI,.str,(.sl 3 tI),tI,(.sl 26 (.st 1)),tI,.str,(.sl 3 tI),tI,(.sl 26 (.st 1))],fun k h=>q8.d13 k h.1 h.2.1 h.2.2.1 h.2.2.2.1 h.2.2.2.2.1 h.2.2.2.2.2.1 h.2.2.2.2.2.2.1 h.2.2.2.2.2.2.2.1 h.2.2.2.2.2.2.2.2.1 h.2.2.2.2.2.2.2.2.2.1 h.2.2.2.2.2.2.2.2.2.2.1 h.2.2.2.2.2.2.2.2.2.2.2⟩),
 (100054,⟨⟨[(0,.one (.ptr 0 0)),(12,.one (.val (.sl 26 (.st 1)))),(13,.one (.val (.po (.st 1)))),(14,.one (.val (.sl 26 (.st 1)))),(15,.one (.val (.po (.st 1)))),(16,oI),(19,oI),(20,.one (.arr 1)),(21,oI),(22,oI),(25,.one (.arr 2)),(26,oI),(27,.one (.arr 3)),(29,oI),(239,oI),(240,oI)],[.cells [] [.val (.sl 26 (.st 1)),.val (.sl 197 (.st 2)),.ji],.arr 96 (.st 0),.ow false true 96 (.st 0),.arr 96 (.st 0)]⟩,[(.sl 26 (.st 1)),(.po (.st 1)),(.sl 26 (.st 1)),(.po (.st 1)),tI,tI,tI,tI,tI,tI,tI,tI,(.sl 26 (.st 1)),(.sl 197 (.st 2)),(.sl 96 (.st 0)),(.sl 96 (.st 0)),(.sl 96 (.st 0))],fun k h=>q8.d54 k h.1 h.2.1 h.2.2.1 h.2.2.2.1 h.2.2.2.2.1 h.2.2.2.2.2.1 h.2.2.2.2.2.2.1 h.2.2.2.2.2.2.2.1 h.2.2.2.2.2.2.2.2.1 h.2.2.2.2.2.2.2.2.2.1 h.2.2.2.2.2.2.2.2.2.2.1 h.2.2.2.2.2.2.2.2.2.2.2.1 h.2.2.2.2.2.2.2.2.2.2.2.2.1 h.2.2.2.2.2.2.2.2.2.2.2.2.2.1 h.2.2.2.2.2.2.2.2.2.2.2.2.2.2.1 h.2.2.2.2.2.2.2.2.2.2.2.2.2.2.2.1 h.2.2.2.2.2.2.2.2.2.2.2.2.2.2.2.2⟩),
 (8,⟨⟨[(0,.one (.ptr 0 0)),(4,.one (.ptr 1 0)),(5,.one (.ptr 2 0))],[.cells [] [.val (.sl 26 (.st 1)),.val (.sl 197 (.st 2)),.ji],.cells [] [.val tI,.val .str,.val (.sl 3 tI),.val tI,.val (.sl 26 (.st 1))],.cells [] [.val tI,.val .str,.val (.sl 3 tI),.val tI,.val (.sl 26 (.st 1))]]⟩,[(.sl 26 (.st 1)),(.sl 197 (.st 2)),tI,.str,(.sl 3 tI),tI,(.sl 26 (.st 1)),tI,.str,(.sl 3 tI),tI,(.sl 26 (.st 1))],fun k h=>q8.j8 k h.1 h.2.1 h.2.2.1 h.2.2.2.1 h.2.2.2.2.1 h.2.2.2.2.2.1 h.2.2.2.2.2.2.1 h.2.2.2.2.2.2.2.1 h.2.2.2.2.2.2.2.2.1 h.2.2.2.2.2.2.2.2.2.1 h.2.2.2.2.2.2.2.2.2.2.1 h.2.2.2.2.2.2.2.2.2.2.2⟩),
 (20,⟨⟨[(0,.one (.ptr 0 0)),(4,.one (.ptr 1 0)),(12,.one (.val (.sl 26 (.st 1)))),(13,.one (.val (.po (.st 1)))),(14,.one (.val (.sl 26 (.st 1)))),(15,.one (.val (.po (.st 1))))],[.cells [] [.val (.sl 26 (.st 1)),.val (.sl 197 (.st 2)),.ji],.cells [] [.val tI,.any,.any,.any,.any]]⟩,[(.sl 26 (.st 1)),(.po (.st 1)),(.sl 26 (.st 1)),(.po (.st 1)),(.sl 26 (.st 1)),(.sl 197 (.st 2)),tI],fun k h=>q8.j20 k h.1 h.2.1 h.2.2.1 h.2.2.2.1 h.2.2.2.2.1 h.2.2.2.2.2.1 h.2.2.2.2.2.2⟩),
 (30,⟨⟨[(0,.one (.ptr 0 0)),(4,.one (.ptr 1 0)),(12,.one (.val (.sl 26 (.st 1)))),(13,.one (.val (.po (.st 1)))),(14,.one (.val (.sl 26 (.st 1)))),(15,.one (.val (.po (.st 1)))),(16,oI),(19,oI)],[.cells [] [.val (.sl 26 (.st 1)),.val (.sl 197 (.st 2)),.ji],.cells [] [.val tI,.any,.any,.any,.any]]⟩,[(.sl 26 (.st 1)),(.po (.st 1)),(.sl 26 (.st 1)),(.po (.st 1)),tI,tI,(.sl 26 (.st 1)),(.sl 197 (.st 2)),tI],fun k h=>q8.j30 k h.1 h.2.1 h.2.2.1 h.2.2.2.1 h.2.2.2.2.1 h.2.2.2.2.2.1 h.2.2.2.2.2.2.1 h.2.2.2.2.2.2.2.1 h.2.2.2.2.2.2.2.2⟩),
 (32,⟨⟨[(0,.one (.ptr 0 0)),(12,.one (.val (.sl 26 (.st 1)))),(13,.one (.val (.po (.st 1)))),(14,.one (.val (.sl 26 (.st 1)))),(15,.one (.val (.po (.st 1)))),(16,oI),(19,oI)],[.cells [] [.val (.sl 26 (.st 1)),.val (.sl 197 (.st 2)),.ji]]⟩,[(.sl 26 (.st 1)),(.po (.st 1)),(.sl 26 (.st 1)),(.po (.st 1)),tI,tI,(.sl 26 (.st 1)),(.sl 197 (.st 2))],fun k h=>q8.j32 k h.1 h.2.1 h.2.2.1 h.2.2.2.1 h.2.2.2.2.1 h.2.2.2.2.2.1 h.2.2.2.2.2.2.1 h.2.2.2.2.2.2.2⟩),
 (63,⟨⟨[(0,.one (.ptr 0 0)),(13,.one (.val (.po (.st 1)))),(20,.one (.arr 1)),(30,.one (.ptr 2 0))],[.cells [] [.val (.sl 26 (.st 1)),.val (.sl 197 (.st 2)),.ji],.arr 96 (.st 0),.cells [] [.val tI,.val .str,.val (.sl 3 tI),.val tI,.val (.sl 26 (.st 1))]]⟩,[(.po (.st 1)),(.sl 26 (.st 1)),(.sl 197 (.st 2)),(.sl 96 (.st 0)),tI,.str,(.sl 3 tI),tI,(.sl 26 (.st 1))],fun k h=>q8.j63 k h.1 h.2.1 h.2.2.1 h.2.2.2.1 h.2.2.2.2.1 h.2.2.2.2.2.1 h.2.2.2.2.2.2.1 h.2.2.2.2.2.2.2.1 h.2.2.2.2.2.2.2.2⟩)],
 [(3,[[0,1,2,3,4,5]]),(7,[[0,1,2,3,4,5,6]]),(8,[[0,1,2,3,4,5,6,7,8,9,10]]),(9,[[0,1,2,3,4,5,6,7,8,9,10]]),(10,[[0,1,2,3,4,5,6,7,8,9,10,11,12,13,14,15,16,17,18,19,20,21,22,23,24,25,26,27]]),(13,[[0,1,2,3,4,5,6,7],[0,2,1,3,4,5,6,7]]),(15,[[0,1,2,3,4,5,6,7,8,9,10,11]]),(38,[[0,1,2,3,4,5,6,7,8,9,10,11,12,13,14]]),(48,[[0,1,2,3,4,5,6,7,8,9,10,11,12,13,14]]),(54,[[0,1,2,3,5,6,7,4,9,8,10,11,12,14,15,13,16],[0,1,2,3,5,6,7,4,9,8,10,11,12,14,15,16,13],[0,1,2,3,5,6,7,4,9,10,8,11,12,14,15,13,16],[0,1,2,3,5,6,7,4,9,10,8,11,12,14,15,16,13],[0,1,2,3,5,6,7,8,4,9,10,11,12,14,15,13,16],[0,1,2,3,5,6,7,8,4,9,10,11,12,14,15,16,13],[0,1,2,3,5,6,7,8,10,4,9,11,12,14,15,13,16],[0,1,2,3,5,6,7,8,10,4,9,11,12,14,15,16,13],[0,1,2,3,5,6,7,10,4,8,9,11,12,14,15,13,16],[0,1,2,3,5,6,7,10,4,8,9,11,12,14,15,16,13]]),(62,[[0,1,2,3,4,5,6,7]]),(63,[[0,1,2,3,4,5,6,7,8,9,10]])],[]⟩
theorem q8.all: ∀k:Nat,(q8.ct k).Holds Tryz.prog 36:=
 jo eX fun k ih=>
 cO sg.kit Tryz.f36 _ q8.d 21 k (fun j hj=>⟨(ih j hj),Am.holds j,q1n.holds j,qv.holds j,vS.holds j,BL.holds j,qk.holds j,F5.holds j,True.intro⟩)
theorem q8.holds (k:Nat):(q8.ct k).Holds Tryz.prog 36:=(q8.all k)
def Jd.ct (k:Nat):Ct sg:=⟨false,⟨[(0,.st 4),(1,.st 1),(2,.one (.val (.sl 197 (.st 2)))),(3,.one (.ji))],[]⟩,⟨[(0,.st 1),(1,oI)],[]⟩,[(.st 4),(.st 1),(.sl 197 (.st 2))],[(.st 1),tI],fun h=>Jd.f k h.1 h.2.1 h.2.2⟩
def Jd.d:FD sg (HL sg.S [(.st 1),tI]):=⟨fun k=> [(10,N_.ct k),(14,EC.ct k),(23,yX.ct k),(36,q8.ct k)],
 [(4,⟨⟨[(2,.one (.val (.sl 197 (.st 2)))),(3,.one (.ji)),(4,.one (.ptr 0 0)),(5,.one (.ptr 1 0)),(8,.one (.ptr 2 0)),(21,.one (.val (.sl 184 (.st 3)))),(22,oI),(23,oI)],[.cells [] [.val (.sl 26 (.st 1)),.any],.cells [] [.val tI,.val .str,.val (.sl 3 tI),.val tI,.val (.sl 26 (.st 1))],.cells [] [.any,.any,.any,.any,.any]]⟩,[(.sl 197 (.st 2)),(.sl 184 (.st 3)),tI,tI,(.sl 26 (.st 1)),tI,.str,(.sl 3 tI),tI,(.sl 26 (.st 1))],fun k h=>Jd.l4 k h.1 h.2.1 h.2.2.1 h.2.2.2.1 h.2.2.2.2.1 h.2.2.2.2.2.1 h.2.2.2.2.2.2.1 h.2.2.2.2.2.2.2.1 h.2.2.2.2.2.2.2.2.1 h.2.2.2.2.2.2.2.2.2⟩)],
 [],
 [],[]⟩
theorem Jd.holds (k:Nat):(Jd.ct k).Holds Tryz.prog 102:=
 cO sg.kit Tryz.f102 _ Jd.d 1 k (fun j _=>⟨N_.holds j,EC.holds j,yX.holds j,q8.holds j,True.intro⟩)
def q32.ct (k:Nat):Ct sg:=⟨false,⟨[(0,.st 4),(1,.st 1),(2,.one (.val (.sl 197 (.st 2))))],[]⟩,⟨[(0,.st 1),(1,oI)],[]⟩,[(.st 4),(.st 1),(.sl 197 (.st 2))],[(.st 1),tI],fun h=>q32.f k h.1 h.2.1 h.2.2⟩
def q32.d:FD sg (HL sg.S [(.st 1),tI]):=⟨fun k=> [(102,Jd.ct k)],
 [],
 [],
 [],[]⟩
theorem q32.holds (k:Nat):(q32.ct k).Holds Tryz.prog 27:=
 cO sg.kit Tryz.f27 _ q32.d 0 k (fun j _=>⟨Jd.holds j,True.intro⟩)
def zG.ct (k:Nat):Ct sg:=⟨false,⟨[(0,.st 4),(1,.st 1),(2,.one (.val (.sl 197 (.st 2))))],[]⟩,⟨[(0,.st 1),(1,.one (.arr 0)),(2,.one (.arr 1)),(3,oI)],[.arr 26 (.st 1),.arr 26 (.st 1)]⟩,[(.st 4),(.st 1),(.sl 197 (.st 2))],[(.st 1),tI,(.sl 26 (.st 1)),(.sl 26 (.st 1))],fun h=>zG.f k h.1 h.2.1 h.2.2⟩
def zG.d:FD sg (HL sg.S [(.st 1),tI,(.sl 26 (.st 1)),(.sl 26 (.st 1))]):=⟨fun k=> [(11,yl.ct k),(22,I9.ct k),(25,q13.ct k),(37,qe.ct k)],
 [(4,⟨⟨[(2,.one (.val (.sl 197 (.st 2)))),(3,.one (.ptr 0 0)),(4,.one (.ptr 1 0)),(6,.one (.ptr 2 0)),(10,.one (.arr 3)),(11,.one (.arr 4)),(12,oI)],[.cells [] [.val (.sl 26 (.st 1)),.val (.sl 184 (.st 3))],.cells [] [.val tI,.val .str,.val (.sl 3 tI),.val tI,.val (.sl 26 (.st 1))],.cells [] [.any,.any,.any,.any,.any],.arr 26 (.st 1),.arr 26 (.st 1)]⟩,[(.sl 197 (.st 2)),tI,(.sl 26 (.st 1)),(.sl 184 (.st 3)),tI,.str,(.sl 3 tI),tI,(.sl 26 (.st 1)),(.sl 26 (.st 1)),(.sl 26 (.st 1))],fun k h=>zG.l4 k h.1 h.2.1 h.2.2.1 h.2.2.2.1 h.2.2.2.2.1 h.2.2.2.2.2.1 h.2.2.2.2.2.2.1 h.2.2.2.2.2.2.2.1 h.2.2.2.2.2.2.2.2.1 h.2.2.2.2.2.2.2.2.2.1 h.2.2.2.2.2.2.2.2.2.2⟩)],
 [(7,⟨⟨[(2,.one (.val (.sl 197 (.st 2)))),(3,.one (.ptr 0 0)),(4,.one (.ptr 1 0)),(6,.one (.ptr 2 0)),(10,.one (.arr 3)),(11,.one (.arr 4)),(12,oI)],[.cells [] [.val (.sl 26 (.st 1)),.val (.sl 184 (.st 3))],.cells [] [.val tI,.val .str,.val (.sl 3 tI),.val tI,.val (.sl 26 (.st 1))],.cells [] [.any,.any,.any,.any,.any],.arr 26 (.st 1),.arr 26 (.st 1)]⟩,[(.sl 197 (.st 2)),tI,(.sl 26 (.st 1)),(.sl 184 (.st 3)),tI,.str,(.sl 3 tI),tI,(.sl 26 (.st 1)),(.sl 26 (.st 1)),(.sl 26 (.st 1))],fun k h=>zG.j7 k h.1 h.2.1 h.2.2.1 h.2.2.2.1 h.2.2.2.2.1 h.2.2.2.2.2.1 h.2.2.2.2.2.2.1 h.2.2.2.2.2.2.2.1 h.2.2.2.2.2.2.2.2.1 h.2.2.2.2.2.2.2.2.2.1 h.2.2.2.2.2.2.2.2.2.2⟩)],
 [(6,[[0,1,2,3,4,5,6,7,8,9,10,11,12,13,14]]),(8,[[0,1,2,3,4,5,6,7,8,9,10,11,12,13]])],[]⟩
theorem zG.holds (k:Nat):(zG.ct k).Holds Tryz.prog 103:=
 cO sg.kit Tryz.f103 _ zG.d 2 k (fun j _=>⟨yl.holds j,I9.holds j,q13.holds j,qe.holds j,True.intro⟩)
def q30.ct (k:Nat):Ct sg:=⟨false,⟨[(0,.st 4),(1,.st 1),(2,.one (.val (.sl 197 (.st 2))))],[]⟩,⟨[(0,.st 1),(1,oI)],[]⟩,[(.st 4),(.st 1),(.sl 197 (.st 2))],[(.st 1),tI],fun h=>q30.f k h.1 h.2.1 h.2.2⟩
def q30.d:FD sg (HL sg.S [(.st 1),tI]):=⟨fun k=> [(103,zG.ct k)],
 [],
 [],
 [],[]⟩
theorem q30.holds (k:Nat):(q30.ct k).Holds Tryz.prog 28:=
 cO sg.kit Tryz.f28 _ q30.d 0 k (fun j _=>⟨zG.holds j,True.intro⟩)
def A8.ct (k:Nat):Ct sg:=⟨true,⟨[(0,.one (.val (.sl 5 (.int .u8)))),(1,.one (.val (.sl 5 (.int .u8))))],[]⟩,⟨[(0,oB)],[]⟩,[(.sl 5 (.int .u8)),(.sl 5 (.int .u8))],[.bool],fun h=>A8.f k h.1 h.2⟩
def A8.d:FD sg (HL sg.S [.bool]):=⟨fun k=> [(14,EC.ct k),(15,Iz.ct k),(21,qz.ct k),(22,I9.ct k),(23,yX.ct k),(24,Vf.ct k),(25,q13.ct k),(26,yt.ct k),(27,q32.ct k),(28,q30.ct k)],
 [],
 [(3,⟨⟨[(0,.one (.val (.sl 5 (.int .u8)))),(1,.one (.val (.sl 5 (.int .u8))))],[]⟩,[(.sl 5 (.int .u8)),(.sl 5 (.int .u8))],fun k h=>A8.j3 k h.1 h.2⟩),
 (8,⟨⟨[(1,.one (.val (.sl 5 (.int .u8))))],[]⟩,[(.sl 5 (.int .u8))],fun k h=>A8.j8 k h⟩),
 (12,⟨⟨[(1,.one (.val (.sl 5 (.int .u8))))],[]⟩,[(.sl 5 (.int .u8))],fun k h=>A8.j12 k h⟩)],
 [],[]⟩
theorem A8.holds (k:Nat):(A8.ct k).Holds Tryz.prog 5:=
 cO sg.kit Tryz.f5 _ A8.d 3 k (fun j _=>⟨EC.holds j,Iz.holds j,qz.holds j,I9.holds j,yX.holds j,Vf.holds j,q13.holds j,yt.holds j,q32.holds j,q30.holds j,True.intro⟩)
end
end
section
open Go K
theorem dX {P:af→Prop} (h: ∀x:af,(∀y∈x.aj,P y)→P x): ∀x,P x:=by
 have key: ∀n (x:af),SizeOf.sizeOf x<n→P x:=by
  intro n
  induction n with
  |zero=>intro x hx;omega
  |succ n ih=>
   intro x hx;refine h x (fun y hy=>ih y ?_)
   have h1:=List.sizeOf_lt_of_mem hy;cases x;simp at h1 hx⊢;omega
 exact fun x=>key _ x (Nat.lt_succ_self _)
mutual
def wid:af→Int
 |⟨_,t,sc,_,ks⟩=>1+(t.size:Int)+(sc.length:Int)+bG ks
def bG:List af→Int
 | []=>0
 |x::l=>wid x+bG l
end
theorem nX (x:af):wid x=1+(x.aG.size:Int)+(x.aB.length:Int)+bG x.aj:=by cases x;simp only[wid]
theorem gU (a:Int) (t:ByteArray) (sc:List Int) (d:Int) (ks:List af):wid ⟨a,t,sc,d,ks⟩=1+(t.size:Int)+(sc.length:Int)+bG ks:=by simp only[wid]
theorem dO (l:List af):0≤bG l∧(l.length:Int)≤bG l:=by
 have key: ∀x:af,1≤wid x:=by
  refine dX fun x ih=> ?_
  rw[nX];have: ∀l:List af,(∀y∈l,1≤wid y)→0≤bG l:=by
   intro l
   induction l with
   |nil=>intro _;simp[bG]
   |cons y l ihl=>
    intro h;have:=h y (by simp)
    have:=ihl fun z hz=>h z (List.mem_cons_of_mem _ hz)
    simp only[bG];omega
  have:=this _ ih;omega
 induction l with
 |nil=>simp[bG]
 |cons x l ih=>
  have:=key x;simp only[bG,List.length_cons];omega
theorem lY (x:af):1≤wid x:=by rw[nX];have:=(dO x.aj).1;omega
theorem bZ {l:List af} {x:af} (h:x∈l):wid x≤bG l:=by
 induction l with
 |nil=>cases h
 |cons y l ih=>
  have h1:=lY y;have h2:=(dO l).1;simp only[bG];rcases List.mem_cons.1 h with rfl|h
  ·omega
  ·have:=ih h;omega
theorem dh (l m:List af):bG (l++m)=bG l+bG m:=by
 induction l with
 |nil=>simp[bG]
 |cons x l ih=>simp only[List.cons_append,bG,ih];omega
theorem iD (x:af):bG [x]=wid x:=by simp[bG]
theorem oJ (l:List af) (n:Nat):bG (l.take n)≤bG l:=by
 have h:=dh (l.take n) (l.drop n);rw[List.take_append_drop]at h;have:=(dO (l.drop n)).1;omega
theorem aW (x:af):(x.aG.size:Int)<wid x∧(x.aB.length:Int)<wid x∧(x.aj.length:Int)<wid x∧bG x.aj<wid x∧0≤bG x.aj:=by
 have:=nX x;have:=dO x.aj;omega
def tC (c:Int):Bool:=decide (48≤c)&&decide (c≤57)
def tH (c:Int):Bool:=decide (32≤c)&&decide (c≤126)&& !decide (c=34)
def yx (l:List Int):Bool:= !l.isEmpty&&l.all tC
def quoted (l:List Int):Bool:=decide (2≤l.length)&&decide (aF 0 l 0=34)&&decide (aF 0 l ((l.length:Int)-1)=34)&&((l.take (l.length-1)).drop 1).all tH
def Vm (l:List Int):Bool:=decide (l= [35,116])||(decide (l= [35,102])||(yx l||((decide (1<l.length)&&decide (aF 0 l 0=45)&&yx (l.drop 1))||quoted l)))
def rq (s:ByteArray):Bool:=Vm (bytesOf s)
def DZ (c:Int):Bool:=decide (33≤c)&&decide (c<126)&& !decide (c=40)&& !decide (c=41)&& !decide (c=34)&& !decide (c=39)
def MG (s:ByteArray):Bool:=(bytesOf s).all DZ&& !(bytesOf s).isEmpty&& !decide (bytesOf s= [46])&& !decide (aF 0 (bytesOf s) 0=35)&& !rq s
theorem lit_eq {s:ByteArray} (a:Array UInt8) (l:List Int) (h:bytesOf (ByteArray.mk a)=l):(s.toList=(ByteArray.mk a).toList)↔bytesOf s=l:=by
 rw[toList_inj,←Kq,h]
theorem bg {p:Prop} [Decidable p] (h:p): ¬ ¬p:=fun k=>k h
theorem bsize (s:ByteArray):(s.size:Int)=((bytesOf s).length:Int):=by rw[bytesOf_length]
theorem F6 (s:ByteArray) (hs:s.size≤1000000000000000000):Ev (fun k=>q24.f k s) (yx (bytesOf s)):=by
 have hb:=bsize s;simp only[q24.f];have key:Ev (fun k=>q24.l2 k s 0) ((bytesOf s).all tC&&decide (0<(s.size:Int))):=by
  refine dG (bytesOf s) (P:=fun i suf=>Ev (fun k=>q24.l2 k s i) (suf.all tC&&decide (0<(s.size:Int)))) ?_ ?_
  ·refine Ev.shift ?_;simp (disch:=omega) only[q24.l2,if_neg,List.all_nil,Bool.true_and];exact Ev.now _
  ·intro i c r h0 h1 hx hm _ _ _ ih;have h2:=Ib s c hm;refine Ev.shift ?_;simp (disch:=omega) only[q24.l2,if_pos,Ah,hx,List.all_cons,eu]
   by_cases a1:c<48
   ·simp (disch:=omega) only[if_pos,tC,decide_eq_false,Bool.false_and];exact Ev.now _
   by_cases a2:57<c
   ·simp (disch:=omega) only[if_pos,if_neg,tC,decide_eq_false,Bool.and_false,Bool.false_and];exact Ev.now _
   simp (disch:=omega) only[if_neg,tC,decide_eq_true (show 48≤c by omega),decide_eq_true (show c≤57 by omega),Bool.and_self,Bool.true_and]
   exact ih
 refine Ev.eq key ?_;unfold yx;rw[hb,Bool.and_comm];cases bytesOf s<;>simp
theorem zH (s:ByteArray) (hs:s.size≤1000000000000000000):Ev (fun k=>q12.j3 k s) (quoted (bytesOf s)):=by
 have hb:=bsize s;unfold quoted
 by_cases h2:(s.size:Int)<2
 ·simp (disch:=omega) only[q12.j3,if_pos];rw[decide_eq_false (by omega)];simp only[Bool.false_and];exact Ev.now _
 simp (disch:=omega) only[q12.j3,if_pos,if_neg,Ah,eu];rw[decide_eq_true (show 2≤(bytesOf s).length by omega),Bool.true_and]
 by_cases h3:aF 0 (bytesOf s) 0=34
 ·simp only[if_neg (bg h3),decide_eq_true h3,Bool.true_and,←hb]
  by_cases h4:aF 0 (bytesOf s) ((s.size:Int)-1)=34
  ·simp only[decide_eq_true h4,Bool.true_and,if_neg (bg h4),q12.j5];have hl:(bytesOf s).length-1=(s.size:Int).toNat-1:=by omega
   have key:=Np ((bytesOf s).take ((bytesOf s).length-1)) (P:=fun i suf=>Ev (fun k=>q12.l6 k s i) (suf.all tH)) ?_ ?_ 1 (by rw[List.length_take];omega)
   ·exact key
   ·refine Ev.shift ?_;rw[List.length_take];simp (disch:=omega) only[q12.l6,if_neg,eu,List.all_nil];exact Ev.now _
   ·intro i c r h0 h1 hx hm _ _ _ ih;rw[List.length_take]at h1;have hc:aF 0 (bytesOf s) i=c:=by
     rw[←hx 0];unfold aF;rw[List.getD_eq_getElem?_getD,List.getD_eq_getElem?_getD,List.getElem?_take,if_pos (by omega)]
    refine Ev.shift ?_;simp (disch:=omega) only[q12.l6,if_pos,Ah,hc,List.all_cons,eu]
    by_cases a0:c=34
    ·simp (disch:=omega) only[if_pos,tH,decide_eq_true,Bool.not_true,Bool.and_false,Bool.false_and];exact Ev.now _
    by_cases a1:c<32
    ·simp (disch:=omega) only[if_pos,if_neg,tH,decide_eq_false,Bool.false_and];exact Ev.now _
    by_cases a2:126<c
    ·simp (disch:=omega) only[if_pos,if_neg,tH,decide_eq_false,Bool.and_false,Bool.false_and];exact Ev.now _
    simp (disch:=omega) only[if_neg,tH,decide_eq_true,decide_eq_false,Bool.not_false,Bool.and_self,Bool.true_and];exact ih
  ·simp only[decide_eq_false h4,Bool.false_and,if_pos h4];exact Ev.now _
 ·simp only[if_pos h3,decide_eq_false h3,Bool.false_and];exact Ev.now _
theorem F7 (s:ByteArray) (hs:s.size≤1000000000000000000):Ev (fun k=>q12.f k s) (rq s):=by
 have hb:=bsize s;simp only[q12.f,lit_eq #[35,116] [35,116] rfl,lit_eq #[35,102] [35,102] rfl,rq,Vm]
 by_cases a1:bytesOf s= [35,116]
 ·simp only[if_pos a1,decide_eq_true a1,Bool.true_or];exact Ev.now _
 simp only[if_neg a1,decide_eq_false a1,Bool.false_or]
 by_cases a2:bytesOf s= [35,102]
 ·simp only[if_pos a2,decide_eq_true a2,Bool.true_or];exact Ev.now _
 simp only[if_neg a2,decide_eq_false a2,Bool.false_or];refine Ev.bind (F6 s hs) ?_
 by_cases a3:yx (bytesOf s)=true
 ·rw[a3];simp only[if_true,Bool.true_or];exact Ev.now _
 simp only[if_neg a3,Bool.eq_false_iff.2 a3,Bool.false_or]
 by_cases a4:1<(s.size:Int)
 ·simp (disch:=omega) only[if_pos,decide_eq_true (show 1<(bytesOf s).length by omega),Bool.true_and,Ah]
  by_cases a5:aF 0 (bytesOf s) 0=45
  ·rw[decide_eq_true a5];simp only[if_pos a5,Bool.true_and];refine Ev.bind (F6 _ (by rw[ByteArray.size_extract];omega)) ?_
   have e:bytesOf (s.extract 1 (s.size:Int).toNat)=(bytesOf s).drop 1:=by
    rw[lg,List.take_of_length_le (by omega)]
   rw[e]
   by_cases a6:yx ((bytesOf s).drop 1)=true
   ·rw[a6];simp only[if_true,Bool.true_or];exact Ev.now _
   ·simp only[if_neg a6,Bool.eq_false_iff.2 a6,Bool.false_or];exact zH s hs
  ·rw[decide_eq_false a5];simp only[if_neg a5,Bool.false_and,Bool.false_or];exact zH s hs
 ·simp (disch:=omega) only[if_neg,decide_eq_false (show¬1<(bytesOf s).length by omega),Bool.false_and,Bool.false_or]
  exact zH s hs
theorem dropWhile_nil {α:Type} (p:α→Bool): ∀l:List α,l.dropWhile p= []↔l.all p=true:=by
 intro l
 induction l with
 |nil=>simp
 |cons x l ih=>
  by_cases h:p x=true
  ·simp[List.dropWhile_cons,h,ih]
  ·simp[List.dropWhile_cons,h]
theorem Vo (l cs:List UInt8):Go.Lib.trimS l cs= []↔l.all (cs.contains ·)=true:=by
 unfold Go.Lib.trimS Go.Lib.trimLeftS Go.Lib.trimRightS;rw[dropWhile_nil];constructor
 ·intro h;have h0:(l.reverse.dropWhile (cs.contains ·))= []:=by
   cases hd:l.reverse.dropWhile (cs.contains ·) with
   |nil=>rfl
   |cons y m=>
    have hy:cs.contains y=false:=by
     have:=List.head?_dropWhile_not (cs.contains ·) l.reverse
     rw[hd]at this
     simpa using this
    rw[hd]at h;simp at h;have h1:=h.2;rw[List.contains_eq_mem]at hy;simp at hy;exact absurd h1 hy
  rw[dropWhile_nil]at h0
  simpa using h0
 ·intro h;have h0:(l.reverse.dropWhile (cs.contains ·))= []:=by
   rw[dropWhile_nil]
   simpa using h
  rw[h0]
  rfl
theorem Xu: ∀b:UInt8,([48,49,50,51,52,53,54,55,56,57]:List UInt8).contains b=tC (b.toNat:Int):=by
 intro b;have: ∀n:Fin 256,([48,49,50,51,52,53,54,55,56,57]:List UInt8).contains (UInt8.ofNat n.val)=tC (n.val:Int):=by decide+kernel
 have:=this ⟨b.toNat,b.toNat_lt⟩
 simpa using this
theorem Xv (d:ByteArray) (hd:d.size≤1000000000000000000): ∃r,tq d (ByteArray.mk #[48,49,50,51,52,53,54,55,56,57])=some r∧decide (r.toList=(ByteArray.mk #[]).toList)=(bytesOf d).all tC:=by
 refine⟨⟨(Go.Lib.trimS d.data.toList [48,49,50,51,52,53,54,55,56,57]).toArray⟩,?_,?_⟩
 ·unfold tq;rw[if_pos (by decide),if_pos (by omega),if_pos (by decide)]
 ·have e:(bytesOf d).all tC=d.data.toList.all (([48,49,50,51,52,53,54,55,56,57]:List UInt8).contains ·):=by
   unfold bytesOf;rw[List.all_map]
   congr 1
   funext b
   exact(Xu b).symm
  rw[e,Bool.eq_iff_iff,←Vo,decide_eq_true_eq,toList_data];simp[toList_data]
theorem Rx (s:ByteArray):Ev (fun k=>q35.f k s (ByteArray.mk #[45])) (if 1≤(s.size:Int)∧aF 0 (bytesOf s) 0=45 then s.extract 1 s.size else s):=by
 have hb:=bsize s;have e1:(ByteArray.mk #[45]).size=1:=rfl;simp only[q35.f,q37.f,Wh.f,e1]
 by_cases h:1≤(s.size:Int)
 ·have e:((s.extract 0 ((1:Nat):Int).toNat).toList=(ByteArray.mk #[45]).toList)↔aF 0 (bytesOf s) 0=45:=by
   rw[lit_eq #[45] [45] rfl,lg];generalize bytesOf s=l at hb⊢;cases l with
   |nil=>simp only[List.length_nil]at hb;omega
   |cons c l=>simp[aF]
  simp (disch:=omega) only[if_pos,e,Option.bind_some,decide_eq_true_eq,h,true_and]
  by_cases h5:aF 0 (bytesOf s) 0=45
  ·simp only[h5,if_true,Option.bind_some];exact Ev.now _
  ·simp only[h5,if_false,Option.bind_some];exact Ev.now _
 ·simp (disch:=omega) only[if_neg,Option.bind_some,Bool.false_eq_true,if_false];exact Ev.now _
theorem F8 (s:ByteArray) (hs:s.size≤1000000000000000000):Ev (fun k=>vJ.f k s) (rq s):=by
 have hb:=bsize s;simp only[vJ.f,lit_eq #[35,116] [35,116] rfl,lit_eq #[35,102] [35,102] rfl,rq,Vm]
 by_cases a1:bytesOf s= [35,116]
 ·simp only[if_pos a1,decide_eq_true a1,Bool.true_or];exact Ev.now _
 simp only[if_neg a1,decide_eq_false a1,Bool.false_or]
 by_cases a2:bytesOf s= [35,102]
 ·simp only[if_pos a2,decide_eq_true a2,Bool.true_or];exact Ev.now _
 simp only[if_neg a2,decide_eq_false a2,Bool.false_or];have other:quoted (bytesOf s)=false→Ev (fun k=>vJ.j5 k s (s.size:Int) false) (yx (bytesOf s)||(decide (1<(bytesOf s).length)&&decide (aF 0 (bytesOf s) 0=45)&&yx ((bytesOf s).drop 1)||quoted (bytesOf s))):=by
  intro hq;rw[hq,Bool.or_false];simp only[vJ.j5,Bool.false_eq_true,if_false];refine Ev.bind (Rx s) ?_;have fin: ∀d:ByteArray,d.size≤1000000000000000000→Ev (fun k:Nat=>if¬d.toList=(ByteArray.mk #[]).toList then((tq d (ByteArray.mk #[48,49,50,51,52,53,54,55,56,57])).bind fun r2=>some (decide (r2.toList=(ByteArray.mk #[]).toList))) else some false) (yx (bytesOf d)):=by
   intro d hd;obtain⟨r,e1,e2⟩:=Xv d hd;rw[e1];simp only[Option.bind_some,e2];simp only[lit_eq #[] [] rfl,yx];cases h:bytesOf d with
   |nil=>simp;exact Ev.now _
   |cons c l=>simp only[List.isEmpty_cons,Bool.not_false,Bool.true_and,reduceCtorEq,not_false_eq_true,if_true];exact Ev.now _
  have edge: ∀c∈bytesOf s,0≤c∧c≤255:=Ib s
  by_cases h:1≤(s.size:Int)∧aF 0 (bytesOf s) 0=45
  ·rw[if_pos h];have hd:yx (bytesOf s)=false:=by
    have h1:=h.1;have h2:=h.2;generalize bytesOf s=l at h1 h2 hb⊢;cases l with
    |nil=>rfl
    |cons c l=>simp[aF]at h2;subst h2;simp[yx,tC]
   rw[hd,Bool.false_or,decide_eq_true h.2,Bool.and_true];refine Ev.eq (fin _ (by rw[ByteArray.size_extract];omega)) ?_
   have e:bytesOf (s.extract 1 s.size)=(bytesOf s).drop 1:=by rw[lg,List.take_of_length_le (by omega)]
   rw[e]
   by_cases h1:1<(bytesOf s).length
   ·rw[decide_eq_true h1,Bool.true_and]
   ·rw[decide_eq_false h1,Bool.false_and,List.drop_eq_nil_of_le (by omega)];rfl
  ·rw[if_neg h];refine Ev.eq (fin _ hs) ?_;have:(decide (1<(bytesOf s).length)&&decide (aF 0 (bytesOf s) 0=45))=false:=by
    rw[Bool.and_eq_false_iff,decide_eq_false_iff_not,decide_eq_false_iff_not]
    by_cases h1:1<(bytesOf s).length
    ·exact .inr fun e=>h ⟨by omega,e⟩
    ·exact .inl h1
   rw[this,Bool.false_and,Bool.or_false]
 by_cases h2:2≤(s.size:Int)
 ·simp (disch:=omega) only[vJ.j3,if_pos,Ah,eu]
  by_cases h3:aF 0 (bytesOf s) 0=34
  ·simp only[if_pos h3]
   by_cases h4:aF 0 (bytesOf s) ((s.size:Int)-1)=34
   ·have hd:yx (bytesOf s)=false:=by
     generalize bytesOf s=l at h3 hb⊢;cases l with
     |nil=>rfl
     |cons c l=>simp[aF]at h3;subst h3;simp[yx,tC]
    rw[hd,h3,decide_eq_false (show¬(34:Int)=45 by decide),Bool.and_false,Bool.false_and,Bool.false_or,Bool.false_or,decide_eq_true h4]
    simp (disch:=omega) only[vJ.j5,if_true,eu,if_pos];have e:bytesOf (s.extract 1 ((s.size:Int)-1).toNat)=((bytesOf s).take ((bytesOf s).length-1)).drop 1:=by
     rw[lg,show((s.size:Int)-1).toNat=(bytesOf s).length-1 by omega]
    rw[e];have hq:quoted (bytesOf s)=(((bytesOf s).take ((bytesOf s).length-1)).drop 1).all tH:=by
     unfold quoted;rw[decide_eq_true (show 2≤(bytesOf s).length by omega),decide_eq_true h3,←hb,decide_eq_true h4]
     simp only[Bool.true_and]
    rw[hq];have hlen:(((bytesOf s).take ((bytesOf s).length-1)).drop 1).length≤1000000000000000000:=by rw[List.length_drop,List.length_take];omega
    generalize (((bytesOf s).take ((bytesOf s).length-1)).drop 1)=m at hlen⊢;refine dG m (P:=fun i suf=>Ev (fun k=>vJ.l6 k m (m.length:Int) i) (suf.all tH)) ?_ ?_
    ·refine Ev.shift ?_;simp (disch:=omega) only[vJ.l6,if_neg,List.all_nil];exact Ev.now _
    ·intro i c r h0 h1 hx hm _ _ _ ih;refine Ev.shift ?_;simp (disch:=omega) only[vJ.l6,if_pos,hx,List.all_cons,eu]
     by_cases a1:c<32
     ·simp (disch:=omega) only[if_pos,if_neg,tH,decide_eq_false,Bool.false_and];exact Ev.now _
     by_cases a2:126<c
     ·simp (disch:=omega) only[if_pos,if_neg,tH,decide_eq_false,Bool.and_false,Bool.false_and];exact Ev.now _
     by_cases a0:c=34
     ·simp (disch:=omega) only[if_pos,if_neg,tH,decide_eq_true,Bool.not_true,Bool.and_false,Bool.false_and];exact Ev.now _
     simp (disch:=omega) only[if_neg,tH,decide_eq_true,decide_eq_false,Bool.not_false,Bool.and_self,Bool.true_and];exact ih
   ·simp only[decide_eq_false h4];refine other ?_;unfold quoted;rw[←hb,decide_eq_false h4,Bool.and_false,Bool.false_and]
  ·simp only[if_neg h3];refine other ?_;unfold quoted;rw[decide_eq_false h3,Bool.and_false,Bool.false_and,Bool.false_and]
 ·simp (disch:=omega) only[vJ.j3,if_neg];refine other ?_;unfold quoted;rw[decide_eq_false (show¬2≤(bytesOf s).length by omega)]
  simp only[Bool.false_and]
theorem Xw (c:Int):Ev (fun k=>P_.f k c) (decide (c=32)||decide (c=10)||decide (c=40)||decide (c=41)||decide (c=34)||decide (c=39)):=by
 simp only[P_.f,Ri.f]
 by_cases a0:c=32
 ·simp[a0];exact Ev.now _
 by_cases a1:c=10
 ·simp[a1];exact Ev.now _
 by_cases a2:c=40
 ·simp[a2];exact Ev.now _
 by_cases a3:c=41
 ·simp[a3];exact Ev.now _
 by_cases a4:c=34
 ·simp[a4];exact Ev.now _
 simp[a0,a1,a2,a3,a4];exact Ev.now _
theorem Xx (s:ByteArray) (hs:s.size≤1000000000000000000):Ev (fun k=>Bl.f k s) (MG s):=by
 have hb:=bsize s;simp only[Bl.f,lit_eq #[] [] rfl,lit_eq #[46] [46] rfl,Ah]
 by_cases a0:bytesOf s= []
 ·have:MG s=false:=by unfold MG;rw[a0];rfl
  simp only[if_pos a0,this];exact Ev.now _
 by_cases a1:bytesOf s= [46]
 ·have:MG s=false:=by unfold MG;rw[decide_eq_true a1];simp
  simp only[if_neg a0,if_pos a1,this];exact Ev.now _
 simp only[if_neg a0,if_neg a1];refine Ev.bind (F7 s hs) ?_
 by_cases a2:rq s=true
 ·have:MG s=false:=by unfold MG;rw[a2];simp
  simp only[a2,if_true,this];exact Ev.now _
 have hp:0<(s.size:Int):=by
  have:=List.length_pos_iff.2 a0;omega
 simp (disch:=omega) only[if_neg a2,if_pos]
 by_cases a3:aF 0 (bytesOf s) 0=35
 ·have:MG s=false:=by unfold MG;rw[decide_eq_true a3];simp
  simp only[if_pos a3,this];exact Ev.now _
 simp only[if_neg a3,Bl.j3];have e:MG s=(bytesOf s).all DZ:=by
  unfold MG;rw[decide_eq_false a1,decide_eq_false a3,Bool.eq_false_iff.2 a2];have:(bytesOf s).isEmpty=false:=by simpa using a0
  simp[this]
 rw[e];refine dG (bytesOf s) (P:=fun i suf=>Ev (fun k=>Bl.l4 k s i) (suf.all DZ)) ?_ ?_
 ·refine Ev.shift ?_;simp (disch:=omega) only[Bl.l4,if_neg,List.all_nil];exact Ev.now _
 ·intro i c r h0 h1 hx hm _ _ _ ih;refine Ev.shift ?_;simp (disch:=omega) only[Bl.l4,if_pos,Ah,hx,List.all_cons,eu];refine Ev.bind (Xw c) ?_
  by_cases h:DZ c=true
  ·have h':=h;simp only[DZ,Bool.and_eq_true,Bool.not_eq_true',decide_eq_true_eq,decide_eq_false_iff_not]at h';simp (disch:=omega) only[decide_eq_false,Bool.or_self,Bool.false_eq_true,if_false,if_neg,h,Bool.true_and];exact ih
  ·have h':=h;simp only[DZ,Bool.and_eq_true,Bool.not_eq_true',decide_eq_true_eq,decide_eq_false_iff_not]at h';rw[Bool.eq_false_iff.2 h,Bool.false_and]
   by_cases b1:(decide (c=32)||decide (c=10)||decide (c=40)||decide (c=41)||decide (c=34)||decide (c=39))=true
   ·simp only[b1,if_true];exact Ev.now _
   ·simp only[Bool.or_eq_true,decide_eq_true_eq]at b1;simp (disch:=omega) only[decide_eq_false,Bool.or_self,Bool.false_eq_true,if_false]
    by_cases b2:c<33
    ·simp only[if_pos b2];exact Ev.now _
    by_cases b3:126<c
    ·simp only[if_neg b2,if_pos b3];exact Ev.now _
    ·simp (disch:=omega) only[if_neg b2,if_neg b3,if_pos];exact Ev.now _
theorem Vp (c:Int) (h0:0≤c) (h1:c≤255):(0≤jg (ByteArray.mk #[40,41,34,39,126]) c)↔(c=40∨c=41∨c=34∨c=39∨c=126):=by
 obtain⟨n,rfl⟩:=Int.eq_ofNat_of_zero_le h0;have: ∀n:Fin 256,(0≤jg (ByteArray.mk #[40,41,34,39,126]) (n.val:Int))↔((n.val:Int)=40∨(n.val:Int)=41∨(n.val:Int)=34∨(n.val:Int)=39∨(n.val:Int)=126):=by decide+kernel
 exact this ⟨n,by omega⟩
theorem Xy (s:ByteArray) (hs:s.size≤1000000000000000000):Ev (fun k=>Iq.f k s) (MG s):=by
 have hb:=bsize s;simp only[Iq.f,bytesOf_length];have key: ∀r:List Int,r=bytesOf s→Ev (fun k=>Iq.l2 k s (bytesOf s) (s.size:Int) 0) (r.all DZ&& !(bytesOf s).isEmpty&& !decide (bytesOf s= [46])&& !decide (aF 0 (bytesOf s) 0=35)&& !rq s):=by
  rintro r rfl;refine dG (bytesOf s) (P:=fun i suf=>Ev (fun k=>Iq.l2 k s (bytesOf s) (s.size:Int) i) (suf.all DZ&& !(bytesOf s).isEmpty&& !decide (bytesOf s= [46])&& !decide (aF 0 (bytesOf s) 0=35)&& !rq s)) ?_ ?_
  ·refine Ev.shift ?_;simp (disch:=omega) only[Iq.l2,if_neg,List.all_nil,Bool.true_and,lit_eq #[] [] rfl,lit_eq #[46] [46] rfl,Ah]
   by_cases a0:bytesOf s= []
   ·simp only[a0,if_neg (bg (rfl:([]:List Int)= [])),List.isEmpty_nil,Bool.not_true,Bool.false_and];exact Ev.now _
   have a0':(bytesOf s).isEmpty=false:=by simpa using a0
   simp only[if_pos a0,a0',Bool.not_false,Bool.true_and]
   by_cases a1:bytesOf s= [46]
   ·simp only[if_neg (bg a1),decide_eq_true a1,Bool.not_true,Bool.false_and];exact Ev.now _
   have hp:0<(s.size:Int):=by have:=List.length_pos_iff.2 a0;omega
   simp only[if_pos a1,decide_eq_false a1,Bool.not_false,Bool.true_and,if_pos hp]
   by_cases a3:aF 0 (bytesOf s) 0=35
   ·simp only[if_neg (bg a3),decide_eq_true a3,Bool.not_true,Bool.false_and];exact Ev.now _
   simp only[if_pos a3,decide_eq_false a3,Bool.not_false,Bool.true_and];refine Ev.bind (F8 s hs) ?_;cases rq s
   ·exact Ev.now _
   ·exact Ev.now _
  ·intro i c r h0 h1 hx hm _ _ _ ih;obtain⟨c0,c1⟩:=Ib s c hm;refine Ev.shift ?_;simp (disch:=omega) only[Iq.l2,if_pos,hx,List.all_cons,eu,Vp c c0 c1]
   by_cases h:DZ c=true
   ·have h':=h;simp only[DZ,Bool.and_eq_true,Bool.not_eq_true',decide_eq_true_eq,decide_eq_false_iff_not]at h';simp (disch:=omega) only[if_neg,h,Bool.true_and];exact ih
   ·have h':=h;simp only[DZ,Bool.and_eq_true,Bool.not_eq_true',decide_eq_true_eq,decide_eq_false_iff_not]at h';rw[Bool.eq_false_iff.2 h];simp only[Bool.false_and]
    by_cases b2:c<33
    ·simp only[if_pos b2];exact Ev.now _
    by_cases b3:126<c
    ·simp only[if_neg b2,if_pos b3];exact Ev.now _
    ·simp (disch:=omega) only[if_neg b2,if_neg b3,if_pos];exact Ev.now _
 exact key _ rfl
def qF:Option Int→List Int→Bool
 |_,[]=>true
 |o,x::l=>decide (0≤x)&&(match o with|none=>true|some p=>decide (p<x))&&qF (some x) l
def Vq (l:List Int):Bool:=qF none l
def jJ (ks:List af):Bool:=decide (2≤(ks.length:Int))&&(decide ((aF ah ks ((ks.length:Int)-1)).ak=1)||decide ((aF ah ks ((ks.length:Int)-1)).ak=2))
mutual
def jl:af→Int→Bool
 |⟨a,t,sc,d,ks⟩,deep=>decide (deep≤60)&&(if a=1 then MG t&&(decide ((t.size:Int)≤40)&&(decide (0≤d)&&(Vq sc&&decide ((ks.length:Int)=0))))
  else if a=2 then rq t&&(decide ((t.size:Int)≤40)&&(decide (d=0)&&(decide ((sc.length:Int)=0)&&decide ((ks.length:Int)=0))))
  else(decide (a=3)||decide (a=4))&&(decide (bytesOf t= [])&&(decide (d=0)&&(decide ((sc.length:Int)=0)&&(pO ks (deep+1)&&(decide (a=3)||jJ ks))))))
def pO:List af→Int→Bool
 | [],_=>true
 |x::l,deep=>jl x deep&&pO l deep
end
mutual
def cnt:af→Int
 |⟨_,_,_,_,ks⟩=>1+cnts ks
def cnts:List af→Int
 | []=>0
 |x::l=>cnt x+cnts l
end
theorem qP (x:af) (deep:Int):jl x deep=(decide (deep≤60)&&(if x.ak=1 then MG x.aG&&(decide ((x.aG.size:Int)≤40)&&(decide (0≤x.aI)&&(Vq x.aB&&decide ((x.aj.length:Int)=0))))
  else if x.ak=2 then rq x.aG&&(decide ((x.aG.size:Int)≤40)&&(decide (x.aI=0)&&(decide ((x.aB.length:Int)=0)&&decide ((x.aj.length:Int)=0))))
  else(decide (x.ak=3)||decide (x.ak=4))&&(decide (bytesOf x.aG= [])&&(decide (x.aI=0)&&(decide ((x.aB.length:Int)=0)&&(pO x.aj (deep+1)&&(decide (x.ak=3)||jJ x.aj))))))):=by cases x;simp only[jl]
theorem jh (x:af):cnt x=1+cnts x.aj:=by cases x;simp only[cnt]
theorem dm: ∀x,1≤cnt x∧cnt x≤wid x:=by
 refine dX fun x ih=> ?_
 have: ∀l:List af,(∀y∈l,1≤cnt y∧cnt y≤wid y)→0≤cnts l∧cnts l≤bG l:=by
  intro l
  induction l with
  |nil=>intro _;simp[cnts,bG]
  |cons y l ihl=>
   intro h;have:=h y (by simp)
   have:=ihl fun z hz=>h z (List.mem_cons_of_mem _ hz)
   simp only[cnts,bG];omega
 have:=this _ ih;rw[jh,nX];omega
theorem dQ (l:List af):0≤cnts l∧cnts l≤bG l:=by
 induction l with
 |nil=>simp[cnts,bG]
 |cons x l ih=>
  have:=dm x;simp only[cnts,bG];omega
def okb (x:af):Bool:=jl x 0&&leB (cnt x) 1500
theorem KU (l:List Int) (hl:(l.length:Int)≤1000000000000000000):Ev (fun k=>Ik.f k l) (Vq l):=by
 simp only[Ik.f];refine dG l (P:=fun i suf=> ∀o:Option Int,(match o with|none=>i=0|some p=>0<i∧aF 0 l (i-1)=p)→Ev (fun k=>Ik.l2 k l i) (qF o suf)) ?_ ?_ none rfl
 ·intro o ho;refine Ev.shift ?_;simp (disch:=omega) only[Ik.l2,if_neg,qF];exact Ev.now _
 ·intro i x r h0 h1 hx hm _ _ _ ih o ho;refine Ev.shift ?_;simp (disch:=omega) only[Ik.l2,if_pos,hx,eu,qF]
  by_cases a0:x<0
  ·simp (disch:=omega) only[if_pos,decide_eq_false,Bool.false_and];exact Ev.now _
  have a0':decide (0≤x)=true:=by simpa using a0
  simp only[if_neg a0,a0',Bool.true_and];have ih':=ih (some x) ⟨by omega,by rw[show i+1-1=i by omega];exact hx 0⟩
  cases o with
  |none=>
   have ho:i=0:=ho;simp (disch:=omega) only[if_neg,Bool.true_and];exact ih'
  |some p=>
   obtain⟨o1,o2⟩:0<i∧aF 0 l (i-1)=p:=ho;simp (disch:=omega) only[if_pos,o2]
   by_cases a1:x≤p
   ·simp (disch:=omega) only[if_pos,decide_eq_false,Bool.false_and];exact Ev.now _
   ·simp (disch:=omega) only[if_neg,decide_eq_true (show p<x by omega),Bool.true_and];exact ih'
theorem KW (n:Int) (l:List Int) (hl:(l.length:Int)≤1000000000000000000):Ev (fun k=>qg.j9 k n l) (if Vq l then n else-1):=by
 simp only[qg.j9];refine dG l (P:=fun i suf=> ∀o:Option Int,(match o with|none=>i=0|some p=>0<i∧aF 0 l (i-1)=p)→Ev (fun k=>qg.l10 k n l (l.length:Int) i l) (if qF o suf then n else-1)) ?_ ?_ none rfl
 ·intro o ho;refine Ev.shift ?_;simp (disch:=omega) only[qg.l10,if_neg,qF,if_true];exact Ev.now _
 ·intro i x r h0 h1 hx hm _ _ _ ih o ho;refine Ev.shift ?_;simp (disch:=omega) only[qg.l10,if_pos,hx,eu,qF]
  by_cases a0:x<0
  ·simp (disch:=omega) only[if_pos,decide_eq_false,Bool.false_and,Bool.false_eq_true,if_false];exact Ev.now _
  have a0':decide (0≤x)=true:=by simpa using a0
  simp only[if_neg a0,a0',Bool.true_and];have ih':=ih (some x) ⟨by omega,by rw[show i+1-1=i by omega];exact hx 0⟩
  cases o with
  |none=>
   have ho:i=0:=ho;simp (disch:=omega) only[if_neg,Bool.true_and];exact ih'
  |some p=>
   obtain⟨o1,o2⟩:0<i∧aF 0 l (i-1)=p:=ho;simp (disch:=omega) only[if_pos,o2]
   by_cases a1:x≤p
   ·simp (disch:=omega) only[if_pos,decide_eq_false,Bool.false_and,Bool.false_eq_true,if_false];exact Ev.now _
   ·simp (disch:=omega) only[if_neg,decide_eq_true (show p<x by omega),Bool.true_and];exact ih'
theorem Xz: ∀(x:af) (deep:Int),wid x≤1000000000000000000→0≤deep→deep≤1000000000000000000→Ev (fun k=>qo.f k x deep) (jl x deep):=by
 refine dX fun x ih deep hw h0 hd=> ?_
 have hp:=aW x;rw[qP];refine Ev.shift ?_;simp only[qo.f]
 by_cases a0:60<deep
 ·simp (disch:=omega) only[if_pos,decide_eq_false,Bool.false_and];exact Ev.now _
 simp (disch:=omega) only[if_neg a0,decide_eq_true (show deep≤60 by omega),Bool.true_and]
 by_cases a1:x.ak=1
 ·simp only[if_pos a1];refine Ev.bind (Xx _ (by omega)) ?_
  cases MG x.aG with
  |false=>simp only[Bool.false_eq_true,if_false,Bool.false_and];exact Ev.now _
  |true=>
   simp only[if_true,Bool.true_and]
   by_cases a2:(x.aG.size:Int)≤40
   ·simp only[if_pos a2,decide_eq_true a2,Bool.true_and]
    by_cases a3:0≤x.aI
    ·simp only[if_pos a3,decide_eq_true a3,Bool.true_and];refine Ev.bind (KU _ (by omega)) ?_
     cases Vq x.aB with
     |false=>simp only[Bool.false_eq_true,if_false,Bool.false_and];exact Ev.now _
     |true=>simp only[if_true,Bool.true_and];exact Ev.now _
    ·simp only[if_neg a3,decide_eq_false a3,Bool.false_and];exact Ev.now _
   ·simp only[if_neg a2,decide_eq_false a2,Bool.false_and];exact Ev.now _
 simp only[if_neg a1]
 by_cases a2:x.ak=2
 ·simp only[if_pos a2];refine Ev.bind (F7 _ (by omega)) ?_
  cases rq x.aG with
  |false=>simp only[Bool.false_eq_true,if_false,Bool.false_and];exact Ev.now _
  |true=>
   simp only[if_true,Bool.true_and]
   by_cases a2:(x.aG.size:Int)≤40
   ·simp only[if_pos a2,decide_eq_true a2,Bool.true_and]
    by_cases a3:x.aI=0
    ·simp (disch:=omega) only[if_pos a3,decide_eq_true a3,Bool.true_and,eu]
     by_cases a4:(x.aB.length:Int)=0
     ·rw[decide_eq_true a4,Bool.true_and,a4];simp only[Int.zero_add];exact Ev.now _
     ·rw[decide_eq_false a4,Bool.false_and];simp (disch:=omega) only[decide_eq_false];exact Ev.now _
    ·simp only[if_neg a3,decide_eq_false a3,Bool.false_and];exact Ev.now _
   ·simp only[if_neg a2,decide_eq_false a2,Bool.false_and];exact Ev.now _
 simp only[if_neg a2];have list: ∀b:Bool,b=(decide (x.ak=3)||decide (x.ak=4))→Ev (fun k=>qo.Il k (qo.f k) (qo.iO k) deep b x.ak x.aG x.aB x.aI x.aj)
   ((decide (x.ak=3)||decide (x.ak=4))&&(decide (bytesOf x.aG= [])&&(decide (x.aI=0)&&(decide ((x.aB.length:Int)=0)&&(pO x.aj (deep+1)&&(decide (x.ak=3)||jJ x.aj)))))):=by
  intro b hb;rw[←hb];simp only[qo.Il,qo.Zc,lit_eq #[] [] rfl];cases b with
  |false=>simp only[Bool.false_eq_true,if_false,Bool.false_and];exact Ev.now _
  |true=>
   simp only[if_true,Bool.true_and]
   by_cases a3:bytesOf x.aG= []
   ·simp only[if_neg (bg a3),decide_eq_true a3,Bool.true_and]
    by_cases a4:x.aI=0
    ·simp only[if_neg (bg a4),decide_eq_true a4,Bool.true_and]
     by_cases a5:(x.aB.length:Int)=0
     ·simp (disch:=omega) only[if_neg,decide_eq_true a5,Bool.true_and];refine dG x.aj (P:=fun i suf=>Ev (fun k=>qo.iO k deep i x.ak x.aj) (pO suf (deep+1)&&(decide (x.ak=3)||jJ x.aj))) ?_ ?_
      ·refine Ev.shift ?_;simp (disch:=omega) only[qo.iO,if_neg,pO,Bool.true_and]
       by_cases a6:x.ak=3
       ·simp only[if_pos a6,decide_eq_true a6,Bool.true_or];exact Ev.now _
       simp only[if_neg a6,decide_eq_false a6,Bool.false_or,jJ]
       by_cases a7:1<(x.aj.length:Int)
       ·simp (disch:=omega) only[if_pos,eu,decide_eq_true (show 2≤(x.aj.length:Int) by omega),Bool.true_and]
        by_cases a8:(aF ah x.aj ((x.aj.length:Int)-1)).ak=1
        ·simp only[if_pos a8,decide_eq_true a8,Bool.true_or];exact Ev.now _
        ·simp only[if_neg a8,decide_eq_false a8,Bool.false_or];exact Ev.now _
       ·simp (disch:=omega) only[if_neg,decide_eq_false (show¬2≤(x.aj.length:Int) by omega),Bool.false_and];exact Ev.now _
      ·intro i y r h0 h1 hx hm _ _ _ ihr;have hy:=bZ hm;refine Ev.shift ?_;simp (disch:=omega) only[qo.iO,if_pos,hx,ay,eu,pO];refine Ev.bind (ih y hm (deep+1) (by omega) (by omega) (by omega)) ?_
       cases jl y (deep+1) with
       |false=>simp only[Bool.false_eq_true,not_false_eq_true,if_true,Bool.false_and];exact Ev.now _
       |true=>simp only[not_true_eq_false,if_false,Bool.true_and];exact ihr
     ·simp (disch:=omega) only[if_pos,decide_eq_false a5,Bool.false_and];exact Ev.now _
    ·simp only[if_pos a4,decide_eq_false a4,Bool.false_and];exact Ev.now _
   ·simp only[if_pos a3,decide_eq_false a3,Bool.false_and];exact Ev.now _
 by_cases a3:x.ak=3
 ·simp only[if_pos a3];exact list true (by rw[decide_eq_true a3,Bool.true_or])
 ·simp only[if_neg a3];exact list _ (by rw[decide_eq_false a3,Bool.false_or])
theorem F9: ∀(x:af),wid x≤1000000000000000000→Ev (fun k=>yj.f k x) (cnt x):=by
 refine dX fun x ih hw=> ?_
 have hp:=aW x;rw[jh];refine Ev.shift ?_;simp only[yj.f];refine dG x.aj (P:=fun i suf=> ∀n:Int,1≤n→n+cnts suf≤1000000000000000000→Ev (fun k=>yj.l3 k n i x.aj) (n+cnts suf)) ?_ ?_ 1 (by omega) (by have:=dQ x.aj;omega)
 ·intro n h1 h2;refine Ev.shift ?_;simp (disch:=omega) only[yj.l3,if_neg,cnts,Int.add_zero];exact Ev.now _
 ·intro i y r h0 h1 hx hm _ _ _ ihr n hn hs;have hy:=bZ hm;have hc:=dm y;have hr:=dQ r;simp only[cnts]at hs⊢;refine Ev.shift ?_;simp (disch:=omega) only[yj.l3,if_pos,hx,ay];refine Ev.bind (ih y hm (by omega)) ?_
  simp (disch:=omega) only[eu];rw[←Int.add_assoc];exact ihr _ (by omega) (by omega)
theorem iL (x:af) (hw:wid x≤1000000000000000000):Ev (fun k=>q13.f k x) (okb x):=by
 simp only[q13.f,ay,okb,leB];refine Ev.bind (Xz x 0 hw (by omega) (by omega)) ?_
 cases jl x 0 with
 |false=>simp only[Bool.false_eq_true,if_false,Bool.false_and];exact Ev.now _
 |true=>
  simp only[if_true,Bool.true_and];exact Ev.bind (F9 x hw) (Ev.now _)
def counted (x:af) (deep:Int):Int:=if jl x deep&&leB (cnt x) 1500 then cnt x else-1
theorem Og: ∀(x:af) (deep:Int),wid x≤1000000000000000000→0≤deep→deep≤1000000000000000000→Ev (fun k=>qg.f k x deep) (counted x deep):=by
 refine dX fun x ih deep hw h0 hd=> ?_
 have hp:=aW x;have hcx:=jh x;unfold counted;rw[qP];refine Ev.shift ?_;simp only[qg.f]
 by_cases a0:60<deep
 ·simp (disch:=omega) only[if_pos,decide_eq_false,Bool.false_and,Bool.false_eq_true,if_false];exact Ev.now _
 simp (disch:=omega) only[if_neg a0,decide_eq_true (show deep≤60 by omega),Bool.true_and]
 by_cases a1:x.ak=1
 ·simp only[if_pos a1];refine Ev.bind (Xy _ (by omega)) ?_
  cases MG x.aG with
  |false=>simp only[Bool.false_eq_true,not_false_eq_true,if_true,if_false,Bool.false_and];exact Ev.now _
  |true=>
   simp only[not_true_eq_false,if_false,Bool.true_and]
   by_cases a2:(x.aG.size:Int)≤40
   ·simp (disch:=omega) only[if_neg,decide_eq_true a2,Bool.true_and]
    by_cases a3:0≤x.aI
    ·simp (disch:=omega) only[if_neg,decide_eq_true a3,Bool.true_and]
     by_cases a4:(x.aj.length:Int)=0
     ·have hk:cnt x=1:=by rw[hcx,List.eq_nil_of_length_eq_zero (by omega:x.aj.length=0)];rfl
      simp (disch:=omega) only[if_neg,decide_eq_true a4,Bool.and_true,hk,PU (show(1:Int)≤1500 by decide)]
      exact KW 1 _ (by omega)
     ·simp (disch:=omega) only[if_pos,decide_eq_false a4,Bool.and_false,Bool.false_and,Bool.false_eq_true,if_false];exact Ev.now _
    ·simp (disch:=omega) only[if_pos,decide_eq_false a3,Bool.false_and,Bool.false_eq_true,if_false];exact Ev.now _
   ·simp (disch:=omega) only[if_pos,decide_eq_false a2,Bool.false_and,Bool.false_eq_true,if_false];exact Ev.now _
 simp only[if_neg a1]
 by_cases a2:x.ak=2
 ·simp only[if_pos a2];refine Ev.bind (F8 _ (by omega)) ?_
  cases rq x.aG with
  |false=>simp only[Bool.false_eq_true,not_false_eq_true,if_true,if_false,Bool.false_and];exact Ev.now _
  |true=>
   simp only[not_true_eq_false,if_false,Bool.true_and]
   by_cases a2:(x.aG.size:Int)≤40
   ·simp (disch:=omega) only[if_neg,decide_eq_true a2,Bool.true_and]
    by_cases a3:x.aI=0
    ·simp only[if_neg (bg a3),decide_eq_true a3,Bool.true_and]
     by_cases a5:(x.aB.length:Int)=0
     ·simp (disch:=omega) only[if_neg,decide_eq_true a5,Bool.true_and]
      by_cases a4:(x.aj.length:Int)=0
      ·have hk:cnt x=1:=by rw[hcx,List.eq_nil_of_length_eq_zero (by omega:x.aj.length=0)];rfl
       simp (disch:=omega) only[if_neg,decide_eq_true a4,Bool.and_true,hk,PU (show(1:Int)≤1500 by decide),if_true]
       exact Ev.now _
      ·simp (disch:=omega) only[if_pos,decide_eq_false a4,Bool.and_false,Bool.false_and,Bool.false_eq_true,if_false];exact Ev.now _
     ·simp (disch:=omega) only[if_pos,decide_eq_false a5,Bool.false_and,Bool.false_eq_true,if_false];exact Ev.now _
    ·simp only[if_pos a3,decide_eq_false a3,Bool.false_and,Bool.false_eq_true,if_false];exact Ev.now _
   ·simp (disch:=omega) only[if_pos,decide_eq_false a2,Bool.false_and,Bool.false_eq_true,if_false];exact Ev.now _
 simp only[if_neg a2];have kids:(decide (x.ak=3)||jJ x.aj)=true→Ev (fun k=>qg.Tu k deep 1 x.aj (x.aj.length:Int) 0) (if pO x.aj (deep+1)&&leB (cnt x) 1500 then cnt x else-1):=by
  intro _;rw[hcx];refine dG x.aj (P:=fun i suf=> ∀n:Int,1≤n→n≤1500→Ev (fun k=>qg.Tu k deep n x.aj (x.aj.length:Int) i) (if pO suf (deep+1)&&leB (n+cnts suf) 1500 then n+cnts suf else-1)) ?_ ?_ 1 (by omega) (by omega)
  ·intro n h1 h2;refine Ev.shift ?_;simp (disch:=omega) only[qg.Tu,if_neg,cnts,Int.add_zero,pO,Bool.true_and,PU h2,if_true];exact Ev.now _
  ·intro i y r h0 h1 hx hm _ _ _ ihr n hn hs;have hy:=bZ hm;have hc:=dm y;have hr:=dQ r;refine Ev.shift ?_;simp (disch:=omega) only[qg.Tu,if_pos,hx,ay,eu,pO,cnts];refine Ev.bind (ih y hm (deep+1) (by omega) (by omega) (by omega)) ?_
   unfold counted
   by_cases b1:jl y (deep+1)=true
   ·by_cases b2:cnt y≤1500
    ·simp (disch:=omega) only[b1,PU b2,Bool.and_self,if_true,if_neg,eu,Bool.true_and]
     by_cases b3:1500<n+cnt y
     ·have: ¬n+(cnt y+cnts r)≤1500:=by omega
      simp only[if_pos b3,UK this,Bool.and_false,Bool.false_eq_true,if_false];exact Ev.now _
     ·simp only[if_neg b3];rw[←Int.add_assoc];exact ihr _ (by omega) (by omega)
    ·have: ¬n+(cnt y+cnts r)≤1500:=by omega
     simp (disch:=decide) only[UK b2,UK this,Bool.and_false,Bool.false_eq_true,if_false,if_pos];exact Ev.now _
   ·simp (disch:=decide) only[Bool.eq_false_iff.2 b1,Bool.false_and,Bool.false_eq_true,if_false,if_pos];exact Ev.now _
 have list: ∀b:Bool,b=(decide (x.ak=3)||decide (x.ak=4))→Ev (fun k=>qg.zD k (qg.f k) (qg.Tu k) deep 1 b x.ak x.aG x.aB x.aI x.aj)
   (if(decide (x.ak=3)||decide (x.ak=4))&&(decide (bytesOf x.aG= [])&&(decide (x.aI=0)&&(decide ((x.aB.length:Int)=0)&&(pO x.aj (deep+1)&&(decide (x.ak=3)||jJ x.aj)))))&&leB (cnt x) 1500 then cnt x else-1):=by
  intro b hb;rw[←hb];simp only[qg.zD,qg.Ir,qg.Vb,lit_eq #[] [] rfl];cases b with
  |false=>simp only[Bool.false_eq_true,if_false,Bool.false_and];exact Ev.now _
  |true=>
   simp only[if_true,Bool.true_and]
   by_cases a3:bytesOf x.aG= []
   ·simp only[if_neg (bg a3),decide_eq_true a3,Bool.true_and]
    by_cases a4:x.aI=0
    ·simp only[if_neg (bg a4),decide_eq_true a4,Bool.true_and]
     by_cases a5:(x.aB.length:Int)=0
     ·simp (disch:=omega) only[if_neg,decide_eq_true a5,Bool.true_and]
      by_cases a6:x.ak=4
      ·have a7: ¬x.ak=3:=by omega
       simp only[if_pos a6,decide_eq_false a7,Bool.false_or]
       by_cases a8:(x.aj.length:Int)<2
       ·have:jJ x.aj=false:=by unfold jJ;rw[decide_eq_false (by omega)];rfl
        simp only[if_pos a8,this,Bool.and_false,Bool.false_and,Bool.false_eq_true,if_false];exact Ev.now _
       ·have a8':2≤(x.aj.length:Int):=by omega
        simp (disch:=omega) only[if_neg a8,if_pos,eu]
        by_cases a9:(aF ah x.aj ((x.aj.length:Int)-1)).ak=1
        ·have:jJ x.aj=true:=by unfold jJ;rw[decide_eq_true a8',decide_eq_true a9];rfl
         simp only[if_neg (bg a9),this,Bool.and_true];exact kids (by rw[this,Bool.or_true])
        ·simp only[if_pos a9]
         by_cases a10:(aF ah x.aj ((x.aj.length:Int)-1)).ak=2
         ·have:jJ x.aj=true:=by unfold jJ;rw[decide_eq_true a8',decide_eq_true a10,Bool.or_true];rfl
          simp only[if_neg (bg a10),this,Bool.and_true];exact kids (by rw[this,Bool.or_true])
         ·have:jJ x.aj=false:=by unfold jJ;rw[decide_eq_false a9,decide_eq_false a10,Bool.and_comm];rfl
          simp only[if_pos a10,this,Bool.and_false,Bool.false_and,Bool.false_eq_true,if_false];exact Ev.now _
      ·have a7:x.ak=3:=by
        simp only[Bool.true_eq,Bool.or_eq_true,decide_eq_true_eq]at hb;omega
       simp only[if_neg a6,decide_eq_true a7,Bool.true_or,Bool.and_true];exact kids (by rw[decide_eq_true a7,Bool.true_or])
     ·simp (disch:=omega) only[if_pos,decide_eq_false a5,Bool.false_and,Bool.false_eq_true,if_false];exact Ev.now _
    ·simp only[if_pos a4,decide_eq_false a4,Bool.false_and,Bool.false_eq_true,if_false];exact Ev.now _
   ·simp only[if_pos a3,decide_eq_false a3,Bool.false_and,Bool.false_eq_true,if_false];exact Ev.now _
 by_cases a3:x.ak=3
 ·simp only[if_pos a3];exact list true (by rw[decide_eq_true a3,Bool.true_or])
 ·simp only[if_neg a3];exact list _ (by rw[decide_eq_false a3,Bool.false_or])
theorem jF (x:af) (hw:wid x≤1000000000000000000):Ev (fun k=>yX.f k x) (okb x):=by
 simp only[yX.f,ay];refine Ev.bind (Og x 0 hw (by omega) (by omega)) ?_
 have:=dm x;unfold counted okb
 by_cases h:(jl x 0&&leB (cnt x) 1500)=true
 ·rw[if_pos h,h,decide_eq_true (by omega)];exact Ev.now _
 ·rw[if_neg h,Bool.eq_false_iff.2 h];exact Ev.now _
def aN (x:af):Bool:=decide (x.ak=1)&&decide (bytesOf x.aG= [46,46,46])
def fE (x:af):Bool:=decide (x.ak=1)&&decide (bytesOf x.aG= [95])
def iV (a b:af):Bool:=decide (a.aG.toList=b.aG.toList)&&decide (a.aB=b.aB)
def inB (l:List af) (p:af):Bool:=l.any fun x=>iV x p
def ru (x:af):Bool:=decide (x.ak=1)&&(okb x&&(!aN x&& !fE x))
def ug (l:List af):Prop:=(l.length:Int)≤1000000000∧ ∀x∈l,wid x≤1000000000
theorem ug.of {l:List af} (h:bG l≤1000000000):ug l:=⟨by have:=dO l;omega,fun x hx=>by have:=bZ hx;omega⟩
theorem gG (x:af):Ev (fun k=>q11.f k x) (aN x):=by
 simp only[q11.f,lit_eq #[46,46,46] [46,46,46] rfl,aN]
 by_cases h:x.ak=1
 ·simp only[h,if_true,decide_true,Bool.true_and];exact Ev.now _
 ·simp only[h,if_false,decide_false,Bool.false_and];exact Ev.now _
theorem xg (x:af):Ev (fun k=>I4.f k x) (fE x):=by
 simp only[I4.f,lit_eq #[95] [95] rfl,fE]
 by_cases h:x.ak=1
 ·simp only[h,if_true,decide_true,Bool.true_and];exact Ev.now _
 ·simp only[h,if_false,decide_false,Bool.false_and];exact Ev.now _
theorem mZ (x:af):Ev (fun k=>Am.f k x (ByteArray.mk #[46,46,46])) (aN x):=by
 simp only[Am.f,lit_eq #[46,46,46] [46,46,46] rfl,aN]
 by_cases h:x.ak=1
 ·simp only[h,if_true,decide_true,Bool.true_and];exact Ev.now _
 ·simp only[h,if_false,decide_false,Bool.false_and];exact Ev.now _
theorem KX (a b:List Int) (hl:(a.length:Int)=(b.length:Int)) (hs:(a.length:Int)≤1000000000) (G:Nat→Int→Option Bool)
  (h0:Ev (fun k=>G k (a.length:Int)) true)
  (h1: ∀i:Int,0≤i→i<(a.length:Int)→ ∀r,(aF 0 a i=aF 0 b i→Ev (fun k=>G k (i+1)) r)→(¬aF 0 a i=aF 0 b i→r=false)→Ev (fun k=>G k i) r):Ev (fun k=>G k 0) (decide (a=b)):=by
 have key:=dG a (P:=fun i suf=>Ev (fun k=>G k i) (decide (suf=b.drop i.toNat))) ?_ ?_
 ·simpa using key
 ·have:b.drop ((a.length:Int)).toNat= []:=List.drop_eq_nil_of_le (by omega)
  rw[this];simpa using h0
 ·intro i x r i0 i1 hx hm hlen hdr _ ih;have hlt:i.toNat<b.length:=by omega
  have hd:b.drop i.toNat=b[i.toNat]::b.drop (i.toNat+1):=List.drop_eq_getElem_cons hlt;have hb:aF 0 b i=b[i.toNat]:=by
   obtain⟨n,rfl⟩:=Int.eq_ofNat_of_zero_le i0;exact g_ 0 b n (by omega)
  have e:(i+1).toNat=i.toNat+1:=by omega
  rw[e]at ih;refine h1 i i0 i1 _ (fun he=> ?_) (fun he=> ?_)
  ·refine Ev.eq ih ?_;rw[hx,hb]at he;rw[hd,←he];simp
  ·rw[hx,hb]at he;refine decide_eq_false fun e=> ?_
   rw[hd]at e;exact he (List.cons.inj e).1
theorem Ry (a b:List Int) (hs:(a.length:Int)≤1000000000):Ev (fun k=>Iu.f k a b) (decide (a=b)):=by
 by_cases hl:(a.length:Int)=(b.length:Int)
 ·simp only[Iu.f,if_neg (bg hl)];refine KX a b hl hs (fun k i=>Iu.l4 k a b (a.length:Int) i) ?_ ?_
  ·refine Ev.shift ?_;simp (disch:=omega) only[Iu.l4,if_neg];exact Ev.now _
  ·intro i i0 i1 r h1 h2;refine Ev.shift ?_;simp (disch:=omega) only[Iu.l4,if_pos,eu]
   by_cases h:aF 0 a i=aF 0 b i
   ·simp only[if_neg (bg h)];exact h1 h
   ·simp only[if_pos h,h2 h];exact Ev.now _
 ·simp only[Iu.f,if_pos hl];rw[decide_eq_false (fun e=>hl (by rw[e]))];exact Ev.now _
theorem Rz (a b:List Int) (hs:(a.length:Int)≤1000000000):Ev (fun k=>Io.f k a b) (decide (a=b)):=by
 by_cases hl:(a.length:Int)=(b.length:Int)
 ·simp only[Io.f,if_neg (bg hl)];refine KX a b hl hs (fun k i=>Io.l4 k a b i) ?_ ?_
  ·refine Ev.shift ?_;simp (disch:=omega) only[Io.l4,if_neg];exact Ev.now _
  ·intro i i0 i1 r h1 h2;refine Ev.shift ?_;simp (disch:=omega) only[Io.l4,if_pos,eu]
   by_cases h:aF 0 a i=aF 0 b i
   ·simp only[if_neg (bg h)];exact h1 h
   ·simp only[if_pos h,h2 h];exact Ev.now _
 ·simp only[Io.f,if_pos hl];rw[decide_eq_false (fun e=>hl (by rw[e]))];exact Ev.now _
theorem F_ (a b:af) (ha:wid a≤1000000000):Ev (fun k=>Qd.f k a b) (iV a b):=by
 have hp:=aW a;simp only[Qd.f,iV]
 by_cases h:a.aG.toList=b.aG.toList
 ·simp only[if_pos h,decide_eq_true h,Bool.true_and];exact Ev.bind (Ry _ _ (by omega)) (Ev.now _)
 ·simp only[if_neg h,decide_eq_false h,Bool.false_and];exact Ev.now _
theorem Gf (a b:af) (ha:wid a≤1000000000) (h1:a.ak=1) (h2:b.ak=1):Ev (fun k=>Qa.f k a b) (iV a b):=by
 have hp:=aW a;simp only[Qa.f,iV,if_pos h1,if_pos h2]
 by_cases h:a.aG.toList=b.aG.toList
 ·simp only[if_pos h,decide_eq_true h,Bool.true_and];exact Ev.bind (Rz _ _ (by omega)) (Ev.now _)
 ·simp only[if_neg h,decide_eq_false h,Bool.false_and];exact Ev.now _
theorem BQ (l:List af) (p:af) (hs:ug l):Ev (fun k=>q1n.f k l p) (inB l p):=by
 obtain⟨hl,hs⟩:=hs;simp only[q1n.f,inB];refine dG l (P:=fun i suf=>Ev (fun k=>q1n.l2 k l (l.length:Int) i p.ak p.aG p.aB p.aI p.aj) (suf.any fun x=>iV x p)) ?_ ?_
 ·refine Ev.shift ?_;simp (disch:=omega) only[q1n.l2,if_neg,List.any_nil];exact Ev.now _
 ·intro i x r i0 i1 hx hm _ _ _ ih;refine Ev.shift ?_;simp (disch:=omega) only[q1n.l2,if_pos,eu,hx,ay,aJ,List.any_cons];refine Ev.bind (F_ x p (hs x hm)) ?_;cases iV x p with
  |true=>simp only[if_true,Bool.true_or];exact Ev.now _
  |false=>simp only[Bool.false_eq_true,if_false,Bool.false_or];exact ih
theorem pq (l:List af) (p:af) (hs:ug l) (h1: ∀x∈l,x.ak=1) (h2:p.ak=1):Ev (fun k=>xG.f k l p) (inB l p):=by
 obtain⟨hl,hs⟩:=hs;simp only[xG.f,inB];refine dG l (P:=fun i suf=>Ev (fun k=>xG.l2 k l i p.ak p.aG p.aB p.aI p.aj) (suf.any fun x=>iV x p)) ?_ ?_
 ·refine Ev.shift ?_;simp (disch:=omega) only[xG.l2,if_neg,List.any_nil];exact Ev.now _
 ·intro i x r i0 i1 hx hm _ _ _ ih;refine Ev.shift ?_;simp (disch:=omega) only[xG.l2,if_pos,eu,hx,ay,aJ,List.any_cons];refine Ev.bind (Gf x p (hs x hm) (h1 x hm) h2) ?_;cases iV x p with
  |true=>simp only[if_true,Bool.true_or];exact Ev.now _
  |false=>simp only[Bool.false_eq_true,if_false,Bool.false_or];exact ih
theorem RD (l:List af) (hs:ug l):Ev (fun k=>Jb.f k l) (l.all ru):=by
 obtain⟨hl,hs⟩:=hs;simp only[Jb.f];refine dG l (P:=fun i suf=>Ev (fun k=>Jb.l2 k l (l.length:Int) i) (suf.all ru)) ?_ ?_
 ·refine Ev.shift ?_;simp (disch:=omega) only[Jb.l2,if_neg,List.all_nil];exact Ev.now _
 ·intro i x r i0 i1 hx hm _ _ _ ih;refine Ev.shift ?_;simp (disch:=omega) only[Jb.l2,if_pos,eu,hx,ay,List.all_cons,ru,aN,fE,lit_eq #[46,46,46] [46,46,46] rfl,lit_eq #[95] [95] rfl]
  by_cases h:x.ak=1
  ·simp only[if_neg (bg h),decide_eq_true h,Bool.true_and];refine Ev.bind (jF x (by have:=hs x hm;omega)) ?_
   cases okb x with
   |false=>simp only[Bool.false_eq_true,not_false_eq_true,if_true,Bool.false_and];exact Ev.now _
   |true=>
    simp only[not_true_eq_false,if_false,Bool.true_and]
    by_cases h3:bytesOf x.aG= [46,46,46]
    ·simp only[if_pos h3,decide_eq_true h3,Bool.not_true,Bool.false_and];exact Ev.now _
    simp only[if_neg h3,decide_eq_false h3,Bool.not_false,Bool.true_and]
    by_cases h4:bytesOf x.aG= [95]
    ·simp only[if_pos h4,decide_eq_true h4,Bool.not_true,Bool.false_and];exact Ev.now _
    simp only[if_neg h4,decide_eq_false h4,Bool.not_false,Bool.true_and];exact ih
  ·simp only[if_pos h,decide_eq_false h,Bool.false_and];exact Ev.now _
theorem Gg (l:List af) (hs:ug l):Ev (fun k=>EM.f k l) (l.all ru):=by
 obtain⟨hl,hs⟩:=hs;simp only[EM.f];refine dG l (P:=fun i suf=>Ev (fun k=>EM.l2 k l i) (suf.all ru)) ?_ ?_
 ·refine Ev.shift ?_;simp (disch:=omega) only[EM.l2,if_neg,List.all_nil];exact Ev.now _
 ·intro i x r i0 i1 hx hm _ _ _ ih;refine Ev.shift ?_;simp (disch:=omega) only[EM.l2,if_pos,eu,hx,ay,List.all_cons,ru];refine Ev.bind (iL x (by have:=hs x hm;omega)) ?_
  cases okb x with
  |false=>simp only[Bool.false_eq_true,not_false_eq_true,if_true,Bool.false_and,Bool.and_false];exact Ev.now _
  |true=>
   simp only[not_true_eq_false,if_false,Bool.true_and]
   by_cases h:x.ak=1
   ·simp only[if_neg (bg h),decide_eq_true h,Bool.true_and];refine Ev.bind (gG x) ?_;cases aN x with
    |true=>simp only[if_true,Bool.not_true,Bool.false_and];exact Ev.now _
    |false=>
     simp only[Bool.false_eq_true,if_false,Bool.not_false,Bool.true_and];refine Ev.bind (xg x) ?_;cases fE x with
     |true=>simp only[if_true,Bool.not_true,Bool.false_and];exact Ev.now _
     |false=>simp only[Bool.false_eq_true,if_false,Bool.not_false,Bool.true_and];exact ih
   ·simp only[if_pos h,decide_eq_false h,Bool.false_and];exact Ev.now _
mutual
def dV (lits:List af):af→List af
 |⟨a,t,sc,d,ks⟩=>if a=1 then(if aN ⟨a,t,sc,d,ks⟩||fE ⟨a,t,sc,d,ks⟩||inB lits ⟨a,t,sc,d,ks⟩ then [] else [⟨a,t,sc,d,ks⟩]) else dY lits ks
def dY (lits:List af):List af→List af
 | []=> []
 |x::l=>dV lits x++dY lits l
end
theorem iQ (lits:List af) (x:af):dV lits x=if x.ak=1 then(if aN x||fE x||inB lits x then [] else [x]) else dY lits x.aj:=by cases x;simp only[dV]
theorem fF (lits:List af): ∀x,((dV lits x).length:Int)≤wid x∧ ∀y∈dV lits x,y.ak=1∧wid y≤wid x:=by
 refine dX fun x ih=> ?_
 have hp:=aW x;have key: ∀l:List af,(∀y∈l,((dV lits y).length:Int)≤wid y∧ ∀z∈dV lits y,z.ak=1∧wid z≤wid y)→((dY lits l).length:Int)≤bG l∧ ∀z∈dY lits l,z.ak=1∧wid z≤bG l:=by
  intro l
  induction l with
  |nil=>intro _;exact⟨by simp[dY,bG],fun z hz=>by cases hz⟩
  |cons y l ihl=>
   intro h;obtain⟨a1,a2⟩:=h y (by simp)
   obtain⟨b1,b2⟩:=ihl fun z hz=>h z (List.mem_cons_of_mem _ hz)
   have:=lY y;have:=(dO l).1;simp only[dY,bG,List.length_append];refine⟨by omega,fun z hz=> ?_⟩
   rcases List.mem_append.1 hz with hz|hz
   ·exact⟨(a2 z hz).1,by have:=(a2 z hz).2;omega⟩
   ·exact⟨(b2 z hz).1,by have:=(b2 z hz).2;omega⟩
 obtain⟨b1,b2⟩:=key x.aj ih;rw[iQ]
 by_cases h:x.ak=1
 ·rw[if_pos h]
  split
  ·exact⟨by simp;omega,fun y hy=>by cases hy⟩
  ·refine⟨by simp;omega,fun y hy=> ?_⟩
   rw[List.mem_singleton.1 hy];exact⟨h,Int.le_refl _⟩
 ·rw[if_neg h];exact⟨by omega,fun y hy=>⟨(b2 y hy).1,by have:=(b2 y hy).2;omega⟩⟩
theorem xk (lits:List af) (l:List af):((dY lits l).length:Int)≤bG l∧ ∀y∈dY lits l,y.ak=1∧wid y≤bG l:=by
 induction l with
 |nil=>exact⟨by simp[dY,bG],fun z hz=>by cases hz⟩
 |cons y l ih=>
  obtain⟨a1,a2⟩:=fF lits y;obtain⟨b1,b2⟩:=ih;have:=lY y;have:=(dO l).1;simp only[dY,bG,List.length_append];refine⟨by omega,fun z hz=> ?_⟩
  rcases List.mem_append.1 hz with hz|hz
  ·exact⟨(a2 z hz).1,by have:=(a2 z hz).2;omega⟩
  ·exact⟨(b2 z hz).1,by have:=(b2 z hz).2;omega⟩
def fO:List af→List af→Bool
 |_,[]=>true
 |seen,x::l=> !inB seen x&&fO (seen++ [x]) l
theorem lZ (a b:List af): ∀s,fO s (a++b)=(fO s a&&fO (s++a) b):=by
 induction a with
 |nil=>intro s;simp[fO]
 |cons x a ih=>
  intro s;simp only[List.cons_append,fO,ih,List.append_assoc,Bool.and_assoc,List.nil_append]
def bM:List af→Int
 | []=>0
 |x::l=>(if aN x then 1 else 0)+bM l
theorem jr (l:List af):0≤bM l∧bM l≤(l.length:Int):=by
 induction l with
 |nil=>simp[bM]
 |cons x l ih=>simp only[bM,List.length_cons];split<;>omega
def aS:List af→Bool
 | []=>false
 |x::_=>aN x
def partsOf (x:af):List af:=if x.ak=4 then x.aj.take (x.aj.length-1) else x.aj
def lastOf (x:af):af:=aF ah x.aj ((x.aj.length:Int)-1)
def Je (n:Int):Bool:=decide (1<n)
mutual
def l9:af→Bool
 |⟨a,t,sc,d,ks⟩=>if a=1∨a=2 then true else(!aS (partsOf ⟨a,t,sc,d,ks⟩)&& !Je (bM (partsOf ⟨a,t,sc,d,ks⟩)))&&((!decide (a=4)|| !aN (lastOf ⟨a,t,sc,d,ks⟩))&&jv ks)
def jv:List af→Bool
 | []=>true
 |x::l=>l9 x&&jv l
end
theorem oK (x:af):l9 x=if x.ak=1∨x.ak=2 then true else(!aS (partsOf x)&& !Je (bM (partsOf x)))&&((!decide (x.ak=4)|| !aN (lastOf x))&&jv x.aj):=by cases x;simp only[l9]
theorem IC (a b:List af):jv (a++b)=(jv a&&jv b):=by
 induction a with
 |nil=>simp[jv]
 |cons x a ih=>simp only[List.cons_append,jv,ih,Bool.and_assoc]
theorem Aw (lits a b:List af):dY lits (a++b)=dY lits a++dY lits b:=by
 induction a with
 |nil=>simp[dY]
 |cons x a ih=>simp only[List.cons_append,dY,ih,List.append_assoc]
theorem ry {l:List af} (h:1≤(l.length:Int)):l.take (l.length-1)++ [aF ah l ((l.length:Int)-1)]=l:=by
 have e:aF ah l ((l.length:Int)-1)=l[l.length-1]'(by omega):=by
  rw[show(l.length:Int)-1=((l.length-1:Nat):Int) by omega]
  exact g_ _ _ _ (by omega)
 rw[e,List.take_append_getElem (by omega)]
 exact List.take_of_length_le (by omega)
theorem bU {x:af} {d:Int} (h:jl x d=true):(x.ak=1∧x.aj= [])∨(x.ak=2∧x.aj= [])∨((x.ak=3∨(x.ak=4∧2≤(x.aj.length:Int)))∧pO x.aj (d+1)=true):=by
 rw[qP]at h;simp only[Bool.and_eq_true]at h;obtain⟨_,h⟩:=h
 by_cases h1:x.ak=1
 ·rw[if_pos h1]at h;simp only[Bool.and_eq_true,decide_eq_true_eq]at h;exact .inl ⟨h1,List.eq_nil_of_length_eq_zero (by omega)⟩
 rw[if_neg h1]at h
 by_cases h2:x.ak=2
 ·rw[if_pos h2]at h;simp only[Bool.and_eq_true,decide_eq_true_eq]at h;exact .inr (.inl ⟨h2,List.eq_nil_of_length_eq_zero (by omega)⟩)
 rw[if_neg h2]at h;simp only[Bool.and_eq_true,Bool.or_eq_true,decide_eq_true_eq]at h;obtain⟨h3,_,_,_,h4,h5⟩:=h;refine .inr (.inr ⟨?_,h4⟩);rcases h3 with h3|h3
 ·exact .inl h3
 ·refine .inr ⟨h3,?_⟩;rcases h5 with h5|h5
  ·omega
  ·unfold jJ at h5;simp only[Bool.and_eq_true,decide_eq_true_eq]at h5;exact h5.1
theorem gI {l:List af} {d:Int} (h:pO l d=true): ∀x∈l,jl x d=true:=by
 induction l with
 |nil=>intro x hx;cases hx
 |cons y l ih=>
  simp only[pO,Bool.and_eq_true]at h;intro x hx;rcases List.mem_cons.1 hx with rfl|hx
  ·exact h.1
  ·exact ih h.2 x hx
theorem ug.snoc {l m:List af} (h:ug l) (hm: ∀x∈m,wid x≤1000000000) (hl:(l.length:Int)+(m.length:Int)≤1000000000):ug (l++m):=
 ⟨by rw[List.length_append];omega,fun x hx=>(List.mem_append.1 hx).elim (h.2 x) (hm x)⟩
theorem pz (x:af) (hw:wid x≤1000000000) (h:x.ak=3∨(x.ak=4∧2≤(x.aj.length:Int))):Ev (fun k=>BL.f k x) (partsOf x,if x.ak=4 then some (lastOf x) else none):=by
 have hp:=aW x;simp only[BL.f];rcases h with h|⟨h,h2⟩
 ·have n4: ¬x.ak=4:=by omega
  simp only[if_pos h,partsOf,if_neg n4];exact Ev.now _
 ·have n3: ¬x.ak=3:=by omega
  simp (disch:=omega) only[if_neg n3,if_pos h,if_pos,eu,List.drop_zero,ay,partsOf,lastOf];refine Ev.eq (Ev.now _) ?_;rw[show((x.aj.length:Int)-1).toNat=x.aj.length-1 by omega]
  rfl
def qG (lits:List af) (e:Option af) (b:Bool) (ns:List af):List af×Bool×List af:=
 match e with
 |none=>(lits,b,ns)
 |some e=>(lits,b||(aN e||(!l9 e|| !fO ns (dV lits e))),ns++dV lits e)
theorem XA (a:List af) (z y:af):(a++ [z]).set ((a.length:Int).toNat) y=a++ [y]:=by
 simp
theorem RF (lits:List af) (zI:ug lits): ∀(p:af) (d:Int),jl p d=true→ ∀(bad:Bool) (ns:List af),ug ns→wid p≤100000000→(ns.length:Int)+wid p≤1000000000→
  Ev (fun k=>qj.f k p lits bad ns) (lits,bad||(!l9 p|| !fO ns (dV lits p)),ns++dV lits p):=by
 refine dX fun p ih d hok bad ns hns hwp hsum=> ?_
 have hp:=aW p;have hpos:=lY p;refine Ev.shift ?_;simp only[qj.f,lit_eq #[46,46,46] [46,46,46] rfl,lit_eq #[95] [95] rfl,ay];rcases bU hok with⟨h1,hk⟩|⟨h2,hk⟩|⟨Vr,hks⟩
 ·rw[oK,if_pos (Or.inl h1),iQ,if_pos h1];simp only[if_pos h1,Bool.not_true,Bool.false_or]
  by_cases a1:bytesOf p.aG= [46,46,46]
  ·have:aN p=true:=by unfold aN;rw[decide_eq_true h1,decide_eq_true a1];rfl
   simp only[if_pos a1,this,Bool.true_or,if_true,fO,Bool.not_true,Bool.or_false,List.append_nil];exact Ev.now _
  have d1:aN p=false:=by unfold aN;rw[decide_eq_false a1,Bool.and_false]
  by_cases a2:bytesOf p.aG= [95]
  ·have:fE p=true:=by unfold fE;rw[decide_eq_true h1,decide_eq_true a2];rfl
   simp only[if_neg a1,if_pos a2,this,Bool.true_or,Bool.or_true,if_true,fO,Bool.not_true,Bool.or_false,List.append_nil];exact Ev.now _
  have d2:fE p=false:=by unfold fE;rw[decide_eq_false a2,Bool.and_false]
  simp only[if_neg a1,if_neg a2,d1,d2,Bool.false_or];refine Ev.bind (BQ lits p zI) ?_;cases inB lits p with
  |true=>simp only[if_true,fO,Bool.not_true,Bool.or_false,List.append_nil];exact Ev.now _
  |false=>
   have fin: ∀b:Bool,Ev (fun k=>qj.d5 k lits b p.ak p.aG p.aB p.aI p.aj ns) (lits,b,ns++ [p]):=by
    intro b;simp (disch:=first|omega|(simp;omega)) only[qj.d5,if_pos,XA,aJ]
    exact Ev.now _
   simp only[Bool.false_eq_true,if_false,qj.j4,aJ,fO,Bool.and_true,Bool.not_not];cases bad with
   |true=>simp only[if_true,Bool.true_or];exact fin true
   |false=>
    simp only[Bool.false_eq_true,if_false,Bool.false_or];exact Ev.bind (BQ ns p hns) (fin _)
 ·rw[oK,if_pos (Or.inr h2),iQ,if_neg (by omega),hk]
  have n1: ¬p.ak=1:=by omega
  have n3: ¬p.ak=3:=by omega
  have n4: ¬p.ak=4:=by omega
  simp only[if_neg n1,if_neg n3,decide_eq_false n4,qj.Rt,Bool.false_eq_true,if_false,dY,fO,Bool.not_true,Bool.or_false,List.append_nil];exact Ev.now _
 ·have n1: ¬p.ak=1:=by rcases Vr with h|h<;>omega
  have n2: ¬p.ak=2:=by rcases Vr with h|h<;>omega
  have hkids:=gI hks;have hparts: ∀y∈partsOf p,y∈p.aj:=by
   intro y hy;unfold partsOf at hy
   split at hy
   ·exact List.mem_of_mem_take hy
   ·exact hy
  have abq:bG (partsOf p)≤bG p.aj:=by
   unfold partsOf
   split
   ·exact oJ _ _
   ·exact Int.le_refl _
  have hlp:=(dO (partsOf p)).2;have acF: ∀(b:Bool) (ns':List af),ug ns'→(ns'.length:Int)+(wid p-bG (partsOf p))≤1000000000→Ev (fun k=>qj.Bq k (qj.f k) (qj.t_ k) (if p.ak=4 then some (lastOf p) else none) lits b ns') (qG lits (if p.ak=4 then some (lastOf p) else none) b ns'):=by
   intro b ns' acG adn
   by_cases h4:p.ak=4
   ·have h2k:2≤(p.aj.length:Int):=by rcases Vr with h|h<;>omega
    have hmem:lastOf p∈p.aj:=dF _ _ _ (by omega) (by omega)
    have hwl:=bZ hmem;have hwe:bG p.aj=bG (partsOf p)+wid (lastOf p):=by
     have e:p.aj=partsOf p++ [lastOf p]:=by
      unfold partsOf lastOf;rw[if_pos h4];exact(ry (by omega)).symm
     have:=dh (partsOf p) [lastOf p];rw[←e]at this
     rwa [iD]at this
    have hl:=fun b=>ih (lastOf p) hmem (d+1) (hkids _ hmem) b ns' acG (by omega) (by omega)
    simp only[if_pos h4,qj.Bq,Option.isSome_some,if_true,Option.bind_some,ay,qG];cases b with
    |true=>simp only[if_true];exact Ev.bind (hl true) (by simp only[Bool.true_or];exact Ev.now _)
    |false=>
     simp only[Bool.false_eq_true,if_false,Bool.false_or];exact Ev.bind (mZ _) (Ev.bind (hl _) (Ev.now _))
   ·simp only[if_neg h4,qj.Bq,Option.isSome_none,Bool.false_eq_true,if_false,qG];exact Ev.now _
  have loop: ∀(b0:Bool),Ev (fun k=>qj.t_ k (if p.ak=4 then some (lastOf p) else none) 0 (partsOf p) ((partsOf p).length:Int) 0 lits b0 ns)
    (qG lits (if p.ak=4 then some (lastOf p) else none) (b0||(aS (partsOf p)||(!jv (partsOf p)||(!fO ns (dY lits (partsOf p))||Je (bM (partsOf p)))))) (ns++dY lits (partsOf p))):=by
   intro b0;have key:=dG (partsOf p) (P:=fun i suf=> ∀(n:Int) (b:Bool) (ns':List af),0≤n→n≤i→ug ns'→(ns'.length:Int)+bG suf+(wid p-bG (partsOf p))≤1000000000→
    Ev (fun k=>qj.t_ k (if p.ak=4 then some (lastOf p) else none) n (partsOf p) ((partsOf p).length:Int) i lits b ns')
    (qG lits (if p.ak=4 then some (lastOf p) else none) (b||((decide (i=0)&&aS suf)||(!jv suf||(!fO ns' (dY lits suf)||Je (n+bM suf))))) (ns'++dY lits suf))) ?_ ?_ 0 b0 ns (by omega) (by omega) hns (by omega)
   ·simpa using key
   ·intro n b ns' h0 h1 hs hsm;refine Ev.shift ?_;simp only[bG]at hsm;simp (disch:=omega) only[qj.t_,if_neg,aS,Bool.and_false,jv,Bool.not_true,dY,fO,bM,Int.add_zero,Bool.false_or,List.append_nil];have e:=acF (b||Je n) ns' hs (by omega)
    cases b with
    |true=>simp only[if_true,Bool.true_or]at e⊢;exact e
    |false=>simp only[Bool.false_eq_true,if_false,Bool.false_or]at e⊢;exact e
   ·intro i y r i0 i1 hx hm hlen _ _ ihr n b ns' h0 h1 hs hsm;have hym:=hparts y hm;have hwy:=bZ hym;have hwr:=(dO r).1;have aea:=lY y;simp only[bG]at hsm;obtain⟨f1,f2⟩:=fF lits y;have hl:=fun b=>ih y hym (d+1) (hkids y hym) b ns' hs (by omega) (by omega)
    have hs':ug (ns'++dV lits y):=hs.snoc (fun z hz=>by have:=(f2 z hz).2;omega) (by omega)
    have hln:((ns'++dV lits y).length:Int)+bG r+(wid p-bG (partsOf p))≤1000000000:=by rw[List.length_append];omega
    have ne: ¬(i+1=0):=by omega
    refine Ev.shift ?_;simp (disch:=omega) only[qj.t_,if_pos,hx,ay,eu];refine Ev.bind (mZ y) ?_;have nx:=fun n b h0 h1=>ihr n b (ns'++dV lits y) h0 h1 hs' hln
    simp only[decide_eq_false ne,Bool.false_and,Bool.false_or,List.append_assoc]at nx;have cons:dV lits y++dY lits r=dY lits (y::r):=rfl;simp only[cons]at nx;cases hdy:aN y with
    |true=>
     have dn:bM (y::r)=1+bM r:=by simp only[bM,hdy,if_true]
     simp only[if_true,aS,hdy,Bool.and_true];have e1:Je (n+1+bM r)=Je (n+bM (y::r)):=by rw[dn,Int.add_assoc]
     cases b with
     |true=>
      simp only[if_true];refine Ev.bind (hl true) ?_;refine Ev.eq (nx (n+1) _ (by omega) (by omega)) ?_
      simp only[Bool.true_or]
     |false=>
      simp only[Bool.false_eq_true,if_false,Bool.false_or];refine Ev.bind (hl _) ?_;refine Ev.eq (nx (n+1) _ (by omega) (by omega)) ?_
      rw[e1]
      congr 1
      simp only[jv,dY,lZ,Bool.not_and];cases decide (i=0)<;>cases l9 y<;>cases fO ns' (dV lits y)<;>simp
    |false=>
     have dn:bM (y::r)=bM r:=by simp[bM,hdy]
     simp only[Bool.false_eq_true,if_false,aS,hdy,Bool.and_false,Bool.false_or];refine Ev.bind (hl b) ?_;refine Ev.eq (nx n _ (by omega) (by omega)) ?_
     rw[dn]
     congr 1
     simp only[jv,dY,lZ,Bool.not_and];cases b<;>cases l9 y<;>cases fO ns' (dV lits y)<;>simp
  have whole:qG lits (if p.ak=4 then some (lastOf p) else none) (bad||(aS (partsOf p)||(!jv (partsOf p)||(!fO ns (dY lits (partsOf p))||Je (bM (partsOf p)))))) (ns++dY lits (partsOf p))=(lits,bad||(!l9 p|| !fO ns (dV lits p)),ns++dV lits p):=by
   have n12: ¬(p.ak=1∨p.ak=2):=fun h=>h.elim n1 n2
   rw[oK,if_neg n12,iQ,if_neg n1]
   by_cases h4:p.ak=4
   ·have h2k:2≤(p.aj.length:Int):=by rcases Vr with h|h<;>omega
    have hk:p.aj=partsOf p++ [lastOf p]:=by
     unfold partsOf lastOf;rw[if_pos h4];exact(ry (by omega)).symm
    have e1:dY lits p.aj=dY lits (partsOf p)++dV lits (lastOf p):=by
     conv=>lhs;rw[hk]
     rw[Aw];simp[dY]
    have e2:jv p.aj=(jv (partsOf p)&&l9 (lastOf p)):=by
     conv=>lhs;rw[hk]
     rw[IC];simp[jv]
    simp only[if_pos h4,qG,decide_eq_true h4,e1,e2,lZ,Bool.not_true,Bool.false_or,List.append_assoc]
    congr 2
    cases bad<;>cases aS (partsOf p)<;>cases Je (bM (partsOf p))<;>cases aN (lastOf p)<;>cases jv (partsOf p)<;>cases l9 (lastOf p)<;>cases fO ns (dY lits (partsOf p))<;>simp
   ·have hk:partsOf p=p.aj:=by unfold partsOf;rw[if_neg h4]
    simp only[if_neg h4,qG,decide_eq_false h4,hk,Bool.not_false,Bool.true_or,Bool.true_and]
    congr 2
    cases bad<;>cases aS p.aj<;>cases Je (bM p.aj)<;>cases jv p.aj<;>cases fO ns (dY lits p.aj)<;>simp
  have go:Ev (fun k=>qj.Rt k (qj.f k) (qj.t_ k) true lits bad p.ak p.aG p.aB p.aI p.aj ns) (lits,bad||(!l9 p|| !fO ns (dV lits p)),ns++dV lits p):=by
   simp only[qj.Rt,if_true,aJ];refine Ev.bind (pz p (by omega) Vr) ?_
   rw[←whole];exact loop bad
  by_cases h3:p.ak=3
  ·simp only[if_neg n1,if_pos h3];exact go
  ·have h4:p.ak=4:=by rcases Vr with h|h<;>omega
   simp only[if_neg n1,if_neg h3,decide_eq_true h4];exact go
theorem pF (x:af) (hw:wid x≤1000000000) (h:x.ak=3∨(x.ak=4∧2≤(x.aj.length:Int))):Ev (fun k=>wS.f k x) (partsOf x):=by
 have hp:=aW x;simp only[wS.f,partsOf];rcases h with h|⟨h,h2⟩
 ·have n4: ¬x.ak=4:=by omega
  simp only[if_neg n4];exact Ev.now _
 ·simp (disch:=omega) only[if_pos h,if_pos,eu,List.drop_zero];refine Ev.eq (Ev.now _) ?_;rw[show((x.aj.length:Int)-1).toNat=x.aj.length-1 by omega]
theorem KY (x:af) (hw:wid x≤1000000000) (h:x.ak=3∨(x.ak=4∧2≤(x.aj.length:Int))):aH (fun k=>q16.f k x) (fun r=>(decide (r= -2))=(aS (partsOf x)||Je (bM (partsOf x)))):=by
 simp only[q16.f,ay];refine aH.bind (aH.of (pF x hw h) (P:=fun r=>r=partsOf x) rfl) fun r hr=> ?_
 subst hr;have hwp:((partsOf x).length:Int)≤1000000000:=by
  have hp:=aW x;unfold partsOf;split
  ·rw[List.length_take];omega
  ·omega
 refine(dG (partsOf x) (P:=fun i suf=> ∀(at_ n:Int),0≤n→ -1≤at_→at_≤i→(0≤at_↔0<n)→aH (fun k=>q16.l4 k at_ (partsOf x) i) (fun r=>(decide (r= -2))=((decide (i=0)&&aS suf)||(Je (n+bM suf)&&(decide (0<bM suf)))))) ?_ ?_ (-1) 0 (by omega) (by omega) (by omega) (by omega)).mono ?_
 ·intro at_ n h0 h1 h2 h3;refine aH.shift ?_;simp (disch:=omega) only[q16.l4,if_neg];refine aH.now ?_;rw[decide_eq_false (by omega)]
  simp[aS,bM]
 ·intro i y r i0 i1 hx hm hlen _ _ ih at_ n h0 h1 h2 h3;have hdr:=jr r;refine aH.shift ?_;simp (disch:=omega) only[q16.l4,if_pos,hx,ay,eu];refine aH.bind (aH.of (gG y) (P:=fun r=>r=aN y) rfl) fun b hb=> ?_
  subst hb;cases hdy:aN y with
  |true=>
   simp only[if_true,aS,hdy,Bool.and_true];have dn:bM (y::r)=1+bM r:=by simp only[bM,hdy,if_true]
   by_cases ha:0≤at_
   ·simp only[if_pos ha];refine aH.now ?_;rw[dn,decide_eq_true (rfl:(-2:Int)= -2),show Je (n+(1+bM r))=true from decide_eq_true (by have:=h3.1 ha;omega),decide_eq_true (show 0<1+bM r by omega)]
    simp
   ·simp only[if_neg ha]
    by_cases hi:i=0
    ·simp only[if_pos hi];refine aH.now ?_;simp[hi]
    ·simp only[if_neg hi];refine(ih (i-1) (n+1) (by omega) (by omega) (by omega) (by omega)).mono fun s hs=> ?_
     have hn:n=0:=by omega
     subst hn;rw[hs,dn,decide_eq_false hi,decide_eq_false (show¬i+1=0 by omega)]
     simp only[Bool.false_and,Bool.false_or];unfold Je;rw[Bool.eq_iff_iff];simp;omega
  |false=>
   have dn:bM (y::r)=bM r:=by simp[bM,hdy]
   simp only[Bool.false_eq_true,if_false,aS,hdy,Bool.and_false,Bool.false_or,dn];refine(ih at_ n h0 h1 (by omega) h3).mono fun s hs=> ?_
   rw[hs,decide_eq_false (show¬i+1=0 by omega)]
   simp
 ·intro r hr;rw[hr];have:=jr (partsOf x);simp only[decide_true,Bool.true_and,Int.zero_add]
  congr 1
  unfold Je;rw[Bool.eq_iff_iff];simp only[Bool.and_eq_true,decide_eq_true_eq];omega
theorem D5 {x:af} (h: ¬x.ak=1):aN x=false:=by unfold aN;rw[decide_eq_false h];rfl
theorem Oh: ∀(p:af) (d:Int),jl p d=true→wid p≤1000000000→Ev (fun k=>qs.f k p) (!aN p&&l9 p):=by
 refine dX fun p ih d hok hw=> ?_
 have hp:=aW p;refine Ev.shift ?_;simp only[qs.f,ay];rcases bU hok with⟨h1,hk⟩|⟨h2,hk⟩|⟨Vr,hks⟩
 ·rw[oK,if_pos (Or.inl h1)];simp only[if_pos h1];refine Ev.bind (gG p) ?_;cases aN p<;>exact Ev.now _
 ·rw[oK,if_pos (Or.inr h2),D5 (by omega)]
  have n1: ¬p.ak=1:=by omega
  simp only[if_neg n1,if_pos h2];exact Ev.now _
 ·have n1: ¬p.ak=1:=by rcases Vr with h|h<;>omega
  have n2: ¬p.ak=2:=by rcases Vr with h|h<;>omega
  have hkids:=gI hks;rw[oK,if_neg (by omega),D5 n1]
  simp only[if_neg n1,if_neg n2,Bool.not_false,Bool.true_and];obtain⟨r,hr,e⟩:=KY p hw Vr;refine Ev.bind e ?_;have kids:Ev (fun k=>qs.uP k (qs.f k) (qs.l8 k) p.aj) (jv p.aj):=by
   simp only[qs.uP];refine dG p.aj (P:=fun i suf=>Ev (fun k=>qs.l8 k i p.aj) (jv suf)) ?_ ?_
   ·refine Ev.shift ?_;simp (disch:=omega) only[qs.l8,if_neg,jv];exact Ev.now _
   ·intro i y r i0 i1 hx hm _ _ _ ihr;have hy:=bZ hm;refine Ev.shift ?_;simp (disch:=omega) only[qs.l8,if_pos,hx,ay,eu,jv];refine Ev.bind (gG y) ?_;cases hdy:aN y with
    |true=>
     have:l9 y=true:=by
      rw[oK,if_pos (Or.inl ?_)];unfold aN at hdy;simp only[Bool.and_eq_true,decide_eq_true_eq]at hdy;exact hdy.1
     simp only[not_true_eq_false,if_false,this,Bool.true_and];exact ihr
    |false=>
     simp only[Bool.false_eq_true,not_false_eq_true,if_true];refine Ev.bind (ih y hm (d+1) (hkids y hm) (by omega)) ?_
     rw[hdy];cases l9 y with
     |true=>simp only[Bool.not_false,Bool.and_self,not_true_eq_false,if_false,Bool.true_and];exact ihr
     |false=>simp only[Bool.and_false,Bool.false_eq_true,not_false_eq_true,if_true,Bool.false_and];exact Ev.now _
  by_cases hm2:r= -2
  ·have:(aS (partsOf p)||Je (bM (partsOf p)))=true:=by rw[←hr];exact decide_eq_true hm2
   simp only[if_pos hm2];refine Ev.eq (Ev.now _) ?_;rw[←Bool.not_or,this];rfl
  ·have:(aS (partsOf p)||Je (bM (partsOf p)))=false:=by rw[←hr];exact decide_eq_false hm2
   simp only[if_neg hm2];rw[←Bool.not_or,this];simp only[Bool.not_false,Bool.true_and]
   by_cases h4:p.ak=4
   ·have h2k:2≤(p.aj.length:Int):=by rcases Vr with h|h<;>omega
    simp (disch:=omega) only[if_pos h4,if_pos,eu,decide_eq_true h4,Bool.not_true,Bool.false_or];refine Ev.bind (gG _) ?_;show Ev _ (!aN (lastOf p)&&jv p.aj);show Ev (fun k=>if aN (lastOf p)=true then some false else qs.uP k (qs.f k) (qs.l8 k) p.aj) _
    cases aN (lastOf p) with
    |true=>simp only[if_true,Bool.not_true,Bool.false_and];exact Ev.now _
    |false=>simp only[Bool.false_eq_true,if_false,Bool.not_false,Bool.true_and];exact kids
   ·simp only[if_neg h4,decide_eq_false h4,Bool.not_false,Bool.true_or,Bool.true_and];exact kids
theorem pG (lits:List af) (zI:ug lits) (hl1: ∀x∈lits,x.ak=1): ∀(p:af),wid p≤1000000000→Ev (fun k=>uQ.f k p lits) (dV lits p):=by
 refine dX fun p ih hw=> ?_
 have hp:=aW p;refine Ev.shift ?_;rw[iQ];simp only[uQ.f,ay]
 by_cases h1:p.ak=1
 ·simp only[if_pos h1];refine Ev.bind (gG p) ?_;cases aN p with
  |true=>simp only[not_true_eq_false,if_false,Bool.true_or,if_true];exact Ev.now _
  |false=>
   simp only[Bool.false_eq_true,not_false_eq_true,if_true,Bool.false_or];refine Ev.bind (xg p) ?_;cases fE p with
   |true=>simp only[not_true_eq_false,if_false,Bool.true_or,if_true];exact Ev.now _
   |false=>
    simp only[Bool.false_eq_true,not_false_eq_true,if_true,Bool.false_or];refine Ev.bind (pq lits p zI hl1 h1) ?_;cases inB lits p with
    |true=>simp only[not_true_eq_false,if_false,if_true];exact Ev.now _
    |false=>
     simp (disch:=first|omega|(simp;omega)) only[Bool.false_eq_true,not_false_eq_true,if_true,if_false,if_pos,List.nil_append]
     exact Ev.now _
 ·simp only[if_neg h1];refine dG p.aj (P:=fun i suf=> ∀out:List af,(out.length:Int)+bG suf≤1000000000→Ev (fun k=>uQ.l7 k lits i p.aj out) (out++dY lits suf)) ?_ ?_ [] (by simp;omega)
  ·intro out ho;refine Ev.shift ?_;simp (disch:=omega) only[uQ.l7,if_neg,dY,List.append_nil];exact Ev.now _
  ·intro i y r i0 i1 hx hm _ _ _ ihr out ho;have hy:=bZ hm;obtain⟨f1,_⟩:=fF lits y;have:=(dO r).1;simp only[bG]at ho;refine Ev.shift ?_;simp (disch:=omega) only[uQ.l7,if_pos,hx,ay,eu,dY];refine Ev.bind (ih y hm (by omega)) ?_
   simp (disch:=omega) only[if_pos];exact Ev.eq (ihr (out++dV lits y) (by rw[List.length_append];omega)) (by simp)
def sK (p:af) (lits:List af):Bool:=okb p&&(lits.all ru&&(!aN p&&(l9 p&&fO [] (dV lits p))))
theorem D6 (p:af) (lits:List af) (hw:wid p≤100000000) (hl:ug lits):Ev (fun k=>N_.f k p lits) (sK p lits):=by
 simp only[N_.f,ay,N_.j3,aJ,sK];refine Ev.bind (jF p (by omega)) ?_
 cases hok:okb p with
 |false=>simp only[Bool.false_eq_true,not_false_eq_true,if_true,Bool.false_and];exact Ev.now _
 |true=>
  simp only[not_true_eq_false,if_false,Bool.true_and];refine Ev.bind (RD lits hl) ?_;cases lits.all ru with
  |false=>simp only[Bool.false_eq_true,not_false_eq_true,if_true,Bool.false_and];exact Ev.now _
  |true=>
   simp only[not_true_eq_false,if_false,Bool.true_and];refine Ev.bind (mZ p) ?_;cases aN p with
   |true=>simp only[if_true,Bool.not_true,Bool.false_and];exact Ev.now _
   |false=>
    simp only[Bool.false_eq_true,if_false,Bool.not_false,Bool.true_and];have sN:jl p 0=true:=by unfold okb at hok;rw[Bool.and_eq_true]at hok;exact hok.1
    refine Ev.bind (RF lits hl p 0 sN false [] ⟨by simp,fun x hx=>by cases hx⟩ hw (by simp;omega)) ?_
    refine Ev.eq (Ev.now _) ?_;cases l9 p<;>cases fO [] (dV lits p)<;>simp
theorem Oi (l:List af) (hs:ug l) (h1: ∀x∈l,x.ak=1):Ev (fun k=>yl.l5 k l 0) (fO [] l):=by
 have hl:=hs.1;refine Ev.eq (dG l (P:=fun i suf=>0≤i→Ev (fun k=>yl.l5 k l i) (fO (l.take i.toNat) suf)) ?_ ?_ (by omega)) (by simp)
 ·intro _;refine Ev.shift ?_;simp (disch:=omega) only[yl.l5,if_neg,fO];exact Ev.now _
 ·intro i y r i0 i1 hx hm _ _ htk ih _;refine Ev.shift ?_;simp (disch:=omega) only[yl.l5,if_pos,hx,ay,eu,List.drop_zero,fO];refine Ev.bind (pq (l.take i.toNat) y ⟨by rw[List.length_take];omega,fun x hx=>hs.2 x (List.mem_of_mem_take hx)⟩ (fun x hx=>h1 x (List.mem_of_mem_take hx)) (h1 y hm)) ?_
  have e:(i+1).toNat=i.toNat+1:=by omega
  have ih:=ih (by omega)
  rw[e,htk]at ih;cases inB (l.take i.toNat) y with
  |true=>simp only[if_true,Bool.not_true,Bool.false_and];exact Ev.now _
  |false=>simp only[Bool.false_eq_true,if_false,Bool.not_false,Bool.true_and];exact ih
theorem pI (p:af) (lits:List af) (hw:wid p≤100000000) (hl:ug lits):Ev (fun k=>yl.f k p lits) (sK p lits):=by
 simp only[yl.f,ay,yl.j3,aJ,sK];refine Ev.bind (iL p (by omega)) ?_
 cases hok:okb p with
 |false=>simp only[Bool.false_eq_true,not_false_eq_true,if_true,Bool.false_and];exact Ev.now _
 |true=>
  simp only[not_true_eq_false,if_false,Bool.true_and];refine Ev.bind (Gg lits hl) ?_;cases hlo:lits.all ru with
  |false=>simp only[Bool.false_eq_true,not_false_eq_true,if_true,Bool.false_and];exact Ev.now _
  |true=>
   have hl1: ∀x∈lits,x.ak=1:=by
    intro x hx;have:=List.all_eq_true.1 hlo x hx;unfold ru at this;simp only[Bool.and_eq_true,decide_eq_true_eq]at this;exact this.1
   have sN:jl p 0=true:=by unfold okb at hok;rw[Bool.and_eq_true]at hok;exact hok.1
   simp only[not_true_eq_false,if_false,Bool.true_and];refine Ev.bind (Oh p 0 sN (by omega)) ?_
   rw[←Bool.and_assoc];cases (!aN p&&l9 p) with
   |false=>simp only[Bool.false_eq_true,not_false_eq_true,if_true,Bool.false_and];exact Ev.now _
   |true=>
    simp only[not_true_eq_false,if_false,Bool.true_and];obtain⟨f1,f2⟩:=fF lits p;exact Ev.bind (pG lits hl hl1 p (by omega)) (Oi _ ⟨by omega,fun x hx=>by have:=(f2 x hx).2;omega⟩ fun x hx=>(f2 x hx).1)
def within (a b:List Int):Bool:=a.all fun x=>b.contains x
def lJ (t:ByteArray) (sc:List Int) (b:aO):Bool:=decide (b.aG.toList=t.toList)&&within b.aB sc
def allIn (l:List aO) (x:aO):Bool:=l.all fun b=>within b.aB x.aB
def yz (all:List aO):List aO→Option ByteArray
 | []=>none
 |x::r=>if allIn all x then some x.aZ else yz all r
def told (c:Int):Option ByteArray→ByteArray×Int
 |some n=>(n,1)
 |none=>(ByteArray.mk #[],c)
def D7 (binds:List aO) (t:ByteArray) (sc:List Int):ByteArray×Int:=
 told (if(binds.filter (lJ t sc)).isEmpty then 0 else 2) (yz (binds.filter (lJ t sc)) (binds.filter (lJ t sc)).reverse)
def tZ (l:List aO):Prop:=(l.length:Int)≤1000000000∧ ∀x∈l,(x.aB.length:Int)≤1000000000
theorem RG (l:List Int) (n:Int) (hl:(l.length:Int)≤1000000000):Ev (fun k=>Jc.f k l n) (l.contains n):=by
 simp only[Jc.f];refine dG l (P:=fun i suf=>Ev (fun k=>Jc.l2 k n l (l.length:Int) i) (suf.contains n)) ?_ ?_
 ·refine Ev.shift ?_;simp (disch:=omega) only[Jc.l2,if_neg,List.contains_nil];exact Ev.now _
 ·intro i x r h0 h1 hx hm _ _ _ ih;refine Ev.shift ?_;simp (disch:=omega) only[Jc.l2,if_pos,hx,eu,List.contains_cons]
  by_cases h:x=n
  ·subst h;simp only[if_true,beq_self_eq_true,Bool.true_or];exact Ev.now _
  ·have h':(n==x)=false:=by simpa using fun e=>h e.symm
   simp only[if_neg h,h',Bool.false_or];exact ih
theorem RH (l:List Int) (n:Int) (hl:(l.length:Int)≤1000000000):Ev (fun k=>I5.f k l n) (l.contains n):=by
 simp only[I5.f];refine dG l (P:=fun i suf=>Ev (fun k=>I5.l2 k l n i) (suf.contains n)) ?_ ?_
 ·refine Ev.shift ?_;simp (disch:=omega) only[I5.l2,if_neg,List.contains_nil];exact Ev.now _
 ·intro i x r h0 h1 hx hm _ _ _ ih;refine Ev.shift ?_;simp (disch:=omega) only[I5.l2,if_pos,hx,eu,List.contains_cons]
  by_cases h:x=n
  ·subst h;simp only[if_true,beq_self_eq_true,Bool.true_or];exact Ev.now _
  ·have h':(n==x)=false:=by simpa using fun e=>h e.symm
   simp only[if_neg h,h',Bool.false_or];exact ih
theorem Az (a b:List Int) (ha:(a.length:Int)≤1000000000) (hb:(b.length:Int)≤1000000000):Ev (fun k=>IB.f k a b) (within a b):=by
 simp only[IB.f,within];refine dG a (P:=fun i suf=>Ev (fun k=>IB.l2 k b a (a.length:Int) i) (suf.all fun x=>b.contains x)) ?_ ?_
 ·refine Ev.shift ?_;simp (disch:=omega) only[IB.l2,if_neg,List.all_nil];exact Ev.now _
 ·intro i x r h0 h1 hx hm _ _ _ ih;refine Ev.shift ?_;simp (disch:=omega) only[IB.l2,if_pos,hx,eu,List.all_cons];refine Ev.bind (RG b x hb) ?_;cases b.contains x with
  |true=>simp only[not_true,if_false,Bool.true_and];exact ih
  |false=>simp only[Bool.false_eq_true,not_false_eq_true,if_true,Bool.false_and];exact Ev.now _
theorem AA (a b:List Int) (ha:(a.length:Int)≤1000000000) (hb:(b.length:Int)≤1000000000):Ev (fun k=>q1z.f k a b) (within a b):=by
 simp only[q1z.f,within];refine dG a (P:=fun i suf=>Ev (fun k=>q1z.l2 k a b i) (suf.all fun x=>b.contains x)) ?_ ?_
 ·refine Ev.shift ?_;simp (disch:=omega) only[q1z.l2,if_neg,List.all_nil];exact Ev.now _
 ·intro i x r h0 h1 hx hm _ _ _ ih;refine Ev.shift ?_;simp (disch:=omega) only[q1z.l2,if_pos,hx,eu,List.all_cons];refine Ev.bind (RH b x hb) ?_;cases b.contains x with
  |true=>simp only[not_true,if_false,Bool.true_and];exact ih
  |false=>simp only[Bool.false_eq_true,not_false_eq_true,if_true,Bool.false_and];exact Ev.now _
theorem Gh (b:aO) (x:af) (hb:(b.aB.length:Int)≤1000000000) (hx:(x.aB.length:Int)≤1000000000):Ev (fun k=>Qb.f k b x) (lJ x.aG x.aB b):=by
 simp only[Qb.f,lJ]
 by_cases h:b.aG.toList=x.aG.toList
 ·simp only[if_pos h,decide_eq_true h,Bool.true_and];exact Ev.bind (AA _ _ hb hx) (Ev.now _)
 ·simp only[if_neg h,decide_eq_false h,Bool.false_and];exact Ev.now _
theorem Vs (l:List aO) (hl:tZ l) (x:af) (hx:(x.aB.length:Int)≤1000000000) (y:aO) (hy:(y.aB.length:Int)≤1000000000):Ev (fun k=>Ip.f k l x y.aB) (allIn (l.filter (lJ x.aG x.aB)) y):=by
 obtain⟨hl,hs⟩:=hl;simp only[Ip.f,allIn];refine dG l (P:=fun i suf=>Ev (fun k=>Ip.l2 k l y.aB i x.ak x.aG x.aB x.aI x.aj) ((suf.filter (lJ x.aG x.aB)).all fun b=>within b.aB y.aB)) ?_ ?_
 ·refine Ev.shift ?_;simp (disch:=omega) only[Ip.l2,if_neg,List.filter_nil,List.all_nil];exact Ev.now _
 ·intro i b r h0 h1 hb hm _ _ _ ih;refine Ev.shift ?_;simp (disch:=omega) only[Ip.l2,if_pos,hb,eu,aJ,List.filter_cons];refine Ev.bind (Gh b x (hs b hm) hx) ?_;cases lJ x.aG x.aB b with
  |false=>simp only[Bool.false_eq_true,if_false];exact ih
  |true=>
   simp only[if_true,List.all_cons];refine Ev.bind (AA _ _ (hs b hm) hy) ?_;cases within b.aB y.aB with
   |true=>simp only[not_true,if_false,Bool.true_and];exact ih
   |false=>simp only[Bool.false_eq_true,not_false_eq_true,if_true,Bool.false_and];exact Ev.now _
theorem find_spec (l:List aO) (hl:tZ l) (x:af) (hx:(x.aB.length:Int)≤1000000000) (h1:x.ak=1):Ev (fun k=>q23.f k l x) (D7 l x.aG x.aB):=by
 simp (disch:=omega) only[q23.f,if_neg (bg h1),eu];have hs:=hl.2;have hn:=hl.1;rw[eu (by omega) (by omega)]
 refine Ev.eq (UI l (P:=fun i pre=> ∀c:Int,Ev (fun k=>q23.l5 k l c i x.ak x.aG x.aB x.aI x.aj) (told (if(pre.filter (lJ x.aG x.aB)).isEmpty then c else 2) (yz (l.filter (lJ x.aG x.aB)) (pre.filter (lJ x.aG x.aB)).reverse))) ?_ ?_ 0) rfl
 ·intro c;refine Ev.shift ?_;simp (disch:=omega) only[q23.l5,if_neg];exact Ev.now _
 ·intro i b r h0 h1' hb hm _ _ ih c;refine Ev.shift ?_;simp (disch:=omega) only[q23.l5,if_pos,hb,eu,aJ,List.filter_append];refine Ev.bind (Gh b x (hs b hm) hx) ?_;cases hf:lJ x.aG x.aB b with
  |false=>
   simp only[Bool.false_eq_true,not_false_eq_true,if_true,List.filter_cons,hf,if_false,List.filter_nil,List.append_nil];exact ih c
  |true=>
   simp only[not_true,if_false,List.filter_cons,hf,if_true,List.filter_nil,List.reverse_append,List.reverse_cons,List.reverse_nil,List.nil_append,List.singleton_append,yz];refine Ev.bind (Vs l hl x hx b (hs b hm)) ?_;cases allIn (l.filter (lJ x.aG x.aB)) b with
   |true=>simp only[if_true];exact Ev.now _
   |false=>
    simp only[Bool.false_eq_true,if_false];refine(ih 2).eq ?_;cases h:(r.filter (lJ x.aG x.aB)).isEmpty<;>cases h':((r.filter (lJ x.aG x.aB))++ [b]).isEmpty<;>simp_all
theorem Oj (a:List aO) (ha:tZ a) (j:Int) (y:aO) (j0:0≤j) (j1:j<(a.length:Int)) (hj:aF fC a j=y) (g:Bool→ByteArray×Int)
  (hend: ∀c,Ev (fun k=>qv.l17 k j c (a.length:Int) (a.length:Int) a) (g c)):Ev (fun k=>qv.l17 k j true (a.length:Int) 0 a) (g (allIn a y)):=by
 obtain⟨hl,hs⟩:=ha;have hy:(y.aB.length:Int)≤1000000000:=by rw[←hj];exact hs _ (dF _ _ _ j0 j1)
 refine Ev.eq (dG a (P:=fun i suf=> ∀c:Bool,Ev (fun k=>qv.l17 k j c (a.length:Int) i a) (g (c&&suf.all fun b=>within b.aB y.aB))) ?_ ?_ true) (by simp[allIn])
 ·intro c;exact(hend c).eq (by simp)
 ·intro i b r h0 h1 hb hm _ _ _ ih c;refine Ev.shift ?_;have hb':a.getD i.toNat fC=b:=hb fC;have hj':a.getD j.toNat fC=y:=hj;simp (disch:=omega) only[qv.l17,if_pos,hb',hj',eu,List.all_cons];cases c with
  |true=>
   simp only[if_true,Bool.true_and];refine Ev.bind (Az _ _ (hs b hm) hy) ?_;exact ih _
  |false=>
   simp only[Bool.false_eq_true,if_false,Bool.false_and];exact(ih false).eq (by simp)
theorem RI (a:List aO) (ha:tZ a):Ev (fun k=>qv.Ey k ((a.length:Int)-1) a) (told 2 (yz a a.reverse)):=by
 have hl:=ha.1;refine UI a (P:=fun i pre=>Ev (fun k=>qv.Ey k i a) (told 2 (yz a pre.reverse))) ?_ ?_
 ·refine Ev.shift ?_;simp (disch:=omega) only[qv.Ey,if_neg];exact Ev.now _
 ·intro i b r h0 h1 hb hm _ _ ih;refine Ev.shift ?_;simp (disch:=omega) only[qv.Ey,if_pos];simp only[List.reverse_append,List.reverse_cons,List.reverse_nil,List.nil_append,List.singleton_append,yz];refine Ev.eq (Oj a ha i b h0 h1 (hb _) (fun c=>told 2 (if c then some b.aZ else yz a r.reverse)) ?_) rfl
  intro c;refine Ev.shift ?_;have hb':a.getD i.toNat fC=b:=hb fC;simp (disch:=omega) only[qv.l17,if_neg,if_pos,hb',eu];cases c with
  |true=>simp only[if_true];exact Ev.now _
  |false=>simp only[Bool.false_eq_true,if_false];exact ih
theorem Gi (l:List aO) (hl:tZ l) (x:af) (hx:(x.aB.length:Int)≤1000000000) (h1:x.ak=1):Ev (fun k=>qv.f k l x) (D7 l x.aG x.aB):=by
 obtain⟨hn,hs⟩:=hl;simp only[qv.f,if_neg (bg h1)];refine Ev.eq (dG l (P:=fun i suf=> ∀a:List aO,(a.length:Int)≤i→tZ a→Ev (fun k=>qv.l5 k l (l.length:Int) i x.aG x.aB a) (told (if(a++suf.filter (lJ x.aG x.aB)).isEmpty then 0 else 2) (yz (a++suf.filter (lJ x.aG x.aB)) (a++suf.filter (lJ x.aG x.aB)).reverse))) ?_ ?_ [] (by simp) ⟨by simp,by simp⟩) (by simp[D7])
 ·intro a ha sa;refine Ev.shift ?_;simp (disch:=omega) only[qv.l5,if_neg,List.filter_nil,List.append_nil]
  by_cases h:(a.length:Int)=0
  ·have:a= []:=List.eq_nil_of_length_eq_zero (by omega)
   subst this;simp only[if_pos h];exact Ev.now _
  ·have hne:a.isEmpty=false:=by cases a<;>simp_all
   simp only[if_neg h,hne,Bool.false_eq_true,if_false];rw[eu (by omega) (by omega)]
   exact RI a sa
 ·intro i b r h0 h1' hb hm _ _ _ ih a ha sa;refine Ev.shift ?_;simp (disch:=omega) only[qv.l5,if_pos,hb,eu,List.filter_cons,lJ]
  by_cases h:b.aG.toList=x.aG.toList
  ·simp only[if_pos h,decide_eq_true h,Bool.true_and];refine Ev.bind (Az _ _ (hs b hm) hx) ?_;cases within b.aB x.aB with
   |true=>
    simp (disch:=(simp only[List.length_cons,List.length_nil];omega)) only[if_true,if_pos];refine(ih (a++ [b]) (by simp;omega) ⟨by simp;omega,by
     intro y hy;rcases List.mem_append.1 hy with h|h
     ·exact sa.2 y h
     ·rw[List.mem_singleton.1 h];exact hs b hm⟩).eq (by simp[lJ])
   |false=>simp only[Bool.false_eq_true,if_false];exact ih a (by omega) sa
  ·simp only[if_neg h,decide_eq_false h,Bool.false_and,Bool.false_eq_true,if_false];exact ih a (by omega) sa
abbrev GL:=List aV
mutual
def iT (lits:List af):af→Int→GL
 |⟨s,t,sc,fr,ks⟩,d=>if s=1 then(if aN ⟨s,t,sc,fr,ks⟩||fE ⟨s,t,sc,fr,ks⟩||inB lits ⟨s,t,sc,fr,ks⟩ then [] else [⟨⟨s,t,sc,fr,ks⟩,d,ah,[]⟩]) else gV lits ks d
def gV (lits:List af):List af→Int→GL
 | [],_=> []
 |x::l,d=>iT lits x (if aS l then d+1 else d)++gV lits l d
end
theorem jX (lits:List af) (x:af) (d:Int):iT lits x d=if x.ak=1 then(if aN x||fE x||inB lits x then [] else [⟨x,d,ah,[]⟩]) else gV lits x.aj d:=by cases x;simp only[iT]
theorem rC (lits:List af): ∀x:af,∀d,(iT lits x d).map (fun g=>g.aZ)=dV lits x:=by
 refine dX fun x ih d=> ?_
 rw[jX,iQ]
 split
 ·split<;>rfl
 ·generalize hl:x.aj=l;rw[hl]at ih
  clear hl
  induction l with
  |nil=>simp[gV,dY]
  |cons y l ihl=>
   simp only[gV,dY,List.map_append];rw[ih y (by simp),ihl (fun z hz=>ih z (by simp[hz]))]
theorem Ol (lits:List af) (l:List af) (d:Int):(gV lits l d).map (fun g=>g.aZ)=dY lits l:=by
 induction l with
 |nil=>simp[gV,dY]
 |cons y l ihl=>simp only[gV,dY,List.map_append,rC,ihl]
theorem kW (lits:List af) (x:af) (d:Int):(iT lits x d).length=(dV lits x).length:=by rw[←rC lits x d,List.length_map]
theorem vK (lits:List af): ∀x:af,∀d,∀g∈iT lits x d,g.aP= []:=by
 refine dX fun x ih d g hg=> ?_
 rw[jX]at hg
 split at hg
 ·split at hg
  ·cases hg
  ·rw[List.mem_singleton.1 hg]
 ·generalize hl:x.aj=l at hg;rw[hl]at ih
  clear hl
  induction l with
  |nil=>simp[gV]at hg
  |cons y l ihl=>
   simp only[gV]at hg;rcases List.mem_append.1 hg with h|h
   ·exact ih y (by simp) _ g h
   ·exact ihl (fun z hz=>ih z (by simp[hz])) h
theorem IE (lits:List af) (a:List af) (e:af) (he:aN e=false) (d:Int):gV lits (a++ [e]) d=gV lits a d++iT lits e d:=by
 induction a with
 |nil=>simp[gV,aS]
 |cons x a ih=>
  simp only[List.cons_append,gV,ih,List.append_assoc];cases a with
  |nil=>simp[aS,he]
  |cons y a=>rfl
def nP:List af→Nat
 | []=>0
 |x::l=>(if aN x then 0 else 1)+nP l
theorem yA (l:List af):(nP l:Int)+bM l=(l.length:Int):=by
 induction l with
 |nil=>simp[nP,bM]
 |cons x l ih=>simp only[nP,bM,List.length_cons];split<;>omega
def rD:GL→GL→GL
 |n::ns,g::gs=>{n with aP:=n.aP++ [g]}::rD ns gs
 |ns,_=>ns
theorem yB (a b:GL):(rD a b).length=a.length:=by
 induction a generalizing b with
 |nil=>cases b<;>simp[rD]
 |cons x a ih=>cases b<;>simp[rD,ih]
def kX (m:af→Option GL):GL→List af→Option GL
 |ns,[]=>some ns
 |ns,x::xs=>(m x).bind fun g=>kX m (rD ns g) xs
theorem zJ (m:af→Option GL) (xs:List af): ∀(ns r:GL),kX m ns xs=some r→r.length=ns.length:=by
 induction xs with
 |nil=>intro ns r h;simp only[kX,Option.some.injEq]at h;rw[h]
 |cons x xs ih=>
  intro ns r h;simp only[kX,Option.bind_eq_some_iff]at h;obtain⟨g,_,h⟩:=h;rw[ih _ _ h,yB]
def pre (g:GL) (q:GL×List af):GL×List af:=(g++q.1,q.2)
def kN (m:af→af→Option GL) (nd:af→GL):List af→List af→Option (GL×List af)
 | [],own=>some ([],own)
 |p::ps,own=>
  if aN p then kN m nd ps own
  else if aS ps then(kX (m p) (nd p) (own.take (own.length-nP ps))).bind fun g=>(kN m nd ps (own.drop (own.length-nP ps))).map (pre g)
  else match own with
   | []=>none
   |x::own'=>(m p x).bind fun g=>(kN m nd ps own').map (pre g)
def bf (f:af):List af:=if f.ak=3∨f.ak=4 then partsOf f else []
def eP (f:af):Option af:=if f.ak=3 then none else if f.ak=4 then some (lastOf f) else some f
def d_ (ks:List af) (e:af):af:=
 if ks.length=0 then e else if e.ak=3∨e.ak=4 then⟨e.ak,ByteArray.empty,[],0,ks++e.aj⟩ else⟨4,ByteArray.empty,[],0,ks++ [e]⟩
def gm (ks:List af):Option af→af
 |none=>⟨3,ByteArray.empty,[],0,ks⟩
 |some e=>d_ ks e
def st2 (a b:ByteArray×Int) (t u:ByteArray):Bool:=
 (decide (b.2=1)&&(decide (a.2=1)&&decide (b.1.toList=a.1.toList)))||(decide (b.2=0)&&(decide (a.2=0)&&decide (u.toList=t.toList)))
def D8 (binds:List aO) (p f:af):Bool:=st2 (D7 binds p.aG p.aB) (D7 binds f.aG f.aB) p.aG f.aG
def KZ (lits:List af) (binds:List aO) (p f:af):Option GL:=
 if inB lits p then(if f.ak=1 then(if D8 binds p f then some [] else none) else none)
 else if fE p then some [] else some [⟨p,0,f,[]⟩]
def least (p:af):Int:=(nP (partsOf p):Int)-bM (partsOf p)
def badL (p f:af):Bool:=
 (decide (p.ak=3)&& !decide (f.ak=3))||(decide (((bf f).length:Int)<least p)||(decide (p.ak=3)&&(decide (bM (partsOf p)=0)&&decide (least p<((bf f).length:Int)))))
def D9 (m:af→af→Option GL) (nd:af→GL) (p f:af):Option GL:=
 if badL p f then none
 else(kN m nd (partsOf p) (bf f)).bind fun q=>if p.ak=4 then(m (lastOf p) (gm q.2 (eP f))).map (q.1++ ·) else some q.1
def mM (lits:List af) (binds:List aO):Nat→af→af→Option GL
 |0,_,_=>none
 |n+1,p,f=>
  if p.ak=1 then KZ lits binds p f
  else if p.ak=2 then(if f.ak=2 then(if f.aG.toList=p.aG.toList then some [] else none) else none)
  else D9 (mM lits binds n) (fun x=>iT lits x 1) p f
def lQ:Option GL→Bool×GL
 |some g=>(true,g)
 |none=>(false,[])
theorem Qk: ∀x:af,wid x≤1000000000→Ev (fun k=>vS.f k x) x:=by
 refine dX fun x ih hw=> ?_
 have hp:=aW x;refine Ev.shift ?_;simp (disch:=omega) only[vS.f,if_pos,List.length_nil,Nat.zero_add,List.nil_append];refine Ev.eq (dG x.aj (P:=fun i suf=> ∀out:List af,(out.length:Int)=i→Ev (fun k=>vS.l4 k x.aj (x.aj.length:Int) i x.ak x.aG x.aI out x.aB) ⟨x.ak,x.aG,x.aB,x.aI,out++suf⟩) ?_ ?_ [] rfl) (by simp[aJ])
 ·intro out ho;refine Ev.shift ?_;simp (disch:=omega) only[vS.l4,if_neg,List.append_nil];exact Ev.now _
 ·intro i y r h0 h1 hx hm hl _ _ ihr out ho;have hy:=bZ hm;refine Ev.shift ?_;simp (disch:=omega) only[vS.l4,if_pos,hx,ay,eu,List.length_singleton];refine Ev.bind (ih y hm (by omega)) ?_
  exact Ev.eq (ihr (out++ [y]) (by simp;omega)) (by simp)
theorem Gj (ks:List af) (e:af) (hk:(ks.length:Int)≤500000000000) (he:wid e≤500000000000):Ev (fun k=>F5.f k ks e) (d_ ks e):=by
 have hp:=aW e;simp only[F5.f,d_]
 by_cases h:ks.length=0
 ·have h':(ks.length:Int)=0:=by omega
  simp only[if_pos h,if_pos h',ay];exact Ev.now _
 ·have h': ¬(ks.length:Int)=0:=by omega
  simp (disch:=first|omega|(simp only[List.length_nil,List.length_append,List.length_singleton];omega)) only[if_neg h,if_neg h',if_pos,List.nil_append,F5.d5,ay]
  by_cases h3:e.ak=3
  ·simp (disch:=first|omega|(simp only[List.length_nil,List.length_append,List.length_singleton];omega)) only[if_pos h3,if_pos (Or.inl h3:e.ak=3∨e.ak=4),if_pos];exact Ev.now _
  ·by_cases h4:e.ak=4
   ·simp (disch:=first|omega|(simp only[List.length_nil,List.length_append,List.length_singleton];omega)) only[if_neg h3,if_pos h4,if_pos (Or.inr h4:e.ak=3∨e.ak=4),if_pos];exact Ev.now _
   ·have n: ¬(e.ak=3∨e.ak=4):=by omega
    simp only[if_neg h3,if_neg h4,if_neg n];exact Ev.now _
theorem AB (x:af) (h3: ¬x.ak=3) (h4: ¬x.ak=4):Ev (fun k=>BL.f k x) ([],some x):=by
 simp only[BL.f,if_neg h3,if_neg h4,ay,aJ];exact Ev.now _
theorem ER (x:af) (hw:wid x≤1000000000) {d:Int} (h:jl x d=true):Ev (fun k=>BL.f k x) (bf x,eP x):=by
 rcases bU h with⟨h1,hk⟩|⟨h1,hk⟩|⟨h1,_⟩
 ·have:=AB x (by omega) (by omega)
  simpa [bf,eP,h1]using this
 ·have:=AB x (by omega) (by omega)
  simpa [bf,eP,h1]using this
 ·refine(pz x hw h1).eq ?_;rcases h1 with h1|⟨h1,_⟩<;>simp[bf,eP,h1]
theorem lK {x:af} {d:Int} (h:jl x d=true) (h4:x.ak=4):(lastOf x).ak=1∨(lastOf x).ak=2:=by
 rw[qP,h4]at h;simp at h;have:=h.2.2.2.2.2;unfold jJ at this;simp at this;exact this.2
theorem ng {x:af} (h:2≤(x.aj.length:Int)) (h4:x.ak=4):partsOf x++ [lastOf x]=x.aj:=by
 unfold partsOf lastOf;rw[if_pos h4];exact ry (by omega)
def Om (lits:List af) (d:Int):Option af→GL
 |some y=>iT lits y d
 |none=> []
theorem RJ (lits:List af) (binds:List aO) (zI:ug lits): ∀(p:af) (e:Int),jl p e=true→l9 p=true→ ∀d:Int,0≤d→wid p+d≤1000000000→Ev (fun k=>qk.f k p d lits binds) (lits,binds,iT lits p d):=by
 refine dX fun p ih e hok hst d hd hw=> ?_
 have hp:=aW p;have hnl:=(fF lits p).1;refine Ev.shift ?_;rcases bU hok with⟨h1,hk⟩|⟨h1,hk⟩|⟨h1,hks⟩
 ·have s:p.ak=1:=h1;have e1:aN p=decide (bytesOf p.aG= [46,46,46]):=by simp[aN,s]
  have e2:fE p=decide (bytesOf p.aG= [95]):=by simp[fE,s]
  simp only[qk.f,if_pos s,ay];rw[jX,if_pos s,e1,e2];have b1:(p.aG.toList=(ByteArray.mk #[46,46,46]).toList)↔bytesOf p.aG= [46,46,46]:=lit_eq _ _ (by decide)
  have b2:(p.aG.toList=(ByteArray.mk #[95]).toList)↔bytesOf p.aG= [95]:=lit_eq _ _ (by decide)
  by_cases d1:bytesOf p.aG= [46,46,46]
  ·simp only[if_neg (bg (b1.2 d1)),qk.j5,Bool.false_eq_true,if_false,decide_eq_true d1,Bool.true_or,if_true];exact Ev.now _
  ·have d1': ¬p.aG.toList=(ByteArray.mk #[46,46,46]).toList:=fun h=>d1 (b1.1 h)
   by_cases d2:bytesOf p.aG= [95]
   ·simp only[if_pos d1',if_neg (bg (b2.2 d2)),qk.j5,Bool.false_eq_true,if_false,decide_eq_true d2,Bool.true_or,Bool.or_true,if_true];exact Ev.now _
   ·have d2': ¬p.aG.toList=(ByteArray.mk #[95]).toList:=fun h=>d2 (b2.1 h)
    simp only[if_pos d1',if_pos d2',decide_eq_false d1,decide_eq_false d2,Bool.false_or];refine Ev.bind (BQ lits p zI) ?_;cases inB lits p with
    |true=>
     simp only[qk.j5,not_true,decide_false,Bool.false_eq_true,if_false,if_true];exact Ev.now _
    |false=>
     simp only[qk.j5,Bool.false_eq_true,not_false_eq_true,decide_true,if_true,if_false,aJ];refine Ev.bind (Qk p (by omega)) ?_
     simp only[ay,List.length_nil,List.length_singleton,List.nil_append];exact Ev.now _
 ·have n1: ¬p.ak=1:=by omega
  have n3: ¬p.ak=3:=by omega
  have n4: ¬p.ak=4:=by omega
  simp only[qk.f,if_neg n1,if_neg n3,decide_eq_false n4,qk.Rt,Bool.false_eq_true,if_false];rw[jX,if_neg n1,hk];exact Ev.now _
 ·have n1: ¬p.ak=1:=by omega
  have n2: ¬p.ak=2:=by omega
  rw[oK,if_neg (by omega)]at hst
  simp only[Bool.and_eq_true,Bool.or_eq_true,Bool.not_eq_true',decide_eq_false_iff_not]at hst;obtain⟨_,hle,hsk⟩:=hst;have aa7:=gI hks;have aa8: ∀x∈p.aj,l9 x=true:=by
   generalize p.aj=l at hsk;intro x hx
   induction l with
   |nil=>cases hx
   |cons y l ihl=>
    simp only[jv,Bool.and_eq_true]at hsk;rcases List.mem_cons.1 hx with rfl|hx
    ·exact hsk.1
    ·exact ihl hsk.2 hx
  have hsub: ∀x∈partsOf p,x∈p.aj:=by
   intro x hx;unfold partsOf at hx
   split at hx
   ·exact List.mem_of_mem_take hx
   ·exact hx
  have hpl:((partsOf p).length:Int)≤(p.aj.length:Int):=by
   unfold partsOf
   split
   ·rw[List.length_take];omega
   ·omega
  have hnp:((dY lits (partsOf p)).length:Int)≤bG p.aj:=by
   refine Int.le_trans (xk lits (partsOf p)).1 ?_;unfold partsOf
   split
   ·exact oJ _ _
   ·exact Int.le_refl _
  have hend: ∀y,(if p.ak=4 then some (lastOf p) else none)=some y→y∈p.aj:=by
   intro y hy
   split at hy
   ·injection hy with hy
    rw[←hy];exact dF _ _ _ (by omega) (by omega)
   ·cases hy
  have whole:iT lits p d=gV lits (partsOf p) d++Om lits d (if p.ak=4 then some (lastOf p) else none):=by
   rw[jX,if_neg n1];rcases h1 with h1|⟨h1,h2⟩
   ·have n4: ¬p.ak=4:=by omega
    simp only[partsOf,if_neg n4,Om,List.append_nil]
   ·rw[if_pos h1];simp only[Om];have:=ng h2 h1;rw[←this,IE];exact hle.resolve_left (by omega)
  have body:Ev (fun k=>qk.l10 k d (partsOf p) (if p.ak=4 then some (lastOf p) else none) (partsOf p) ((partsOf p).length:Int) 0 lits binds []) (lits,binds,iT lits p d):=by
   rw[whole];generalize (if p.ak=4 then some (lastOf p) else none)=eo at hend⊢;refine dG (partsOf p) (P:=fun i suf=> ∀a:GL,(a.length:Int)+((dY lits suf).length:Int)≤500000000000→Ev (fun k=>qk.l10 k d (partsOf p) eo (partsOf p) ((partsOf p).length:Int) i lits binds a) (lits,binds,a++(gV lits suf d++Om lits d eo))) ?_ ?_ [] (by simp;omega)
   ·intro a ha;refine Ev.shift ?_;simp (disch:=omega) only[qk.l10,if_neg,gV,List.nil_append];cases eo with
    |none=>simp only[Option.isSome,Bool.false_eq_true,if_false,Om,List.append_nil];exact Ev.now _
    |some y=>
     simp only[Option.isSome,if_true,Option.bind_some,ay,Om];have hy:=hend y rfl;have hwy:=bZ hy;refine Ev.bind (ih y hy _ (aa7 y hy) (aa8 y hy) d hd (by omega)) ?_
     have:=(fF lits y).1;have h5:=kW lits y d;simp (disch:=(simp only[dY,List.length_nil]at ha;omega)) only[if_pos];exact Ev.now _
   ·intro i x r h0 h1 hx hm hl hdr _ ihr a ha;have hmx:=hsub x hm;have hwx:=bZ hmx;have hlx:=kW lits x;simp only[dY,List.length_append]at ha;refine Ev.shift ?_;simp (disch:=omega) only[qk.l10,if_pos,hx,eu,ay,qk.Vk,aJ];have go: ∀d',0≤d'→wid x+d'≤1000000000→(if aS r then d+1 else d)=d'→Ev (fun k=>(qk.f k x d' lits binds).bind fun r1=>if a.length+r1.2.2.length≤733007751850 then qk.l10 k d (partsOf p) eo (partsOf p) ((partsOf p).length:Int) (i+1) r1.1 r1.2.1 (a++r1.2.2) else none) (lits,binds,a++(gV lits (x::r) d++Om lits d eo)):=by
     intro d' hd' hwd he;refine Ev.bind (ih x hmx _ (aa7 x hmx) (aa8 x hmx) d' hd' hwd) ?_;have h5:=hlx d';simp (disch:=omega) only[if_pos];refine(ihr (a++iT lits x d') (by rw[List.length_append];omega)).eq ?_
     simp only[gV,he,List.append_assoc]
    by_cases hlast:i+1<((partsOf p).length:Int)
    ·obtain⟨y,r',hr⟩: ∃y r',r=y::r':=by
      cases r with
      |nil=>simp at hl;omega
      |cons y r'=>exact⟨y,r',rfl⟩
     have hy:aF ah (partsOf p) (i+1)=y:=by
      have e:(partsOf p).drop (i.toNat+1)=y::r':=by
       have:=congrArg (List.drop 1) hdr;rw[List.drop_drop]at this
       simpa [hr]using this
      have hlt:i.toNat+1<(partsOf p).length:=by omega
      rw[List.drop_eq_getElem_cons hlt]at e;rw[show i+1=((i.toNat+1:Nat):Int) by omega,g_ _ _ _ hlt]
      exact(List.cons.inj e).1
     simp (disch:=omega) only[if_pos hlast,if_pos,hy];refine Ev.bind (mZ y) ?_;cases hdy:aN y with
     |true=>simp only[if_true];exact go (d+1) (by omega) (by omega) (by simp[hr,aS,hdy])
     |false=>simp only[Bool.false_eq_true,if_false];exact go d hd (by omega) (by simp[hr,aS,hdy])
    ·have hr:r= []:=List.eq_nil_of_length_eq_zero (by omega)
     simp only[if_neg hlast];exact go d hd (by omega) (by simp[hr,aS])
  have pr:=pz p (by omega) h1
  by_cases s3:p.ak=3
  ·simp only[qk.f,if_neg n1,if_pos s3,qk.Rt,if_true,aJ];exact Ev.bind pr body
  ·have s4:p.ak=4:=by omega
   simp only[qk.f,if_neg n1,if_neg s3,decide_eq_true s4,qk.Rt,if_true,aJ];exact Ev.bind pr body
end
end Go.Proofs.YtmcbhnbemhfifaaGreatDoor.RX
