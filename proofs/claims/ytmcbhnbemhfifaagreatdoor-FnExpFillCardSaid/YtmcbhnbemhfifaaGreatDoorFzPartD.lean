/- Part of a proof that a law holds at every input. -/
import Derived.Test.YtmcbhnbemhfifaaGreatDoorFzPartC
set_option autoImplicit false
set_option linter.unusedVariables false
set_option linter.unusedSimpArgs false
namespace Go.Proofs.YtmcbhnbemhfifaaGreatDoor.RX
section
open Go Go.RowKit
open IntKind
def IZ.f (k:Nat) (x0:Jw):Option (Jw×Int):=(if((2000:Int)<(x0.length:Int)) then(if(2000:Int)≤(x0.length:Int) then(some (((x0.take 2000).drop 0),(0:Int))) else none) else(some (x0,(0:Int))))
def qi.j4 (k:Nat) (x1:Int) (aA:Jw) (aC:Int):Option (Int×Jw×Int):=(if((i64.wrap (aC-(1:Int)))<(aA.length:Int)) then(if(0:Int)≤(i64.wrap (aC-(1:Int))) then(if(i64.wrap (aC-(1:Int)))<(aA.length:Int) then(if x1=0 then none else(some (((i64.wrap (aF (0:Int) aA (i64.wrap (aC-(1:Int))))).tmod x1),aA,aC))) else none) else none) else(if(aA.length:Int)=0 then none else(if(0:Int)≤((i64.wrap (aC-(1:Int))).tmod (aA.length:Int)) then(if((i64.wrap (aC-(1:Int))).tmod (aA.length:Int))<(aA.length:Int) then(if(aA.length:Int)=0 then none else(if(0:Int)≤((i64.wrap ((i64.wrap ((i64.wrap (aC-(1:Int)))*(7:Int)))+(3:Int))).tmod (aA.length:Int)) then(if((i64.wrap ((i64.wrap ((i64.wrap (aC-(1:Int)))*(7:Int)))+(3:Int))).tmod (aA.length:Int))<(aA.length:Int) then(if(aA.length:Int)=0 then none else(if x1=0 then none else(some (((i64.wrap ((((BitVec.ofInt i64.bits (i64.wrap ((i64.wrap ((i64.wrap ((i64.wrap ((i64.wrap (aF (0:Int) aA ((i64.wrap (aC-(1:Int))).tmod (aA.length:Int))))*(131:Int)))+(i64.wrap ((i64.wrap (aF (0:Int) aA ((i64.wrap ((i64.wrap ((i64.wrap (aC-(1:Int)))*(7:Int)))+(3:Int))).tmod (aA.length:Int))))*(1117:Int)))))+(i64.wrap ((i64.wrap (aC-(1:Int)))*(29:Int)))))+(i64.wrap ((i64.wrap ((i64.wrap (aC-(1:Int))).tdiv (aA.length:Int)))*(53:Int))))))^^^(BitVec.ofInt i64.bits (i64.wrap ((i64.wrap ((i64.wrap ((i64.wrap ((i64.wrap ((i64.wrap (aF (0:Int) aA ((i64.wrap (aC-(1:Int))).tmod (aA.length:Int))))*(131:Int)))+(i64.wrap ((i64.wrap (aF (0:Int) aA ((i64.wrap ((i64.wrap ((i64.wrap (aC-(1:Int)))*(7:Int)))+(3:Int))).tmod (aA.length:Int))))*(1117:Int)))))+(i64.wrap ((i64.wrap (aC-(1:Int)))*(29:Int)))))+(i64.wrap ((i64.wrap ((i64.wrap (aC-(1:Int))).tdiv (aA.length:Int)))*(53:Int))))).tdiv (64:Int))))).toNat:Int))).tmod x1),aA,aC)))) else none) else none)) else none) else none)))
def qi.f (k:Nat) (x1:Int) (aA:Jw) (aC:Int):Option (Int×Jw×Int):=(if(x1<(1:Int)) then(some ((0:Int),aA,(i64.wrap (aC+(1:Int))))) else(if((aA.length:Int)=(0:Int)) then(some ((0:Int),aA,(i64.wrap (aC+(1:Int))))) else(qi.j4 k x1 aA (i64.wrap (aC+(1:Int))))))
def yV.d3b (k:Nat) (aaN:Int→Option (ByteArray)) (x0:Int):Option (ByteArray):=((aaN (i64.wrap (x0.tdiv (10:Int)))).bind fun r1=>(if r1.size+(strOf [(u8.wrap (i64.wrap ((48:Int)+(x0.tmod (10:Int)))))]).size≤9223372036854775807 then(some (r1++(strOf [(u8.wrap (i64.wrap ((48:Int)+(x0.tmod (10:Int)))))]))) else none))
def yV.f:Nat→Int→Option (ByteArray)
 |0,_=>none
 |k+1,x0=>(if(x0<(10:Int)) then(some (strOf [(u8.wrap (i64.wrap ((48:Int)+x0)))])) else(yV.d3b k (yV.f k) x0))
def yV.d3 (k:Nat) (x0:Int):Option (ByteArray):=yV.d3b k (yV.f k) x0
def qp.d6 (k:Nat) (x0:Jq) (aA:Int) (aT:Jq):Option (af):=(if([]:Jq).length+x0.length≤1759218604441 then(if([]++x0).length+aT.length≤1759218604441 then(some (af.mk aA ByteArray.empty [] (0:Int) (([]++x0)++aT))) else none) else none)
def qp.d7 (k:Nat) (x0:Jq) (aA:Int) (aC:ByteArray) (bH:Jw) (dA:Int) (aT:Jq):Option (af):=(if([]:Jq).length+x0.length≤1759218604441 then(if([]++x0).length+ [(af.mk aA aC bH dA aT)].length≤1759218604441 then(some (af.mk (4:Int) ByteArray.empty [] (0:Int) (([]++x0)++ [(af.mk aA aC bH dA aT)]))) else none) else none)
def qp.f (k:Nat) (x0:Jq) (x1:af):Option (af):=(if((x0.length:Int)=(0:Int)) then(some (au x1)) else(if(x1.ak=(3:Int)) then(qp.d6 k x0 x1.ak x1.aj) else(if(x1.ak=(4:Int)) then(qp.d6 k x0 x1.ak x1.aj) else(qp.d7 k x0 x1.ak x1.aG x1.aB x1.aI x1.aj))))
def ql.BK (k:Nat) (Xd:Int→Jw→Int→Jw→Option (af×Jw×Int×Jw)) (DR:Int→Int→Int→Jw→Int→Jw→Int→ByteArray→Jw→Int→Jq→Option (af×Jw×Int×Jw)) (x1:Int) (vI:Bool) (aA:Jw) (aC:Int) (a1:Jw):Option (af×Jw×Int×Jw):=(if vI=true then((qi.f k (8:Int) aA aC).bind fun r1=>(if(r1.1=(0:Int)) then(some ((af.mk (2:Int) (ByteArray.mk #[49]) [] (0:Int) []),r1.2.1,r1.2.2,a1)) else(if(r1.1=(1:Int)) then(some ((af.mk (1:Int) (ByteArray.mk #[95]) [] (0:Int) []),r1.2.1,r1.2.2,a1)) else(if(r1.1=(2:Int)) then(some ((af.mk (1:Int) (ByteArray.mk #[101,108,115,101]) [] (0:Int) []),r1.2.1,r1.2.2,a1)) else(if(0:Int)<(a1.length:Int) then((yV.f k (a1.getD 0 (0:Int))).bind fun r2=>(if(ByteArray.mk #[112]).size+r2.size≤9223372036854775807 then(some ((af.mk (1:Int) ((ByteArray.mk #[112])++r2) [] (0:Int) []),r1.2.1,r1.2.2,a1)) else none)) else none))))) else((qi.f k (5:Int) aA aC).bind fun r3=>(DR x1 r3.1 (0:Int) r3.2.1 r3.2.2 a1 (3:Int) ByteArray.empty [] (0:Int) [])))
def ql.Zb (k:Nat) (Xd:Int→Jw→Int→Jw→Option (af×Jw×Int×Jw)) (DR:Int→Int→Int→Jw→Int→Jw→Int→ByteArray→Jw→Int→Jq→Option (af×Jw×Int×Jw)) (x1:Int) (x8:Int) (x9:Int) (aA:Jw) (aC:Int) (a1:Jw) (fP:Int) (ig:ByteArray) (jI:Jw) (jq:Int) (a4:Jq):Option (af×Jw×Int×Jw):=((Xd (i64.wrap (x1-(1:Int))) aA aC a1).bind fun r1=>(if a4.length+ [(au r1.1)].length≤1759218604441 then(if(x9=x8) then(if(a4++ [(au r1.1)]).length+ [(af.mk (1:Int) (ByteArray.mk #[46,46,46]) [] (0:Int) [])].length≤1759218604441 then(DR x1 x8 (i64.wrap (x9+(1:Int))) r1.2.1 r1.2.2.1 r1.2.2.2 fP ig jI jq ((a4++ [(au r1.1)])++ [(af.mk (1:Int) (ByteArray.mk #[46,46,46]) [] (0:Int) [])])) else none) else(DR x1 x8 (i64.wrap (x9+(1:Int))) r1.2.1 r1.2.2.1 r1.2.2.2 fP ig jI jq (a4++ [(au r1.1)]))) else none))
def ql.zC (k:Nat) (Xd:Int→Jw→Int→Jw→Option (af×Jw×Int×Jw)) (DR:Int→Int→Int→Jw→Int→Jw→Int→ByteArray→Jw→Int→Jq→Option (af×Jw×Int×Jw)) (aA:Jw) (aC:Int) (a1:Jw) (a4:Jq):Option (af×Jw×Int×Jw):=((Xd (0:Int) aA aC a1).bind fun r1=>((qp.f k a4 (au r1.1)).bind fun r2=>(some ((au r2),r1.2.1,r1.2.2.1,r1.2.2.2))))
mutual
def ql.f:Nat→Int→Jw→Int→Jw→Option (af×Jw×Int×Jw)
 |0,_,_,_,_=>none
 |k+1,x1,aA,aC,a1=>(if(0:Int)<(a1.length:Int) then(if(0:Int)<(a1.length:Int) then(if(x1≤(0:Int)) then(ql.BK k (ql.f k) (ql.iO k) x1 true aA aC (a1.set 0 (i64.wrap ((a1.getD 0 (0:Int))+(1:Int))))) else((qi.f k (3:Int) aA aC).bind fun r1=>(ql.BK k (ql.f k) (ql.iO k) x1 (decide (r1.1=(0:Int))) r1.2.1 r1.2.2 (a1.set 0 (i64.wrap ((a1.getD 0 (0:Int))+(1:Int))))))) else none) else none)
def ql.iO:Nat→Int→Int→Int→Jw→Int→Jw→Int→ByteArray→Jw→Int→Jq→Option (af×Jw×Int×Jw)
 |0,_,_,_,_,_,_,_,_,_,_,_=>none
 |k+1,x1,x8,x9,aA,aC,a1,fP,ig,jI,jq,a4=>(if(x9<(3:Int)) then((qi.f k (4:Int) aA aC).bind fun r1=>(if(r1.1=(0:Int)) then(ql.iO k x1 x8 (i64.wrap (x9+(1:Int))) r1.2.1 r1.2.2 a1 fP ig jI jq a4) else(ql.Zb k (ql.f k) (ql.iO k) x1 x8 x9 r1.2.1 r1.2.2 a1 fP ig jI jq a4))) else((qi.f k (5:Int) aA aC).bind fun r2=>(if(r2.1=(0:Int)) then(if((0:Int)<(a4.length:Int)) then(ql.zC k (ql.f k) (ql.iO k) r2.2.1 r2.2.2 a1 a4) else(some ((af.mk fP ig jI jq a4),r2.2.1,r2.2.2,a1))) else(some ((af.mk fP ig jI jq a4),r2.2.1,r2.2.2,a1)))))
end
def ql.j3 (k:Nat) (x1:Int) (vI:Bool) (aA:Jw) (aC:Int) (a1:Jw):Option (af×Jw×Int×Jw):=ql.BK k (ql.f k) (ql.iO k) x1 vI aA aC a1
def ql.d17 (k:Nat) (x1:Int) (x8:Int) (x9:Int) (aA:Jw) (aC:Int) (a1:Jw) (fP:Int) (ig:ByteArray) (jI:Jw) (jq:Int) (a4:Jq):Option (af×Jw×Int×Jw):=ql.Zb k (ql.f k) (ql.iO k) x1 x8 x9 aA aC a1 fP ig jI jq a4
def ql.d21 (k:Nat) (aA:Jw) (aC:Int) (a1:Jw) (a4:Jq):Option (af×Jw×Int×Jw):=ql.zC k (ql.f k) (ql.iO k) aA aC a1 a4
def P9.f (k:Nat) (x0:Int) (x1:Int):Option (Int):=(if(x0<x1) then(some x0) else(some x1))
def Aj.f (k:Nat) (x1:Jk) (aA:Jw) (aC:Int):Option (ByteArray×Jw×Int):=((qi.f k (x1.length:Int) aA aC).bind fun r1=>(if(0:Int)≤r1.1 then(if r1.1<(x1.length:Int) then(some ((aF ByteArray.empty x1 r1.1),r1.2.1,r1.2.2)) else none) else none))
def qn.l3:Nat→Int→Jw→Int→Int→ByteArray→Int→Jq→Jw→Option (af×Jw×Int)
 |0,_,_,_,_,_,_,_,_=>none
 |k+1,x4,aA,aC,aQ,a_,bC,dH,a3=>(if(x4<(3:Int)) then((qi.f k (3:Int) aA aC).bind fun r1=>(if(r1.1=(0:Int)) then(if a3.length+ [x4].length≤17592186044416 then(qn.l3 k (i64.wrap (x4+(1:Int))) r1.2.1 r1.2.2 aQ a_ bC dH (a3++ [x4])) else none) else(qn.l3 k (i64.wrap (x4+(1:Int))) r1.2.1 r1.2.2 aQ a_ bC dH a3))) else(some ((af.mk aQ a_ a3 bC dH),aA,aC)))
def qn.f (k:Nat) (aA:Jw) (aC:Int):Option (af×Jw×Int):=((Aj.f k [(ByteArray.mk #[97]),(ByteArray.mk #[98]),(ByteArray.mk #[99]),(ByteArray.mk #[101,108,115,101])] aA aC).bind fun r1=>((qi.f k (9:Int) r1.2.1 r1.2.2).bind fun r2=>(qn.l3 k (0:Int) r2.2.1 r2.2.2 (1:Int) r1.1 r2.1 [] [])))
def q7.d15 (k:Nat) (aA:Jw) (aC:Int) (aQ:Int) (a_:ByteArray) (bI:Jw) (bC:Int) (a3:Jq):Option (af×Jw×Int):=((qn.f k aA aC).bind fun r1=>(if a3.length+ [(au r1.1)].length≤1759218604441 then(some ((af.mk aQ a_ bI bC (a3++ [(au r1.1)])),r1.2.1,r1.2.2)) else none))
def q7.tu (k:Nat) (Ih:Int→Jw→Int→Option (af×Jw×Int)) (sH:Int→Int→Jw→Int→Int→ByteArray→Jw→Int→Jq→Option (af×Jw×Int)) (sJ:Int→Int→Jw→Int→Int→ByteArray→Jw→Int→Jq→Option (af×Jw×Int)) (x1:Int) (x14:Int) (x15:Bool) (aA:Jw) (aC:Int):Option (af×Jw×Int):=(if x15=true then((qn.f k aA aC).bind fun r1=>(some ((au r1.1),r1.2.1,r1.2.2))) else(if(x14=(2:Int)) then((Aj.f k [(ByteArray.mk #[49]),(ByteArray.mk #[35,116]),(ByteArray.mk #[34,115,34]),(ByteArray.mk #[45,55])] aA aC).bind fun r2=>(some ((af.mk (2:Int) r2.1 [] (0:Int) []),r2.2.1,r2.2.2))) else(if(x14=(3:Int)) then(some ((af.mk (3:Int) ByteArray.empty [] (0:Int) []),aA,aC)) else(if(x14=(4:Int)) then((qi.f k (2:Int) aA aC).bind fun r3=>(sH x1 (i64.wrap ((1:Int)+r3.1)) r3.2.1 r3.2.2 (4:Int) ByteArray.empty [] (0:Int) [])) else((qi.f k (4:Int) aA aC).bind fun r4=>(sJ x1 r4.1 r4.2.1 r4.2.2 (3:Int) ByteArray.empty [] (0:Int) []))))))
def q7.Ii (k:Nat) (Ih:Int→Jw→Int→Option (af×Jw×Int)) (sH:Int→Int→Jw→Int→Int→ByteArray→Jw→Int→Jq→Option (af×Jw×Int)) (sJ:Int→Int→Jw→Int→Int→ByteArray→Jw→Int→Jq→Option (af×Jw×Int)) (x1:Int) (x6:Int) (aA:Jw) (aC:Int) (aQ:Int) (a_:ByteArray) (bI:Jw) (bC:Int) (a3:Jq):Option (af×Jw×Int):=((Ih (i64.wrap (x1-(1:Int))) aA aC).bind fun r1=>(if a3.length+ [(au r1.1)].length≤1759218604441 then(sH x1 (i64.wrap (x6-(1:Int))) r1.2.1 r1.2.2 aQ a_ bI bC (a3++ [(au r1.1)])) else none))
def q7.zC (k:Nat) (Ih:Int→Jw→Int→Option (af×Jw×Int)) (sH:Int→Int→Jw→Int→Int→ByteArray→Jw→Int→Jq→Option (af×Jw×Int)) (sJ:Int→Int→Jw→Int→Int→ByteArray→Jw→Int→Jq→Option (af×Jw×Int)) (x1:Int) (x8:Int) (aA:Jw) (aC:Int) (aQ:Int) (a_:ByteArray) (bI:Jw) (bC:Int) (a3:Jq):Option (af×Jw×Int):=((Ih (i64.wrap (x1-(1:Int))) aA aC).bind fun r1=>(if a3.length+ [(au r1.1)].length≤1759218604441 then(sJ x1 (i64.wrap (x8-(1:Int))) r1.2.1 r1.2.2 aQ a_ bI bC (a3++ [(au r1.1)])) else none))
mutual
def q7.f:Nat→Int→Jw→Int→Option (af×Jw×Int)
 |0,_,_,_=>none
 |k+1,x1,aA,aC=>((P9.f k x1 (1:Int)).bind fun r1=>((qi.f k (i64.wrap ((4:Int)+(i64.wrap ((3:Int)*r1)))) aA aC).bind fun r2=>(if(r2.1=(0:Int)) then(q7.tu k (q7.f k) (q7.l12 k) (q7.tX k) x1 r2.1 true r2.2.1 r2.2.2) else(q7.tu k (q7.f k) (q7.l12 k) (q7.tX k) x1 r2.1 (decide (r2.1=(1:Int))) r2.2.1 r2.2.2))))
def q7.l12:Nat→Int→Int→Jw→Int→Int→ByteArray→Jw→Int→Jq→Option (af×Jw×Int)
 |0,_,_,_,_,_,_,_,_,_=>none
 |k+1,x1,x6,aA,aC,aQ,a_,bI,bC,a3=>(if((0:Int)<x6) then(q7.Ii k (q7.f k) (q7.l12 k) (q7.tX k) x1 x6 aA aC aQ a_ bI bC a3) else(q7.d15 k aA aC aQ a_ bI bC a3))
def q7.tX:Nat→Int→Int→Jw→Int→Int→ByteArray→Jw→Int→Jq→Option (af×Jw×Int)
 |0,_,_,_,_,_,_,_,_,_=>none
 |k+1,x1,x8,aA,aC,aQ,a_,bI,bC,a3=>(if((0:Int)<x8) then(q7.zC k (q7.f k) (q7.l12 k) (q7.tX k) x1 x8 aA aC aQ a_ bI bC a3) else(some ((af.mk aQ a_ bI bC a3),aA,aC)))
end
def q7.j4 (k:Nat) (x1:Int) (x14:Int) (x15:Bool) (aA:Jw) (aC:Int):Option (af×Jw×Int):=q7.tu k (q7.f k) (q7.l12 k) (q7.tX k) x1 x14 x15 aA aC
def q7.d14 (k:Nat) (x1:Int) (x6:Int) (aA:Jw) (aC:Int) (aQ:Int) (a_:ByteArray) (bI:Jw) (bC:Int) (a3:Jq):Option (af×Jw×Int):=q7.Ii k (q7.f k) (q7.l12 k) (q7.tX k) x1 x6 aA aC aQ a_ bI bC a3
def q7.d21 (k:Nat) (x1:Int) (x8:Int) (aA:Jw) (aC:Int) (aQ:Int) (a_:ByteArray) (bI:Jw) (bC:Int) (a3:Jq):Option (af×Jw×Int):=q7.zC k (q7.f k) (q7.l12 k) (q7.tX k) x1 x8 aA aC aQ a_ bI bC a3
mutual
def qu.f:Nat→af→Option (Int×ByteArray×Int×Jw×Jq)
 |0,_=>none
 |k+1,x0=>(if([]:Jw).length+x0.aB.length≤17592186044416 then((Bj.f k x0.aj).bind fun r1=>(some (x0.ak,x0.aG,x0.aI,([]++x0.aB),r1))) else none)
def Bj.f:Nat→Jq→Option (Jq)
 |0,_=>none
 |k+1,x0=>(Bj.l3 k x0 (0:Int) [])
def Bj.l3:Nat→Jq→Int→Jq→Option (Jq)
 |0,_,_,_=>none
 |k+1,x0,x4,a0=>(if(x4<(x0.length:Int)) then(if(0:Int)≤x4 then(if x4<(x0.length:Int) then((qu.f k (au (aF ah x0 x4))).bind fun r1=>(if a0.length+ [(af.mk r1.1 r1.2.1 r1.2.2.2.1 r1.2.2.1 r1.2.2.2.2)].length≤1759218604441 then(Bj.l3 k x0 (i64.wrap (x4+(1:Int))) (a0++ [(af.mk r1.1 r1.2.1 r1.2.2.2.1 r1.2.2.1 r1.2.2.2.2)])) else none)) else none) else none) else(some a0))
end
def wS.f (k:Nat) (x0:af):Option (Jq):=(if(x0.ak=(4:Int)) then(if(0:Int)≤(i64.wrap ((x0.aj.length:Int)-(1:Int))) then(if(i64.wrap ((x0.aj.length:Int)-(1:Int)))≤(x0.aj.length:Int) then(some ((x0.aj.take (i64.wrap ((x0.aj.length:Int)-(1:Int))).toNat).drop 0)) else none) else none) else(some x0.aj))
def q11.f (k:Nat) (x0:af):Option (Bool):=(if(x0.ak=(1:Int)) then(some (decide (x0.aG.toList=(ByteArray.mk #[46,46,46]).toList))) else(some false))
def qd.tu (k:Nat) (U8:af→Jw→Int→Option (af×Jw×Int)) (Ij:Jq→Int→Jw→Int→Int→Jq→Int→ByteArray→Jw→Int→Jq→Option (af×Jw×Int)) (DT:Jq→Int→Int→Jw→Int→Int→Jq→Int→ByteArray→Jw→Int→Jq→Option (af×Jw×Int)) (x14:Bool) (aA:Jw) (aC:Int) (aU:Int) (bK:ByteArray) (b_:Jw) (bV:Int) (aX:Jq):Option (af×Jw×Int):=(if x14=true then((qu.f k (af.mk aU bK b_ bV aX)).bind fun r1=>(some ((af.mk r1.1 r1.2.1 r1.2.2.2.1 r1.2.2.1 r1.2.2.2.2),aA,aC))) else(if(aU=(1:Int)) then((q7.f k (1:Int) aA aC).bind fun r2=>(some ((au r2.1),r2.2.1,r2.2.2))) else(if(aU=(2:Int)) then((qu.f k (af.mk aU bK b_ bV aX)).bind fun r3=>(some ((af.mk r3.1 r3.2.1 r3.2.2.2.1 r3.2.2.1 r3.2.2.2.2),aA,aC))) else((wS.f k (af.mk aU bK b_ bV aX)).bind fun r4=>(Ij r4 (0:Int) aA aC aU aX (3:Int) ByteArray.empty [] (0:Int) [])))))
def qd.U9 (k:Nat) (U8:af→Jw→Int→Option (af×Jw×Int)) (Ij:Jq→Int→Jw→Int→Int→Jq→Int→ByteArray→Jw→Int→Jq→Option (af×Jw×Int)) (DT:Jq→Int→Int→Jw→Int→Int→Jq→Int→ByteArray→Jw→Int→Jq→Option (af×Jw×Int)) (x6:Jq) (x7:Int) (x8:Int) (aA:Jw) (aC:Int) (aU:Int) (aX:Jq) (fP:Int) (ig:ByteArray) (jI:Jw) (jq:Int) (a4:Jq):Option (af×Jw×Int):=(DT x6 x7 x8 aA aC aU aX fP ig jI jq a4)
def qd.NK (k:Nat) (U8:af→Jw→Int→Option (af×Jw×Int)) (Ij:Jq→Int→Jw→Int→Int→Jq→Int→ByteArray→Jw→Int→Jq→Option (af×Jw×Int)) (DT:Jq→Int→Int→Jw→Int→Int→Jq→Int→ByteArray→Jw→Int→Jq→Option (af×Jw×Int)) (x6:Jq) (x7:Int) (x8:Int) (aA:Jw) (aC:Int) (aU:Int) (aX:Jq) (fP:Int) (ig:ByteArray) (jI:Jw) (jq:Int) (a4:Jq):Option (af×Jw×Int):=(if(0:Int)≤x7 then(if x7<(x6.length:Int) then((U8 (au (aF ah x6 x7)) aA aC).bind fun r1=>(if a4.length+ [(au r1.1)].length≤1759218604441 then(DT x6 x7 (i64.wrap (x8-(1:Int))) r1.2.1 r1.2.2 aU aX fP ig jI jq (a4++ [(au r1.1)])) else none)) else none) else none)
def qd.NL (k:Nat) (U8:af→Jw→Int→Option (af×Jw×Int)) (Ij:Jq→Int→Jw→Int→Int→Jq→Int→ByteArray→Jw→Int→Jq→Option (af×Jw×Int)) (DT:Jq→Int→Int→Jw→Int→Int→Jq→Int→ByteArray→Jw→Int→Jq→Option (af×Jw×Int)) (aA:Jw) (aC:Int) (aX:Jq) (a4:Jq):Option (af×Jw×Int):=(if(0:Int)≤(i64.wrap ((aX.length:Int)-(1:Int))) then(if(i64.wrap ((aX.length:Int)-(1:Int)))<(aX.length:Int) then((U8 (au (aF ah aX (i64.wrap ((aX.length:Int)-(1:Int))))) aA aC).bind fun r1=>((qp.f k a4 (au r1.1)).bind fun r2=>(some ((au r2),r1.2.1,r1.2.2)))) else none) else none)
mutual
def qd.f:Nat→af→Jw→Int→Option (af×Jw×Int)
 |0,_,_,_=>none
 |k+1,x1,aA,aC=>((qi.f k (24:Int) aA aC).bind fun r1=>(if(r1.1=(0:Int)) then((q7.f k (1:Int) r1.2.1 r1.2.2).bind fun r2=>(some ((au r2.1),r2.2.1,r2.2.2))) else(if(x1.ak=(1:Int)) then(qd.tu k (qd.f k) (qd.l12 k) (qd.lG k) (decide (x1.aG.toList=(ByteArray.mk #[101,108,115,101]).toList)) r1.2.1 r1.2.2 x1.ak x1.aG x1.aB x1.aI x1.aj) else(qd.tu k (qd.f k) (qd.l12 k) (qd.lG k) false r1.2.1 r1.2.2 x1.ak x1.aG x1.aB x1.aI x1.aj))))
def qd.l12:Nat→Jq→Int→Jw→Int→Int→Jq→Int→ByteArray→Jw→Int→Jq→Option (af×Jw×Int)
 |0,_,_,_,_,_,_,_,_,_,_,_=>none
 |k+1,x6,x7,aA,aC,aU,aX,fP,ig,jI,jq,a4=>(if(x7<(x6.length:Int)) then(if(0:Int)≤x7 then(if x7<(x6.length:Int) then((q11.f k (au (aF ah x6 x7))).bind fun r1=>(if r1=true then(qd.l12 k x6 (i64.wrap (x7+(1:Int))) aA aC aU aX fP ig jI jq a4) else(if((i64.wrap (x7+(1:Int)))<(x6.length:Int)) then(if(0:Int)≤(i64.wrap (x7+(1:Int))) then(if(i64.wrap (x7+(1:Int)))<(x6.length:Int) then((q11.f k (au (aF ah x6 (i64.wrap (x7+(1:Int)))))).bind fun r2=>(if r2=true then((qi.f k (4:Int) aA aC).bind fun r3=>(qd.U9 k (qd.f k) (qd.l12 k) (qd.lG k) x6 x7 r3.1 r3.2.1 r3.2.2 aU aX fP ig jI jq a4)) else(qd.U9 k (qd.f k) (qd.l12 k) (qd.lG k) x6 x7 (1:Int) aA aC aU aX fP ig jI jq a4))) else none) else none) else(qd.U9 k (qd.f k) (qd.l12 k) (qd.lG k) x6 x7 (1:Int) aA aC aU aX fP ig jI jq a4)))) else none) else none) else(if(aU=(4:Int)) then(qd.NL k (qd.f k) (qd.l12 k) (qd.lG k) aA aC aX a4) else(some ((af.mk fP ig jI jq a4),aA,aC))))
def qd.lG:Nat→Jq→Int→Int→Jw→Int→Int→Jq→Int→ByteArray→Jw→Int→Jq→Option (af×Jw×Int)
 |0,_,_,_,_,_,_,_,_,_,_,_,_=>none
 |k+1,x6,x7,x8,aA,aC,aU,aX,fP,ig,jI,jq,a4=>(if((0:Int)<x8) then(qd.NK k (qd.f k) (qd.l12 k) (qd.lG k) x6 x7 x8 aA aC aU aX fP ig jI jq a4) else(qd.l12 k x6 (i64.wrap (x7+(1:Int))) aA aC aU aX fP ig jI jq a4))
end
def qd.j4 (k:Nat) (x14:Bool) (aA:Jw) (aC:Int) (aU:Int) (bK:ByteArray) (b_:Jw) (bV:Int) (aX:Jq):Option (af×Jw×Int):=qd.tu k (qd.f k) (qd.l12 k) (qd.lG k) x14 aA aC aU bK b_ bV aX
def qd.j18 (k:Nat) (x6:Jq) (x7:Int) (x8:Int) (aA:Jw) (aC:Int) (aU:Int) (aX:Jq) (fP:Int) (ig:ByteArray) (jI:Jw) (jq:Int) (a4:Jq):Option (af×Jw×Int):=qd.U9 k (qd.f k) (qd.l12 k) (qd.lG k) x6 x7 x8 aA aC aU aX fP ig jI jq a4
def qd.d20 (k:Nat) (x6:Jq) (x7:Int) (x8:Int) (aA:Jw) (aC:Int) (aU:Int) (aX:Jq) (fP:Int) (ig:ByteArray) (jI:Jw) (jq:Int) (a4:Jq):Option (af×Jw×Int):=qd.NK k (qd.f k) (qd.l12 k) (qd.lG k) x6 x7 x8 aA aC aU aX fP ig jI jq a4
def qd.d22 (k:Nat) (aA:Jw) (aC:Int) (aX:Jq) (a4:Jq):Option (af×Jw×Int):=qd.NL k (qd.f k) (qd.l12 k) (qd.lG k) aA aC aX a4
def q24.l2:Nat→ByteArray→Int→Option (Bool)
 |0,_,_=>none
 |k+1,x0,x3=>(if(x3<(x0.size:Int)) then(if(0:Int)≤x3 then(if x3<(x0.size:Int) then(if((bt x0 x3)<(48:Int)) then(some false) else(if(0:Int)≤x3 then(if x3<(x0.size:Int) then(if((57:Int)<(bt x0 x3)) then(some false) else(q24.l2 k x0 (i64.wrap (x3+(1:Int))))) else none) else none)) else none) else none) else(some (decide ((0:Int)<(x0.size:Int)))))
def q24.f (k:Nat) (x0:ByteArray):Option (Bool):=(q24.l2 k x0 (0:Int))
def q12.l6:Nat→ByteArray→Int→Option (Bool)
 |0,_,_=>none
 |k+1,x0,x3=>(if(x3<(i64.wrap ((x0.size:Int)-(1:Int)))) then(if(0:Int)≤x3 then(if x3<(x0.size:Int) then(if((bt x0 x3)=(34:Int)) then(some false) else(if(0:Int)≤x3 then(if x3<(x0.size:Int) then(if((bt x0 x3)<(32:Int)) then(some false) else(if(0:Int)≤x3 then(if x3<(x0.size:Int) then(if((126:Int)<(bt x0 x3)) then(some false) else(q12.l6 k x0 (i64.wrap (x3+(1:Int))))) else none) else none)) else none) else none)) else none) else none) else(some true))
def q12.j5 (k:Nat) (x0:ByteArray):Option (Bool):=(q12.l6 k x0 (1:Int))
def q12.j3 (k:Nat) (x0:ByteArray):Option (Bool):=(if((x0.size:Int)<(2:Int)) then(some false) else(if(0:Int)<(x0.size:Int) then(if(¬(bt x0 (0:Int))=(34:Int)) then(some false) else(if(0:Int)≤(i64.wrap ((x0.size:Int)-(1:Int))) then(if(i64.wrap ((x0.size:Int)-(1:Int)))<(x0.size:Int) then(if(¬(bt x0 (i64.wrap ((x0.size:Int)-(1:Int))))=(34:Int)) then(some false) else(q12.j5 k x0)) else none) else none)) else none))
def q12.f (k:Nat) (x0:ByteArray):Option (Bool):=(if(x0.toList=(ByteArray.mk #[35,116]).toList) then(some true) else(if(x0.toList=(ByteArray.mk #[35,102]).toList) then(some true) else((q24.f k x0).bind fun r1=>(if r1=true then(some true) else(if((1:Int)<(x0.size:Int)) then(if(0:Int)<(x0.size:Int) then(if((bt x0 (0:Int))=(45:Int)) then(if(1:Int)≤(x0.size:Int) then(if(x0.size:Int)≤(x0.size:Int) then((q24.f k (x0.extract 1 (x0.size:Int).toNat)).bind fun r2=>(if r2=true then(some true) else(q12.j3 k x0))) else none) else none) else(q12.j3 k x0)) else none) else(q12.j3 k x0))))))
def Ri.f (k:Nat) (x0:Int):Option (Bool):=(if(x0=(32:Int)) then(some true) else(some (decide (x0=(10:Int)))))
def P_.f (k:Nat) (x0:Int):Option (Bool):=((Ri.f k x0).bind fun r1=>(if r1=true then(some true) else(if(x0=(40:Int)) then(some true) else(if(x0=(41:Int)) then(some true) else(if(x0=(34:Int)) then(some true) else(some (decide (x0=(39:Int)))))))))
def Bl.l4:Nat→ByteArray→Int→Option (Bool)
 |0,_,_=>none
 |k+1,x0,x3=>(if(x3<(x0.size:Int)) then(if(0:Int)≤x3 then(if x3<(x0.size:Int) then((P_.f k (bt x0 x3)).bind fun r1=>(if r1=true then(some false) else(if(0:Int)≤x3 then(if x3<(x0.size:Int) then(if((bt x0 x3)<(33:Int)) then(some false) else(if(0:Int)≤x3 then(if x3<(x0.size:Int) then(if((126:Int)<(bt x0 x3)) then(some false) else(if(0:Int)≤x3 then(if x3<(x0.size:Int) then(if((bt x0 x3)=(126:Int)) then(some false) else(Bl.l4 k x0 (i64.wrap (x3+(1:Int))))) else none) else none)) else none) else none)) else none) else none))) else none) else none) else(some true))
def Bl.j3 (k:Nat) (x0:ByteArray):Option (Bool):=(Bl.l4 k x0 (0:Int))
def Bl.f (k:Nat) (x0:ByteArray):Option (Bool):=(if(x0.toList=(ByteArray.mk #[]).toList) then(some false) else(if(x0.toList=(ByteArray.mk #[46]).toList) then(some false) else((q12.f k x0).bind fun r1=>(if r1=true then(some false) else(if(0:Int)<(x0.size:Int) then(if((bt x0 (0:Int))=(35:Int)) then(some false) else(Bl.j3 k x0)) else none)))))
def Ik.l2:Nat→Jw→Int→Option (Bool)
 |0,_,_=>none
 |k+1,x0,x3=>(if(x3<(x0.length:Int)) then(if(0:Int)≤x3 then(if x3<(x0.length:Int) then(if((aF (0:Int) x0 x3)<(0:Int)) then(some false) else(if((0:Int)<x3) then(if(0:Int)≤(i64.wrap (x3-(1:Int))) then(if(i64.wrap (x3-(1:Int)))<(x0.length:Int) then(if(0:Int)≤x3 then(if x3<(x0.length:Int) then(if((aF (0:Int) x0 x3)≤(aF (0:Int) x0 (i64.wrap (x3-(1:Int))))) then(some false) else(Ik.l2 k x0 (i64.wrap (x3+(1:Int))))) else none) else none) else none) else none) else(Ik.l2 k x0 (i64.wrap (x3+(1:Int)))))) else none) else none) else(some true))
def Ik.f (k:Nat) (x0:Jw):Option (Bool):=(Ik.l2 k x0 (0:Int))
def qo.Zc (k:Nat) (aaO:af→Int→Option (Bool)) (NM:Int→Int→Int→Jq→Option (Bool)) (x1:Int) (aA:Int) (aT:Jq):Option (Bool):=(NM x1 (0:Int) aA aT)
def qo.Il (k:Nat) (aaO:af→Int→Option (Bool)) (NM:Int→Int→Int→Jq→Option (Bool)) (x1:Int) (Yf:Bool) (aA:Int) (aC:ByteArray) (bH:Jw) (dA:Int) (aT:Jq):Option (Bool):=(if Yf=true then(if(¬aC.toList=(ByteArray.mk #[]).toList) then(some false) else(if(¬dA=(0:Int)) then(some false) else(if((0:Int)<(bH.length:Int)) then(some false) else(qo.Zc k aaO NM x1 aA aT)))) else(some false))
mutual
def qo.f:Nat→af→Int→Option (Bool)
 |0,_,_=>none
 |k+1,x0,x1=>(if((60:Int)<x1) then(some false) else(if(x0.ak=(1:Int)) then((Bl.f k x0.aG).bind fun r1=>(if r1=true then(if((x0.aG.size:Int)≤(40:Int)) then(if((0:Int)≤x0.aI) then((Ik.f k x0.aB).bind fun r2=>(if r2=true then(some (decide ((x0.aj.length:Int)=(0:Int)))) else(some false))) else(some false)) else(some false)) else(some false))) else(if(x0.ak=(2:Int)) then((q12.f k x0.aG).bind fun r3=>(if r3=true then(if((x0.aG.size:Int)≤(40:Int)) then(if(x0.aI=(0:Int)) then(some (decide ((i64.wrap ((x0.aB.length:Int)+(x0.aj.length:Int)))=(0:Int)))) else(some false)) else(some false)) else(some false))) else(if(x0.ak=(3:Int)) then(qo.Il k (qo.f k) (qo.iO k) x1 true x0.ak x0.aG x0.aB x0.aI x0.aj) else(qo.Il k (qo.f k) (qo.iO k) x1 (decide (x0.ak=(4:Int))) x0.ak x0.aG x0.aB x0.aI x0.aj)))))
def qo.iO:Nat→Int→Int→Int→Jq→Option (Bool)
 |0,_,_,_,_=>none
 |k+1,x1,x5,aA,aT=>(if(x5<(aT.length:Int)) then(if(0:Int)≤x5 then(if x5<(aT.length:Int) then((qo.f k (au (aF ah aT x5)) (i64.wrap (x1+(1:Int)))).bind fun r1=>(if(¬r1=true) then(some false) else(qo.iO k x1 (i64.wrap (x5+(1:Int))) aA aT))) else none) else none) else(if(aA=(3:Int)) then(some true) else(if((1:Int)<(aT.length:Int)) then(if(0:Int)≤(i64.wrap ((aT.length:Int)-(1:Int))) then(if(i64.wrap ((aT.length:Int)-(1:Int)))<(aT.length:Int) then(if((aF ah aT (i64.wrap ((aT.length:Int)-(1:Int)))).ak=(1:Int)) then(some true) else(if(0:Int)≤(i64.wrap ((aT.length:Int)-(1:Int))) then(if(i64.wrap ((aT.length:Int)-(1:Int)))<(aT.length:Int) then(some (decide ((aF ah aT (i64.wrap ((aT.length:Int)-(1:Int)))).ak=(2:Int)))) else none) else none)) else none) else none) else(some false))))
end
def qo.j13 (k:Nat) (x1:Int) (aA:Int) (aT:Jq):Option (Bool):=qo.Zc k (qo.f k) (qo.iO k) x1 aA aT
def qo.j11 (k:Nat) (x1:Int) (Yf:Bool) (aA:Int) (aC:ByteArray) (bH:Jw) (dA:Int) (aT:Jq):Option (Bool):=qo.Il k (qo.f k) (qo.iO k) x1 Yf aA aC bH dA aT
mutual
def yj.f:Nat→af→Option (Int)
 |0,_=>none
 |k+1,x0=>(yj.l3 k (1:Int) (0:Int) x0.aj)
def yj.l3:Nat→Int→Int→Jq→Option (Int)
 |0,_,_,_=>none
 |k+1,x3,x4,aT=>(if(x4<(aT.length:Int)) then(if(0:Int)≤x4 then(if x4<(aT.length:Int) then((yj.f k (au (aF ah aT x4))).bind fun r1=>(yj.l3 k (i64.wrap (x3+r1)) (i64.wrap (x4+(1:Int))) aT)) else none) else none) else(some x3))
end
def q13.f (k:Nat) (x0:af):Option (Bool):=((qo.f k (au x0) (0:Int)).bind fun r1=>(if r1=true then((yj.f k (au x0)).bind fun r2=>(some (decide (r2≤(1500:Int))))) else(some false)))
def I4.f (k:Nat) (x0:af):Option (Bool):=(if(x0.ak=(1:Int)) then(some (decide (x0.aG.toList=(ByteArray.mk #[95]).toList))) else(some false))
def EM.l2:Nat→Jq→Int→Option (Bool)
 |0,_,_=>none
 |k+1,x0,x3=>(if(x3<(x0.length:Int)) then(if(0:Int)≤x3 then(if x3<(x0.length:Int) then((q13.f k (au (aF ah x0 x3))).bind fun r1=>(if(¬r1=true) then(some false) else(if(0:Int)≤x3 then(if x3<(x0.length:Int) then(if(¬(aF ah x0 x3).ak=(1:Int)) then(some false) else(if(0:Int)≤x3 then(if x3<(x0.length:Int) then((q11.f k (au (aF ah x0 x3))).bind fun r2=>(if r2=true then(some false) else(if(0:Int)≤x3 then(if x3<(x0.length:Int) then((I4.f k (au (aF ah x0 x3))).bind fun r3=>(if r3=true then(some false) else(EM.l2 k x0 (i64.wrap (x3+(1:Int)))))) else none) else none))) else none) else none)) else none) else none))) else none) else none) else(some true))
def EM.f (k:Nat) (x0:Jq):Option (Bool):=(EM.l2 k x0 (0:Int))
def q16.l4:Nat→Int→Jq→Int→Option (Int)
 |0,_,_,_=>none
 |k+1,x3,x4,x5=>(if(x5<(x4.length:Int)) then(if(0:Int)≤x5 then(if x5<(x4.length:Int) then((q11.f k (au (aF ah x4 x5))).bind fun r1=>(if r1=true then(if((0:Int)≤x3) then(some (-2:Int)) else(if(x5=(0:Int)) then(some (-2:Int)) else(q16.l4 k (i64.wrap (x5-(1:Int))) x4 (i64.wrap (x5+(1:Int)))))) else(q16.l4 k x3 x4 (i64.wrap (x5+(1:Int)))))) else none) else none) else(some x3))
def q16.f (k:Nat) (x0:af):Option (Int):=((wS.f k (au x0)).bind fun r1=>(q16.l4 k (-1:Int) r1 (0:Int)))
def qs.uP (k:Nat) (ad6:af→Option (Bool)) (aaP:Int→Jq→Option (Bool)) (aT:Jq):Option (Bool):=(aaP (0:Int) aT)
mutual
def qs.f:Nat→af→Option (Bool)
 |0,_=>none
 |k+1,x0=>(if(x0.ak=(1:Int)) then((q11.f k (au x0)).bind fun r1=>(some (decide (¬r1=true)))) else(if(x0.ak=(2:Int)) then(some true) else((q16.f k (au x0)).bind fun r2=>(if(r2=(-2:Int)) then(some false) else(if(x0.ak=(4:Int)) then(if(0:Int)≤(i64.wrap ((x0.aj.length:Int)-(1:Int))) then(if(i64.wrap ((x0.aj.length:Int)-(1:Int)))<(x0.aj.length:Int) then((q11.f k (au (aF ah x0.aj (i64.wrap ((x0.aj.length:Int)-(1:Int)))))).bind fun r3=>(if r3=true then(some false) else(qs.uP k (qs.f k) (qs.l8 k) x0.aj))) else none) else none) else(qs.uP k (qs.f k) (qs.l8 k) x0.aj))))))
def qs.l8:Nat→Int→Jq→Option (Bool)
 |0,_,_=>none
 |k+1,x3,aT=>(if(x3<(aT.length:Int)) then(if(0:Int)≤x3 then(if x3<(aT.length:Int) then((q11.f k (au (aF ah aT x3))).bind fun r1=>(if(¬r1=true) then(if(0:Int)≤x3 then(if x3<(aT.length:Int) then((qs.f k (au (aF ah aT x3))).bind fun r2=>(if(¬r2=true) then(some false) else(qs.l8 k (i64.wrap (x3+(1:Int))) aT))) else none) else none) else(qs.l8 k (i64.wrap (x3+(1:Int))) aT))) else none) else none) else(some true))
end
def qs.j7 (k:Nat) (aT:Jq):Option (Bool):=qs.uP k (qs.f k) (qs.l8 k) aT
def Io.l4:Nat→Jw→Jw→Int→Option (Bool)
 |0,_,_,_=>none
 |k+1,x0,x1,x5=>(if(x5<(x0.length:Int)) then(if(0:Int)≤x5 then(if x5<(x0.length:Int) then(if(0:Int)≤x5 then(if x5<(x1.length:Int) then(if(¬(aF (0:Int) x0 x5)=(aF (0:Int) x1 x5)) then(some false) else(Io.l4 k x0 x1 (i64.wrap (x5+(1:Int))))) else none) else none) else none) else none) else(some true))
def Io.f (k:Nat) (x0:Jw) (x1:Jw):Option (Bool):=(if(¬(x0.length:Int)=(x1.length:Int)) then(some false) else(Io.l4 k x0 x1 (0:Int)))
def Qa.f (k:Nat) (x0:af) (x1:af):Option (Bool):=(if(x0.ak=(1:Int)) then(if(x1.ak=(1:Int)) then(if(x0.aG.toList=x1.aG.toList) then((Io.f k x0.aB x1.aB).bind fun r1=>(some r1)) else(some false)) else(some false)) else(some false))
def xG.l2:Nat→Jq→Int→Int→ByteArray→Jw→Int→Jq→Option (Bool)
 |0,_,_,_,_,_,_,_=>none
 |k+1,x0,x5,aA,aC,bH,dA,aT=>(if(x5<(x0.length:Int)) then(if(0:Int)≤x5 then(if x5<(x0.length:Int) then((Qa.f k (au (aF ah x0 x5)) (af.mk aA aC bH dA aT)).bind fun r1=>(if r1=true then(some true) else(xG.l2 k x0 (i64.wrap (x5+(1:Int))) aA aC bH dA aT))) else none) else none) else(some false))
def xG.f (k:Nat) (x0:Jq) (x1:af):Option (Bool):=(xG.l2 k x0 (0:Int) x1.ak x1.aG x1.aB x1.aI x1.aj)
mutual
def uQ.f:Nat→af→Jq→Option (Jq)
 |0,_,_=>none
 |k+1,x0,x1=>(if(x0.ak=(1:Int)) then((q11.f k (au x0)).bind fun r1=>(if(¬r1=true) then((I4.f k (au x0)).bind fun r2=>(if(¬r2=true) then((xG.f k x1 (au x0)).bind fun r3=>(if(¬r3=true) then(if([]:Jq).length+ [(au x0)].length≤1759218604441 then(some ([]++ [(au x0)])) else none) else(some []))) else(some []))) else(some []))) else(uQ.l7 k x1 (0:Int) x0.aj []))
def uQ.l7:Nat→Jq→Int→Jq→Jq→Option (Jq)
 |0,_,_,_,_=>none
 |k+1,x1,x6,aT,a1=>(if(x6<(aT.length:Int)) then(if(0:Int)≤x6 then(if x6<(aT.length:Int) then((uQ.f k (au (aF ah aT x6)) x1).bind fun r1=>(if a1.length+r1.length≤1759218604441 then(uQ.l7 k x1 (i64.wrap (x6+(1:Int))) aT (a1++r1)) else none)) else none) else none) else(some a1))
end
def yl.l5:Nat→Jq→Int→Option (Bool)
 |0,_,_=>none
 |k+1,x5,x6=>(if(x6<(x5.length:Int)) then(if(0:Int)≤x6 then(if x6≤(x5.length:Int) then(if(0:Int)≤x6 then(if x6<(x5.length:Int) then((xG.f k ((x5.take x6.toNat).drop 0) (au (aF ah x5 x6))).bind fun r1=>(if r1=true then(some false) else(yl.l5 k x5 (i64.wrap (x6+(1:Int)))))) else none) else none) else none) else none) else(some true))
def yl.j3 (k:Nat) (x1:Jq) (aA:Int) (aC:ByteArray) (bH:Jw) (dA:Int) (aT:Jq):Option (Bool):=((uQ.f k (af.mk aA aC bH dA aT) x1).bind fun r1=>(yl.l5 k r1 (0:Int)))
def yl.f (k:Nat) (x0:af) (x1:Jq):Option (Bool):=((q13.f k (au x0)).bind fun r1=>(if(¬r1=true) then(some false) else((EM.f k x1).bind fun r2=>(if(¬r2=true) then(some false) else((qs.f k (au x0)).bind fun r3=>(if(¬r3=true) then(some false) else(yl.j3 k x1 x0.ak x0.aG x0.aB x0.aI x0.aj)))))))
def qw.NP (k:Nat) (acs:af→af→Option (Int)) (aaQ:Jq→Int→Int→Jq→Int→ByteArray→Jw→Int→Jq→Option (Int)) (x5:Jq) (x6:Int) (x7:Int) (aT:Jq) (aU:Int) (bK:ByteArray) (b_:Jw) (bV:Int) (aX:Jq):Option (Int):=(if(0:Int)≤x7 then(if x7<(aT.length:Int) then((uQ.f k (au (aF ah aT x7)) []).bind fun r1=>((xG.f k r1 (af.mk aU bK b_ bV aX)).bind fun r2=>(if r2=true then(if(0:Int)≤x7 then(if x7<(aT.length:Int) then((acs (au (aF ah aT x7)) (af.mk aU bK b_ bV aX)).bind fun r3=>(if(x7=x6) then(if(x7<(x5.length:Int)) then(some (i64.wrap (r3+(1:Int)))) else(some r3)) else(some r3))) else none) else none) else(aaQ x5 x6 (i64.wrap (x7+(1:Int))) aT aU bK b_ bV aX)))) else none) else none)
mutual
def qw.f:Nat→af→af→Option (Int)
 |0,_,_=>none
 |k+1,x0,x1=>((wS.f k (au x0)).bind fun r1=>((q16.f k (au x0)).bind fun r2=>(qw.l4 k r1 r2 (0:Int) x0.aj x1.ak x1.aG x1.aB x1.aI x1.aj)))
def qw.l4:Nat→Jq→Int→Int→Jq→Int→ByteArray→Jw→Int→Jq→Option (Int)
 |0,_,_,_,_,_,_,_,_,_=>none
 |k+1,x5,x6,x7,aT,aU,bK,b_,bV,aX=>(if(x7<(aT.length:Int)) then(qw.NP k (qw.f k) (qw.l4 k) x5 x6 x7 aT aU bK b_ bV aX) else(some (0:Int)))
end
def qw.d6 (k:Nat) (x5:Jq) (x6:Int) (x7:Int) (aT:Jq) (aU:Int) (bK:ByteArray) (b_:Jw) (bV:Int) (aX:Jq):Option (Int):=qw.NP k (qw.f k) (qw.l4 k) x5 x6 x7 aT aU bK b_ bV aX
def q22.d3 (k:Nat) (x1:Int) (aA:Int) (aT:Jq):Option (af):=(if(0:Int)≤x1 then(if x1≤(aT.length:Int) then(if(aT.length:Int)≤(aT.length:Int) then(if([]:Jq).length+((aT.take (aT.length:Int).toNat).drop x1.toNat).length≤1759218604441 then(some (af.mk aA ByteArray.empty [] (0:Int) ([]++((aT.take (aT.length:Int).toNat).drop x1.toNat)))) else none) else none) else none) else none)
def q22.f (k:Nat) (x0:af) (x1:Int):Option (af):=(if(x0.ak=(4:Int)) then(if((x0.aj.length:Int)≤(i64.wrap (x1+(1:Int)))) then(if(0:Int)≤(i64.wrap ((x0.aj.length:Int)-(1:Int))) then(if(i64.wrap ((x0.aj.length:Int)-(1:Int)))<(x0.aj.length:Int) then(some (au (aF ah x0.aj (i64.wrap ((x0.aj.length:Int)-(1:Int)))))) else none) else none) else(q22.d3 k x1 x0.ak x0.aj)) else(q22.d3 k x1 x0.ak x0.aj))
def I5.l2:Nat→Jw→Int→Int→Option (Bool)
 |0,_,_,_=>none
 |k+1,x0,x1,x5=>(if(x5<(x0.length:Int)) then(if(0:Int)≤x5 then(if x5<(x0.length:Int) then(if((aF (0:Int) x0 x5)=x1) then(some true) else(I5.l2 k x0 x1 (i64.wrap (x5+(1:Int))))) else none) else none) else(some false))
def I5.f (k:Nat) (x0:Jw) (x1:Int):Option (Bool):=(I5.l2 k x0 x1 (0:Int))
def q1z.l2:Nat→Jw→Jw→Int→Option (Bool)
 |0,_,_,_=>none
 |k+1,x0,x1,x5=>(if(x5<(x0.length:Int)) then(if(0:Int)≤x5 then(if x5<(x0.length:Int) then((I5.f k x1 (aF (0:Int) x0 x5)).bind fun r1=>(if(¬r1=true) then(some false) else(q1z.l2 k x0 x1 (i64.wrap (x5+(1:Int)))))) else none) else none) else(some true))
def q1z.f (k:Nat) (x0:Jw) (x1:Jw):Option (Bool):=(q1z.l2 k x0 x1 (0:Int))
def Qb.f (k:Nat) (x0:aO) (x1:af):Option (Bool):=(if(x0.aG.toList=x1.aG.toList) then((q1z.f k x0.aB x1.aB).bind fun r1=>(some r1)) else(some false))
def Ip.l2:Nat→Jj→Jw→Int→Int→ByteArray→Jw→Int→Jq→Option (Bool)
 |0,_,_,_,_,_,_,_,_=>none
 |k+1,x0,x2,x7,aA,aC,bH,dA,aT=>(if(x7<(x0.length:Int)) then(if(0:Int)≤x7 then(if x7<(x0.length:Int) then((Qb.f k (aF fC x0 x7) (af.mk aA aC bH dA aT)).bind fun r1=>(if r1=true then(if(0:Int)≤x7 then(if x7<(x0.length:Int) then((q1z.f k (aF fC x0 x7).aB x2).bind fun r2=>(if(¬r2=true) then(some false) else(Ip.l2 k x0 x2 (i64.wrap (x7+(1:Int))) aA aC bH dA aT))) else none) else none) else(Ip.l2 k x0 x2 (i64.wrap (x7+(1:Int))) aA aC bH dA aT))) else none) else none) else(some true))
def Ip.f (k:Nat) (x0:Jj) (x1:af) (x2:Jw):Option (Bool):=(Ip.l2 k x0 x2 (0:Int) x1.ak x1.aG x1.aB x1.aI x1.aj)
def q23.l5:Nat→Jj→Int→Int→Int→ByteArray→Jw→Int→Jq→Option (ByteArray×Int)
 |0,_,_,_,_,_,_,_,_=>none
 |k+1,x0,x6,x7,aA,aC,bH,dA,aT=>(if((0:Int)≤x7) then(if(0:Int)≤x7 then(if x7<(x0.length:Int) then((Qb.f k (aF fC x0 x7) (af.mk aA aC bH dA aT)).bind fun r1=>(if(¬r1=true) then(q23.l5 k x0 x6 (i64.wrap (x7-(1:Int))) aA aC bH dA aT) else(if(0:Int)≤x7 then(if x7<(x0.length:Int) then((Ip.f k x0 (af.mk aA aC bH dA aT) (aF fC x0 x7).aB).bind fun r2=>(if r2=true then(if(0:Int)≤x7 then(if x7<(x0.length:Int) then(some ((aF fC x0 x7).aZ,(1:Int))) else none) else none) else(q23.l5 k x0 (2:Int) (i64.wrap (x7-(1:Int))) aA aC bH dA aT))) else none) else none))) else none) else none) else(some ((ByteArray.mk #[]),x6)))
def q23.f (k:Nat) (x0:Jj) (x1:af):Option (ByteArray×Int):=(if(¬x1.ak=(1:Int)) then(some ((ByteArray.mk #[]),(0:Int))) else(q23.l5 k x0 (0:Int) (i64.wrap ((x0.length:Int)-(1:Int))) x1.ak x1.aG x1.aB x1.aI x1.aj))
def NQ.j5 (k:Nat) (x7:ByteArray) (x8:Int) (x9:ByteArray) (aC:ByteArray) (bK:ByteArray):Option (Bool):=(if(x8=(1:Int)) then(if(x7.toList=x9.toList) then(some true) else(if(x8=(0:Int)) then(some (decide (aC.toList=bK.toList))) else(some false))) else(if(x8=(0:Int)) then(some (decide (aC.toList=bK.toList))) else(some false)))
def NQ.f (k:Nat) (x0:Jj) (x1:af) (x2:af):Option (Bool):=((q23.f k x0 (au x1)).bind fun r1=>((q23.f k x0 (au x2)).bind fun r2=>(if(r1.2=(2:Int)) then(some false) else(if(r2.2=(2:Int)) then(some false) else(if(¬r1.2=r2.2) then(some false) else(NQ.j5 k r1.1 r1.2 r2.1 x1.aG x2.aG))))))
noncomputable def qe.d10 (k:Nat) (aA:Jq) (aC:Jj) (aU:Int) (bK:ByteArray) (b_:Jw) (bV:Int) (aX:Jq) (aQ:Int) (a_:ByteArray) (bI:Jw) (bC:Int) (dH:Jq) (a3:Jq) (a4:Jq):Option (Bool×Jq×Jj×Jz×Jq×Jq):=((qu.f k (af.mk aU bK b_ bV aX)).bind fun r1=>((qu.f k (af.mk aQ a_ bI bC dH)).bind fun r2=>(some (true,aA,aC,[(aV.mk (af.mk r1.1 r1.2.1 r1.2.2.2.1 r1.2.2.1 r1.2.2.2.2) (0:Int) (af.mk r2.1 r2.2.1 r2.2.2.2.1 r2.2.2.1 r2.2.2.2.2) [])],a3,a4))))
noncomputable def qe.d12 (k:Nat) (aA:Jq) (aC:Jj) (bK:ByteArray) (aQ:Int) (a_:ByteArray) (a3:Jq) (a4:Jq):Option (Bool×Jq×Jj×Jz×Jq×Jq):=(if(aQ=(2:Int)) then(some ((decide (a_.toList=bK.toList)),aA,aC,[],a3,a4)) else(some (false,aA,aC,[],a3,a4)))
noncomputable def qe.d6 (k:Nat) (aA:Jq) (aC:Jj) (aU:Int) (bK:ByteArray) (b_:Jw) (bV:Int) (aX:Jq) (aQ:Int) (a_:ByteArray) (bI:Jw) (bC:Int) (dH:Jq) (a3:Jq) (a4:Jq):Option (Bool×Jq×Jj×Jz×Jq×Jq):=((NQ.f k aC (af.mk aU bK b_ bV aX) (af.mk aQ a_ bI bC dH)).bind fun r1=>(some (r1,aA,aC,[],a3,a4)))
noncomputable def qe.d5 (k:Nat) (aA:Jq) (aC:Jj) (aU:Int) (bK:ByteArray) (b_:Jw) (bV:Int) (aX:Jq) (aQ:Int) (a_:ByteArray) (bI:Jw) (bC:Int) (dH:Jq) (a3:Jq) (a4:Jq):Option (Bool×Jq×Jj×Jz×Jq×Jq):=(if a4.length+ [(af.mk (0:Int) (ByteArray.mk #[]) [] (0:Int) [])].length≤1759218604441 then(if(0:Int)≤(a4.length:Int) then(if(a4.length:Int)<((a4++ [(af.mk (0:Int) (ByteArray.mk #[]) [] (0:Int) [])]).length:Int) then(qe.d6 k aA aC aU bK b_ bV aX aQ a_ bI bC dH a3 ((a4++ [(af.mk (0:Int) (ByteArray.mk #[]) [] (0:Int) [])]).set ((a4.length:Int).toNat) (af.mk aU bK b_ bV aX))) else none) else none) else none)
noncomputable def qe.d4 (k:Nat) (aA:Jq) (aC:Jj) (aU:Int) (bK:ByteArray) (b_:Jw) (bV:Int) (aX:Jq) (aQ:Int) (a_:ByteArray) (bI:Jw) (bC:Int) (dH:Jq) (a3:Jq) (a4:Jq):Option (Bool×Jq×Jj×Jz×Jq×Jq):=(if a3.length+ [(af.mk (0:Int) (ByteArray.mk #[]) [] (0:Int) [])].length≤1759218604441 then(if(0:Int)≤(a3.length:Int) then(if(a3.length:Int)<((a3++ [(af.mk (0:Int) (ByteArray.mk #[]) [] (0:Int) [])]).length:Int) then(qe.d5 k aA aC aU bK b_ bV aX aQ a_ bI bC dH ((a3++ [(af.mk (0:Int) (ByteArray.mk #[]) [] (0:Int) [])]).set ((a3.length:Int).toNat) (af.mk aQ a_ bI bC dH)) a4) else none) else none) else none)
noncomputable def qe.NR (k:Nat) (nV:af→af→Jq→Jj→Jq→Jq→Option (Bool×Jq×Jj×Jz×Jq×Jq)) (pg:af→Jq→Jq→Jj→Jq→Jq→Option (Jz×Bool×Jq×Jj×Jq×Jq)) (jW:Jq→Int→Jq→Jj→Int→ByteArray→Jw→Int→Jq→Jz→Jq→Jq→Jq→Option (Jz×Bool×Jq×Jj×Jq×Jq)) (kD:Jq→Int→Jq→Jj→Int→ByteArray→Jw→Int→Jq→Jz→Jq→Jq→Option (Jz×Bool×Jq×Jj×Jq×Jq)) (iH:Jq→Int→Int→Jq→Jj→Int→ByteArray→Jw→Int→Jq→Jz→Jz→Jq→Jq→Option (Jz×Bool×Jq×Jj×Jq×Jq)) (oG:af→af→Jq→Jj→Jq→Jq→Option (Bool×Jq×Jj×Jz×Jq×Jq)) (iI:Jq→Jq→Int→Int→Int→Int→Jq→Jj→Int→Jq→Int→ByteArray→Jw→Int→Jq→Jz→Jq→Jq→Option (Bool×Jq×Jj×Jz×Jq×Jq)) (x8:Bool) (aA:Jq) (aC:Jj) (aU:Int) (bK:ByteArray) (b_:Jw) (bV:Int) (aX:Jq) (aQ:Int) (a_:ByteArray) (bI:Jw) (bC:Int) (dH:Jq) (a3:Jq) (a4:Jq):Option (Bool×Jq×Jj×Jz×Jq×Jq):=(if x8=true then(if(¬aQ=(1:Int)) then(some (false,aA,aC,[],a3,a4)) else(qe.d4 k aA aC aU bK b_ bV aX aQ a_ bI bC dH a3 a4)) else((I4.f k (af.mk aU bK b_ bV aX)).bind fun r1=>(if r1=true then(some (true,aA,aC,[],a3,a4)) else(if(aU=(1:Int)) then(qe.d10 k aA aC aU bK b_ bV aX aQ a_ bI bC dH a3 a4) else(if(aU=(2:Int)) then(qe.d12 k aA aC bK aQ a_ a3 a4) else((oG (af.mk aU bK b_ bV aX) (af.mk aQ a_ bI bC dH) aA aC a3 a4).bind fun r2=>(some (r2.1,r2.2.1,r2.2.2.1,r2.2.2.2.1,r2.2.2.2.2.1,r2.2.2.2.2.2))))))))
noncomputable def q9.NP (k:Nat) (nV:af→af→Jq→Jj→Jq→Jq→Option (Bool×Jq×Jj×Jz×Jq×Jq)) (pg:af→Jq→Jq→Jj→Jq→Jq→Option (Jz×Bool×Jq×Jj×Jq×Jq)) (jW:Jq→Int→Jq→Jj→Int→ByteArray→Jw→Int→Jq→Jz→Jq→Jq→Jq→Option (Jz×Bool×Jq×Jj×Jq×Jq)) (kD:Jq→Int→Jq→Jj→Int→ByteArray→Jw→Int→Jq→Jz→Jq→Jq→Option (Jz×Bool×Jq×Jj×Jq×Jq)) (iH:Jq→Int→Int→Jq→Jj→Int→ByteArray→Jw→Int→Jq→Jz→Jz→Jq→Jq→Option (Jz×Bool×Jq×Jj×Jq×Jq)) (oG:af→af→Jq→Jj→Jq→Jq→Option (Bool×Jq×Jj×Jz×Jq×Jq)) (iI:Jq→Jq→Int→Int→Int→Int→Jq→Jj→Int→Jq→Int→ByteArray→Jw→Int→Jq→Jz→Jq→Jq→Option (Bool×Jq×Jj×Jz×Jq×Jq)) (x2:Jq) (x10:Int) (aA:Jq) (aC:Jj) (aU:Int) (bK:ByteArray) (b_:Jw) (bV:Int) (aX:Jq) (a2:Jz) (a3:Jq) (a4:Jq) (a5:Jq):Option (Jz×Bool×Jq×Jj×Jq×Jq):=(if(0:Int)≤x10 then(if x10<(a3.length:Int) then(if(0:Int)≤x10 then(if x10<(a3.length:Int) then((qu.f k (au (a3.getD (x10.toNat) ah))).bind fun r1=>((qw.f k (af.mk aU bK b_ bV aX) (au (a3.getD (x10.toNat) ah))).bind fun r2=>(if a2.length+ [(aV.mk (af.mk r1.1 r1.2.1 r1.2.2.2.1 r1.2.2.1 r1.2.2.2.2) (i64.wrap ((1:Int)+r2)) (af.mk (0:Int) ByteArray.empty [] (0:Int) []) [])].length≤733007751850 then(jW x2 (i64.wrap (x10+(1:Int))) aA aC aU bK b_ bV aX (a2++ [(aV.mk (af.mk r1.1 r1.2.1 r1.2.2.2.1 r1.2.2.1 r1.2.2.2.2) (i64.wrap ((1:Int)+r2)) (af.mk (0:Int) ByteArray.empty [] (0:Int) []) [])]) a3 a4 a5) else none))) else none) else none) else none) else none)
noncomputable def q9.Zd (k:Nat) (nV:af→af→Jq→Jj→Jq→Jq→Option (Bool×Jq×Jj×Jz×Jq×Jq)) (pg:af→Jq→Jq→Jj→Jq→Jq→Option (Jz×Bool×Jq×Jj×Jq×Jq)) (jW:Jq→Int→Jq→Jj→Int→ByteArray→Jw→Int→Jq→Jz→Jq→Jq→Jq→Option (Jz×Bool×Jq×Jj×Jq×Jq)) (kD:Jq→Int→Jq→Jj→Int→ByteArray→Jw→Int→Jq→Jz→Jq→Jq→Option (Jz×Bool×Jq×Jj×Jq×Jq)) (iH:Jq→Int→Int→Jq→Jj→Int→ByteArray→Jw→Int→Jq→Jz→Jz→Jq→Jq→Option (Jz×Bool×Jq×Jj×Jq×Jq)) (oG:af→af→Jq→Jj→Jq→Jq→Option (Bool×Jq×Jj×Jz×Jq×Jq)) (iI:Jq→Jq→Int→Int→Int→Int→Jq→Jj→Int→Jq→Int→ByteArray→Jw→Int→Jq→Jz→Jq→Jq→Option (Bool×Jq×Jj×Jz×Jq×Jq)) (x2:Jq) (x11:Int) (x14:Int) (aA:Jq) (aC:Jj) (aU:Int) (bK:ByteArray) (b_:Jw) (bV:Int) (aX:Jq) (a2:Jz) (a3:Jz) (a4:Jq) (a5:Jq):Option (Jz×Bool×Jq×Jj×Jq×Jq):=(if(0:Int)≤x14 then(if x14<(a2.length:Int) then(if(0:Int)≤x14 then(if x14<(a3.length:Int) then(if(a2.getD (x14.toNat) az).aP.length+ [(aV.mk (af.mk (0:Int) (ByteArray.mk #[]) [] (0:Int) []) (0:Int) (af.mk (0:Int) (ByteArray.mk #[]) [] (0:Int) []) [])].length≤733007751850 then(if(0:Int)≤((a2.getD (x14.toNat) az).aP.length:Int) then(if((a2.getD (x14.toNat) az).aP.length:Int)<(((a2.getD (x14.toNat) az).aP++ [(aV.mk (af.mk (0:Int) (ByteArray.mk #[]) [] (0:Int) []) (0:Int) (af.mk (0:Int) (ByteArray.mk #[]) [] (0:Int) []) [])]).length:Int) then(if(0:Int)≤x14 then(if x14<(a2.length:Int) then(if(x14.toNat)=(x14.toNat) then(iH x2 x11 (i64.wrap (x14+(1:Int))) aA aC aU bK b_ bV aX (a2.set (x14.toNat) (aV.mk (au (a2.getD (x14.toNat) az).aZ) (a2.getD (x14.toNat) az).bu (au (a2.getD (x14.toNat) az).bY) (((a2.getD (x14.toNat) az).aP++ [(aV.mk (af.mk (0:Int) (ByteArray.mk #[]) [] (0:Int) []) (0:Int) (af.mk (0:Int) (ByteArray.mk #[]) [] (0:Int) []) [])]).set (((a2.getD (x14.toNat) az).aP.length:Int).toNat) (aV.mk (au (a3.getD (x14.toNat) az).aZ) (a3.getD (x14.toNat) az).bu (au (a3.getD (x14.toNat) az).bY) (a3.getD (x14.toNat) az).aP)))) a3 a4 a5) else none) else none) else none) else none) else none) else none) else none) else none) else none) else none)
noncomputable def q6.tY (k:Nat) (nV:af→af→Jq→Jj→Jq→Jq→Option (Bool×Jq×Jj×Jz×Jq×Jq)) (pg:af→Jq→Jq→Jj→Jq→Jq→Option (Jz×Bool×Jq×Jj×Jq×Jq)) (jW:Jq→Int→Jq→Jj→Int→ByteArray→Jw→Int→Jq→Jz→Jq→Jq→Jq→Option (Jz×Bool×Jq×Jj×Jq×Jq)) (kD:Jq→Int→Jq→Jj→Int→ByteArray→Jw→Int→Jq→Jz→Jq→Jq→Option (Jz×Bool×Jq×Jj×Jq×Jq)) (iH:Jq→Int→Int→Jq→Jj→Int→ByteArray→Jw→Int→Jq→Jz→Jz→Jq→Jq→Option (Jz×Bool×Jq×Jj×Jq×Jq)) (oG:af→af→Jq→Jj→Jq→Jq→Option (Bool×Jq×Jj×Jz×Jq×Jq)) (iI:Jq→Jq→Int→Int→Int→Int→Jq→Jj→Int→Jq→Int→ByteArray→Jw→Int→Jq→Jz→Jq→Jq→Option (Bool×Jq×Jj×Jz×Jq×Jq)) (x8:Jq) (x9:Jq) (x10:Int) (x11:Int) (x77:Bool) (aA:Jq) (aC:Jj) (aU:Int) (aX:Jq) (aQ:Int) (a_:ByteArray) (bI:Jw) (bC:Int) (dH:Jq) (a3:Jq) (a4:Jq):Option (Bool×Jq×Jj×Jz×Jq×Jq):=(if x77=true then(some (false,aA,aC,[],a3,a4)) else(iI x8 x9 x10 x11 (0:Int) (0:Int) aA aC aU aX aQ a_ bI bC dH [] a3 a4))
noncomputable def q6.j9b (k:Nat) (nV:af→af→Jq→Jj→Jq→Jq→Option (Bool×Jq×Jj×Jz×Jq×Jq)) (pg:af→Jq→Jq→Jj→Jq→Jq→Option (Jz×Bool×Jq×Jj×Jq×Jq)) (jW:Jq→Int→Jq→Jj→Int→ByteArray→Jw→Int→Jq→Jz→Jq→Jq→Jq→Option (Jz×Bool×Jq×Jj×Jq×Jq)) (kD:Jq→Int→Jq→Jj→Int→ByteArray→Jw→Int→Jq→Jz→Jq→Jq→Option (Jz×Bool×Jq×Jj×Jq×Jq)) (iH:Jq→Int→Int→Jq→Jj→Int→ByteArray→Jw→Int→Jq→Jz→Jz→Jq→Jq→Option (Jz×Bool×Jq×Jj×Jq×Jq)) (oG:af→af→Jq→Jj→Jq→Jq→Option (Bool×Jq×Jj×Jz×Jq×Jq)) (iI:Jq→Jq→Int→Int→Int→Int→Jq→Jj→Int→Jq→Int→ByteArray→Jw→Int→Jq→Jz→Jq→Jq→Option (Bool×Jq×Jj×Jz×Jq×Jq)) (x8:Jq) (x9:Jq) (x10:Int) (x11:Int) (aA:Jq) (aC:Jj) (aU:Int) (aX:Jq) (aQ:Int) (a_:ByteArray) (bI:Jw) (bC:Int) (dH:Jq) (a3:Jq) (a4:Jq):Option (Bool×Jq×Jj×Jz×Jq×Jq):=(if(x10<(0:Int)) then(if((x9.length:Int)<(x8.length:Int)) then(q6.tY k nV pg jW kD iH oG iI x8 x9 x10 x11 true aA aC aU aX aQ a_ bI bC dH a3 a4) else(if(x11<(0:Int)) then(q6.tY k nV pg jW kD iH oG iI x8 x9 x10 x11 true aA aC aU aX aQ a_ bI bC dH a3 a4) else(if(aU=(3:Int)) then(if(¬aQ=(3:Int)) then(q6.tY k nV pg jW kD iH oG iI x8 x9 x10 x11 true aA aC aU aX aQ a_ bI bC dH a3 a4) else(if(x10<(0:Int)) then(q6.tY k nV pg jW kD iH oG iI x8 x9 x10 x11 (decide ((x8.length:Int)<(x9.length:Int))) aA aC aU aX aQ a_ bI bC dH a3 a4) else(q6.tY k nV pg jW kD iH oG iI x8 x9 x10 x11 false aA aC aU aX aQ a_ bI bC dH a3 a4))) else(q6.tY k nV pg jW kD iH oG iI x8 x9 x10 x11 false aA aC aU aX aQ a_ bI bC dH a3 a4)))) else(if(x11<(0:Int)) then(q6.tY k nV pg jW kD iH oG iI x8 x9 x10 x11 true aA aC aU aX aQ a_ bI bC dH a3 a4) else(if(aU=(3:Int)) then(if(¬aQ=(3:Int)) then(q6.tY k nV pg jW kD iH oG iI x8 x9 x10 x11 true aA aC aU aX aQ a_ bI bC dH a3 a4) else(if(x10<(0:Int)) then(q6.tY k nV pg jW kD iH oG iI x8 x9 x10 x11 (decide ((x8.length:Int)<(x9.length:Int))) aA aC aU aX aQ a_ bI bC dH a3 a4) else(q6.tY k nV pg jW kD iH oG iI x8 x9 x10 x11 false aA aC aU aX aQ a_ bI bC dH a3 a4))) else(q6.tY k nV pg jW kD iH oG iI x8 x9 x10 x11 false aA aC aU aX aQ a_ bI bC dH a3 a4))))
noncomputable def q6.BK (k:Nat) (nV:af→af→Jq→Jj→Jq→Jq→Option (Bool×Jq×Jj×Jz×Jq×Jq)) (pg:af→Jq→Jq→Jj→Jq→Jq→Option (Jz×Bool×Jq×Jj×Jq×Jq)) (jW:Jq→Int→Jq→Jj→Int→ByteArray→Jw→Int→Jq→Jz→Jq→Jq→Jq→Option (Jz×Bool×Jq×Jj×Jq×Jq)) (kD:Jq→Int→Jq→Jj→Int→ByteArray→Jw→Int→Jq→Jz→Jq→Jq→Option (Jz×Bool×Jq×Jj×Jq×Jq)) (iH:Jq→Int→Int→Jq→Jj→Int→ByteArray→Jw→Int→Jq→Jz→Jz→Jq→Jq→Option (Jz×Bool×Jq×Jj×Jq×Jq)) (oG:af→af→Jq→Jj→Jq→Jq→Option (Bool×Jq×Jj×Jz×Jq×Jq)) (iI:Jq→Jq→Int→Int→Int→Int→Jq→Jj→Int→Jq→Int→ByteArray→Jw→Int→Jq→Jz→Jq→Jq→Option (Bool×Jq×Jj×Jz×Jq×Jq)) (aA:Jq) (aC:Jj) (aU:Int) (bK:ByteArray) (b_:Jw) (bV:Int) (aX:Jq) (aQ:Int) (a_:ByteArray) (bI:Jw) (bC:Int) (dH:Jq) (a3:Jq) (a4:Jq):Option (Bool×Jq×Jj×Jz×Jq×Jq):=((wS.f k (af.mk aU bK b_ bV aX)).bind fun r1=>((wS.f k (af.mk aQ a_ bI bC dH)).bind fun r2=>((q16.f k (af.mk aU bK b_ bV aX)).bind fun r3=>(if((0:Int)≤r3) then(q6.j9b k nV pg jW kD iH oG iI r1 r2 r3 (i64.wrap ((r2.length:Int)-(i64.wrap ((r1.length:Int)-(2:Int))))) aA aC aU aX aQ a_ bI bC dH a3 a4) else(q6.j9b k nV pg jW kD iH oG iI r1 r2 r3 (0:Int) aA aC aU aX aQ a_ bI bC dH a3 a4)))))
noncomputable def q6.NS (k:Nat) (nV:af→af→Jq→Jj→Jq→Jq→Option (Bool×Jq×Jj×Jz×Jq×Jq)) (pg:af→Jq→Jq→Jj→Jq→Jq→Option (Jz×Bool×Jq×Jj×Jq×Jq)) (jW:Jq→Int→Jq→Jj→Int→ByteArray→Jw→Int→Jq→Jz→Jq→Jq→Jq→Option (Jz×Bool×Jq×Jj×Jq×Jq)) (kD:Jq→Int→Jq→Jj→Int→ByteArray→Jw→Int→Jq→Jz→Jq→Jq→Option (Jz×Bool×Jq×Jj×Jq×Jq)) (iH:Jq→Int→Int→Jq→Jj→Int→ByteArray→Jw→Int→Jq→Jz→Jz→Jq→Jq→Option (Jz×Bool×Jq×Jj×Jq×Jq)) (oG:af→af→Jq→Jj→Jq→Jq→Option (Bool×Jq×Jj×Jz×Jq×Jq)) (iI:Jq→Jq→Int→Int→Int→Int→Jq→Jj→Int→Jq→Int→ByteArray→Jw→Int→Jq→Jz→Jq→Jq→Option (Bool×Jq×Jj×Jz×Jq×Jq)) (eF:Int) (aA:Jq) (aC:Jj) (aX:Jq) (aQ:Int) (a_:ByteArray) (bI:Jw) (bC:Int) (dH:Jq) (a3:Jz) (a4:Jq) (a5:Jq):Option (Bool×Jq×Jj×Jz×Jq×Jq):=(if(0:Int)≤(i64.wrap ((aX.length:Int)-(1:Int))) then(if(i64.wrap ((aX.length:Int)-(1:Int)))<(aX.length:Int) then((q22.f k (af.mk aQ a_ bI bC dH) eF).bind fun r1=>((nV (au (aF ah aX (i64.wrap ((aX.length:Int)-(1:Int))))) (au r1) aA aC a4 a5).bind fun r2=>(if(¬r2.1=true) then(some (false,r2.2.1,r2.2.2.1,[],r2.2.2.2.2.1,r2.2.2.2.2.2)) else(if a3.length+r2.2.2.2.1.length≤733007751850 then(some (true,r2.2.1,r2.2.2.1,(a3++r2.2.2.2.1),r2.2.2.2.2.1,r2.2.2.2.2.2)) else none)))) else none) else none)
noncomputable def q6.NT (k:Nat) (nV:af→af→Jq→Jj→Jq→Jq→Option (Bool×Jq×Jj×Jz×Jq×Jq)) (pg:af→Jq→Jq→Jj→Jq→Jq→Option (Jz×Bool×Jq×Jj×Jq×Jq)) (jW:Jq→Int→Jq→Jj→Int→ByteArray→Jw→Int→Jq→Jz→Jq→Jq→Jq→Option (Jz×Bool×Jq×Jj×Jq×Jq)) (kD:Jq→Int→Jq→Jj→Int→ByteArray→Jw→Int→Jq→Jz→Jq→Jq→Option (Jz×Bool×Jq×Jj×Jq×Jq)) (iH:Jq→Int→Int→Jq→Jj→Int→ByteArray→Jw→Int→Jq→Jz→Jz→Jq→Jq→Option (Jz×Bool×Jq×Jj×Jq×Jq)) (oG:af→af→Jq→Jj→Jq→Jq→Option (Bool×Jq×Jj×Jz×Jq×Jq)) (iI:Jq→Jq→Int→Int→Int→Int→Jq→Jj→Int→Jq→Int→ByteArray→Jw→Int→Jq→Jz→Jq→Jq→Option (Bool×Jq×Jj×Jz×Jq×Jq)) (eF:Int) (aA:Jq) (aC:Jj) (aX:Jq) (aQ:Int) (a_:ByteArray) (bI:Jw) (bC:Int) (dH:Jq) (a3:Jz) (a4:Jq) (a5:Jq):Option (Bool×Jq×Jj×Jz×Jq×Jq):=((q22.f k (af.mk aQ a_ bI bC dH) eF).bind fun r1=>(if(0:Int)≤(i64.wrap ((aX.length:Int)-(1:Int))) then(if(i64.wrap ((aX.length:Int)-(1:Int)))<(aX.length:Int) then((nV (au (aF ah aX (i64.wrap ((aX.length:Int)-(1:Int))))) (au r1) aA aC a4 a5).bind fun r2=>(if(¬r2.1=true) then(some (false,r2.2.1,r2.2.2.1,[],r2.2.2.2.2.1,r2.2.2.2.2.2)) else(if a3.length+r2.2.2.2.1.length≤733007751850 then(some (true,r2.2.1,r2.2.2.1,(a3++r2.2.2.2.1),r2.2.2.2.2.1,r2.2.2.2.2.2)) else none))) else none) else none))
noncomputable def q6.Ze (k:Nat) (nV:af→af→Jq→Jj→Jq→Jq→Option (Bool×Jq×Jj×Jz×Jq×Jq)) (pg:af→Jq→Jq→Jj→Jq→Jq→Option (Jz×Bool×Jq×Jj×Jq×Jq)) (jW:Jq→Int→Jq→Jj→Int→ByteArray→Jw→Int→Jq→Jz→Jq→Jq→Jq→Option (Jz×Bool×Jq×Jj×Jq×Jq)) (kD:Jq→Int→Jq→Jj→Int→ByteArray→Jw→Int→Jq→Jz→Jq→Jq→Option (Jz×Bool×Jq×Jj×Jq×Jq)) (iH:Jq→Int→Int→Jq→Jj→Int→ByteArray→Jw→Int→Jq→Jz→Jz→Jq→Jq→Option (Jz×Bool×Jq×Jj×Jq×Jq)) (oG:af→af→Jq→Jj→Jq→Jq→Option (Bool×Jq×Jj×Jz×Jq×Jq)) (iI:Jq→Jq→Int→Int→Int→Int→Jq→Jj→Int→Jq→Int→ByteArray→Jw→Int→Jq→Jz→Jq→Jq→Option (Bool×Jq×Jj×Jz×Jq×Jq)) (eF:Int) (aA:Jq) (aC:Jj) (aX:Jq) (aQ:Int) (a_:ByteArray) (bI:Jw) (bC:Int) (dH:Jq) (a3:Jz) (a4:Jq) (a5:Jq):Option (Bool×Jq×Jj×Jz×Jq×Jq):=(same2 (q6.NS k nV pg jW kD iH oG iI eF aA aC aX aQ a_ bI bC dH a3 a4 a5) (q6.NT k nV pg jW kD iH oG iI eF aA aC aX aQ a_ bI bC dH a3 a4 a5))
mutual
noncomputable def qe.f:Nat→af→af→Jq→Jj→Jq→Jq→Option (Bool×Jq×Jj×Jz×Jq×Jq)
 |0,_,_,_,_,_,_=>none
 |k+1,x1,x2,aA,aC,a1,a2=>(if(x1.ak=(1:Int)) then((xG.f k aA (au x1)).bind fun r1=>(qe.NR k (qe.f k) (q9.f k) (q9.l4 k) (q9.l8 k) (q9.iO k) (q6.f k) (q6.iO k) r1 aA aC x1.ak x1.aG x1.aB x1.aI x1.aj x2.ak x2.aG x2.aB x2.aI x2.aj a1 a2)) else(qe.NR k (qe.f k) (q9.f k) (q9.l4 k) (q9.l8 k) (q9.iO k) (q6.f k) (q6.iO k) false aA aC x1.ak x1.aG x1.aB x1.aI x1.aj x2.ak x2.aG x2.aB x2.aI x2.aj a1 a2))
noncomputable def q9.f:Nat→af→Jq→Jq→Jj→Jq→Jq→Option (Jz×Bool×Jq×Jj×Jq×Jq)
 |0,_,_,_,_,_,_=>none
 |k+1,x1,x2,aA,aC,a1,a2=>((uQ.f k (au x1) aA).bind fun r1=>(q9.l4 k x2 (0:Int) aA aC x1.ak x1.aG x1.aB x1.aI x1.aj [] r1 a1 a2))
noncomputable def q9.l4:Nat→Jq→Int→Jq→Jj→Int→ByteArray→Jw→Int→Jq→Jz→Jq→Jq→Jq→Option (Jz×Bool×Jq×Jj×Jq×Jq)
 |0,_,_,_,_,_,_,_,_,_,_,_,_,_=>none
 |k+1,x2,x10,aA,aC,aU,bK,b_,bV,aX,a2,a3,a4,a5=>(if(x10<(a3.length:Int)) then(q9.NP k (qe.f k) (q9.f k) (q9.l4 k) (q9.l8 k) (q9.iO k) (q6.f k) (q6.iO k) x2 x10 aA aC aU bK b_ bV aX a2 a3 a4 a5) else(q9.l8 k x2 (0:Int) aA aC aU bK b_ bV aX a2 a4 a5))
noncomputable def q9.l8:Nat→Jq→Int→Jq→Jj→Int→ByteArray→Jw→Int→Jq→Jz→Jq→Jq→Option (Jz×Bool×Jq×Jj×Jq×Jq)
 |0,_,_,_,_,_,_,_,_,_,_,_,_=>none
 |k+1,x2,x11,aA,aC,aU,bK,b_,bV,aX,a2,a3,a4=>(if(x11<(x2.length:Int)) then(if(0:Int)≤x11 then(if x11<(x2.length:Int) then((qe.f k (af.mk aU bK b_ bV aX) (au (aF ah x2 x11)) aA aC a3 a4).bind fun r1=>(if(¬r1.1=true) then(some ([],false,r1.2.1,r1.2.2.1,r1.2.2.2.2.1,r1.2.2.2.2.2)) else(q9.iO k x2 x11 (0:Int) r1.2.1 r1.2.2.1 aU bK b_ bV aX a2 r1.2.2.2.1 r1.2.2.2.2.1 r1.2.2.2.2.2))) else none) else none) else(some (a2,true,aA,aC,a3,a4)))
noncomputable def q9.iO:Nat→Jq→Int→Int→Jq→Jj→Int→ByteArray→Jw→Int→Jq→Jz→Jz→Jq→Jq→Option (Jz×Bool×Jq×Jj×Jq×Jq)
 |0,_,_,_,_,_,_,_,_,_,_,_,_,_,_=>none
 |k+1,x2,x11,x14,aA,aC,aU,bK,b_,bV,aX,a2,a3,a4,a5=>(if(x14<(a2.length:Int)) then(q9.Zd k (qe.f k) (q9.f k) (q9.l4 k) (q9.l8 k) (q9.iO k) (q6.f k) (q6.iO k) x2 x11 x14 aA aC aU bK b_ bV aX a2 a3 a4 a5) else(q9.l8 k x2 (i64.wrap (x11+(1:Int))) aA aC aU bK b_ bV aX a2 a4 a5))
noncomputable def q6.f:Nat→af→af→Jq→Jj→Jq→Jq→Option (Bool×Jq×Jj×Jz×Jq×Jq)
 |0,_,_,_,_,_,_=>none
 |k+1,x1,x2,aA,aC,a1,a2=>(if(¬x2.ak=(3:Int)) then(if(¬x2.ak=(4:Int)) then(q6.BK k (qe.f k) (q9.f k) (q9.l4 k) (q9.l8 k) (q9.iO k) (q6.f k) (q6.iO k) aA aC x1.ak x1.aG x1.aB x1.aI x1.aj (4:Int) ByteArray.empty [] (0:Int) [(au x2)] a1 a2) else(q6.BK k (qe.f k) (q9.f k) (q9.l4 k) (q9.l8 k) (q9.iO k) (q6.f k) (q6.iO k) aA aC x1.ak x1.aG x1.aB x1.aI x1.aj x2.ak x2.aG x2.aB x2.aI x2.aj a1 a2)) else(q6.BK k (qe.f k) (q9.f k) (q9.l4 k) (q9.l8 k) (q9.iO k) (q6.f k) (q6.iO k) aA aC x1.ak x1.aG x1.aB x1.aI x1.aj x2.ak x2.aG x2.aB x2.aI x2.aj a1 a2))
noncomputable def q6.iO:Nat→Jq→Jq→Int→Int→Int→Int→Jq→Jj→Int→Jq→Int→ByteArray→Jw→Int→Jq→Jz→Jq→Jq→Option (Bool×Jq×Jj×Jz×Jq×Jq)
 |0,_,_,_,_,_,_,_,_,_,_,_,_,_,_,_,_,_,_=>none
 |k+1,x8,x9,x10,x11,eF,x14,aA,aC,aU,aX,aQ,a_,bI,bC,dH,a3,a4,a5=>(if(x14<(x8.length:Int)) then(if(0:Int)≤x14 then(if x14<(x8.length:Int) then((q11.f k (au (aF ah x8 x14))).bind fun r1=>(if r1=true then(q6.iO k x8 x9 x10 x11 eF (i64.wrap (x14+(1:Int))) aA aC aU aX aQ a_ bI bC dH a3 a4 a5) else(if(x14=x10) then(if(0:Int)≤x14 then(if x14<(x8.length:Int) then(if(0:Int)≤eF then(if eF≤(i64.wrap (eF+x11)) then(if(i64.wrap (eF+x11))≤(x9.length:Int) then((q9.f k (au (aF ah x8 x14)) ((x9.take (i64.wrap (eF+x11)).toNat).drop eF.toNat) aA aC a4 a5).bind fun r2=>(if(¬r2.2.1=true) then(some (false,r2.2.2.1,r2.2.2.2.1,[],r2.2.2.2.2.1,r2.2.2.2.2.2)) else(if a3.length+r2.1.length≤733007751850 then(q6.iO k x8 x9 x10 x11 (i64.wrap (eF+x11)) (i64.wrap (x14+(1:Int))) r2.2.2.1 r2.2.2.2.1 aU aX aQ a_ bI bC dH (a3++r2.1) r2.2.2.2.2.1 r2.2.2.2.2.2) else none))) else none) else none) else none) else none) else none) else(if(0:Int)≤x14 then(if x14<(x8.length:Int) then(if(0:Int)≤eF then(if eF<(x9.length:Int) then((qe.f k (au (aF ah x8 x14)) (au (aF ah x9 eF)) aA aC a4 a5).bind fun r3=>(if(¬r3.1=true) then(some (false,r3.2.1,r3.2.2.1,[],r3.2.2.2.2.1,r3.2.2.2.2.2)) else(if a3.length+r3.2.2.2.1.length≤733007751850 then(q6.iO k x8 x9 x10 x11 (i64.wrap (eF+(1:Int))) (i64.wrap (x14+(1:Int))) r3.2.1 r3.2.2.1 aU aX aQ a_ bI bC dH (a3++r3.2.2.2.1) r3.2.2.2.2.1 r3.2.2.2.2.2) else none))) else none) else none) else none) else none)))) else none) else none) else(if(aU=(3:Int)) then(some (true,aA,aC,a3,a4,a5)) else(q6.Ze k (qe.f k) (q9.f k) (q9.l4 k) (q9.l8 k) (q9.iO k) (q6.f k) (q6.iO k) eF aA aC aX aQ a_ bI bC dH a3 a4 a5)))
end
noncomputable def qe.j2 (k:Nat) (x8:Bool) (aA:Jq) (aC:Jj) (aU:Int) (bK:ByteArray) (b_:Jw) (bV:Int) (aX:Jq) (aQ:Int) (a_:ByteArray) (bI:Jw) (bC:Int) (dH:Jq) (a3:Jq) (a4:Jq):Option (Bool×Jq×Jj×Jz×Jq×Jq):=qe.NR k (qe.f k) (q9.f k) (q9.l4 k) (q9.l8 k) (q9.iO k) (q6.f k) (q6.iO k) x8 aA aC aU bK b_ bV aX aQ a_ bI bC dH a3 a4
noncomputable def q9.d6 (k:Nat) (x2:Jq) (x10:Int) (aA:Jq) (aC:Jj) (aU:Int) (bK:ByteArray) (b_:Jw) (bV:Int) (aX:Jq) (a2:Jz) (a3:Jq) (a4:Jq) (a5:Jq):Option (Jz×Bool×Jq×Jj×Jq×Jq):=q9.NP k (qe.f k) (q9.f k) (q9.l4 k) (q9.l8 k) (q9.iO k) (q6.f k) (q6.iO k) x2 x10 aA aC aU bK b_ bV aX a2 a3 a4 a5
noncomputable def q9.d16 (k:Nat) (x2:Jq) (x11:Int) (x14:Int) (aA:Jq) (aC:Jj) (aU:Int) (bK:ByteArray) (b_:Jw) (bV:Int) (aX:Jq) (a2:Jz) (a3:Jz) (a4:Jq) (a5:Jq):Option (Jz×Bool×Jq×Jj×Jq×Jq):=q9.Zd k (qe.f k) (q9.f k) (q9.l4 k) (q9.l8 k) (q9.iO k) (q6.f k) (q6.iO k) x2 x11 x14 aA aC aU bK b_ bV aX a2 a3 a4 a5
noncomputable def q6.j3 (k:Nat) (aA:Jq) (aC:Jj) (aU:Int) (bK:ByteArray) (b_:Jw) (bV:Int) (aX:Jq) (aQ:Int) (a_:ByteArray) (bI:Jw) (bC:Int) (dH:Jq) (a3:Jq) (a4:Jq):Option (Bool×Jq×Jj×Jz×Jq×Jq):=q6.BK k (qe.f k) (q9.f k) (q9.l4 k) (q9.l8 k) (q9.iO k) (q6.f k) (q6.iO k) aA aC aU bK b_ bV aX aQ a_ bI bC dH a3 a4
noncomputable def q6.j9 (k:Nat) (x8:Jq) (x9:Jq) (x10:Int) (x11:Int) (aA:Jq) (aC:Jj) (aU:Int) (aX:Jq) (aQ:Int) (a_:ByteArray) (bI:Jw) (bC:Int) (dH:Jq) (a3:Jq) (a4:Jq):Option (Bool×Jq×Jj×Jz×Jq×Jq):=q6.j9b k (qe.f k) (q9.f k) (q9.l4 k) (q9.l8 k) (q9.iO k) (q6.f k) (q6.iO k) x8 x9 x10 x11 aA aC aU aX aQ a_ bI bC dH a3 a4
noncomputable def q6.j10 (k:Nat) (x8:Jq) (x9:Jq) (x10:Int) (x11:Int) (x77:Bool) (aA:Jq) (aC:Jj) (aU:Int) (aX:Jq) (aQ:Int) (a_:ByteArray) (bI:Jw) (bC:Int) (dH:Jq) (a3:Jq) (a4:Jq):Option (Bool×Jq×Jj×Jz×Jq×Jq):=q6.tY k (qe.f k) (q9.f k) (q9.l4 k) (q9.l8 k) (q9.iO k) (q6.f k) (q6.iO k) x8 x9 x10 x11 x77 aA aC aU aX aQ a_ bI bC dH a3 a4
noncomputable def q6.d29 (k:Nat) (eF:Int) (aA:Jq) (aC:Jj) (aX:Jq) (aQ:Int) (a_:ByteArray) (bI:Jw) (bC:Int) (dH:Jq) (a3:Jz) (a4:Jq) (a5:Jq):Option (Bool×Jq×Jj×Jz×Jq×Jq):=q6.Ze k (qe.f k) (q9.f k) (q9.l4 k) (q9.l8 k) (q9.iO k) (q6.f k) (q6.iO k) eF aA aC aX aQ a_ bI bC dH a3 a4 a5
noncomputable def q6.Qc (k:Nat) (eF:Int) (aA:Jq) (aC:Jj) (aX:Jq) (aQ:Int) (a_:ByteArray) (bI:Jw) (bC:Int) (dH:Jq) (a3:Jz) (a4:Jq) (a5:Jq):Option (Bool×Jq×Jj×Jz×Jq×Jq):=q6.NS k (qe.f k) (q9.f k) (q9.l4 k) (q9.l8 k) (q9.iO k) (q6.f k) (q6.iO k) eF aA aC aX aQ a_ bI bC dH a3 a4 a5
noncomputable def q6.U_ (k:Nat) (eF:Int) (aA:Jq) (aC:Jj) (aX:Jq) (aQ:Int) (a_:ByteArray) (bI:Jw) (bC:Int) (dH:Jq) (a3:Jz) (a4:Jq) (a5:Jq):Option (Bool×Jq×Jj×Jz×Jq×Jq):=q6.NT k (qe.f k) (q9.f k) (q9.l4 k) (q9.l8 k) (q9.iO k) (q6.f k) (q6.iO k) eF aA aC aX aQ a_ bI bC dH a3 a4 a5
noncomputable def Va.f (k:Nat) (x0:af) (x1:Jq) (x2:af) (x3:Jj):Option (Bool×Jz):=((yl.f k (au x0) x1).bind fun r1=>(if(¬r1=true) then(some (false,[])) else((q13.f k (au x2)).bind fun r2=>(if(¬r2=true) then(some (false,[])) else((qe.f k (au x0) (au x2) x1 x3 [] []).bind fun r3=>(some (r3.1,r3.2.2.2.1)))))))
def qh.l5:Nat→Int→Jw→Int→Int→ByteArray→Jw→Int→Jq→Option (af×Jw×Int)
 |0,_,_,_,_,_,_,_,_=>none
 |k+1,x11,aA,aC,aQ,a_,bI,bC,dH=>(if((0:Int)<x11) then(qh.l5 k (i64.wrap (x11-(1:Int))) aA aC (3:Int) ByteArray.empty [] (0:Int) [(af.mk aQ a_ bI bC dH),(af.mk (1:Int) (ByteArray.mk #[46,46,46]) [] (0:Int) [])]) else(some ((af.mk aQ a_ bI bC dH),aA,aC)))
def qh.NR (k:Nat) (Xe:af→Jq→Int→Jw→Int→Option (af×Jw×Int)) (DU:Jq→Int→Int→Jw→Int→Int→ByteArray→Jw→Int→Jq→Int→ByteArray→Jw→Int→Jq→Option (af×Jw×Int)) (x2:Jq) (x3:Int) (x25:Bool) (aA:Jw) (aC:Int) (aU:Int) (bK:ByteArray) (b_:Jw) (bV:Int) (aX:Jq):Option (af×Jw×Int):=(if x25=true then((qi.f k (x2.length:Int) aA aC).bind fun r1=>(if(0:Int)≤r1.1 then(if r1.1<(x2.length:Int) then((qw.f k (af.mk aU bK b_ bV aX) (au (aF ah x2 r1.1))).bind fun r2=>(qh.l5 k r2 r1.2.1 r1.2.2 (aF ah x2 r1.1).ak (aF ah x2 r1.1).aG (aF ah x2 r1.1).aB (aF ah x2 r1.1).aI (aF ah x2 r1.1).aj)) else none) else none)) else(if(x3≤(0:Int)) then((q7.f k (0:Int) aA aC).bind fun r3=>(some ((au r3.1),r3.2.1,r3.2.2))) else((qi.f k (4:Int) aA aC).bind fun r4=>(DU x2 x3 r4.1 r4.2.1 r4.2.2 aU bK b_ bV aX (3:Int) ByteArray.empty [] (0:Int) []))))
def qh.Zf (k:Nat) (Xe:af→Jq→Int→Jw→Int→Option (af×Jw×Int)) (DU:Jq→Int→Int→Jw→Int→Int→ByteArray→Jw→Int→Jq→Int→ByteArray→Jw→Int→Jq→Option (af×Jw×Int)) (x2:Jq) (x3:Int) (eF:Int) (aA:Jw) (aC:Int) (aU:Int) (bK:ByteArray) (b_:Jw) (bV:Int) (aX:Jq) (fP:Int) (ig:ByteArray) (jI:Jw) (jq:Int) (a4:Jq):Option (af×Jw×Int):=((Xe (af.mk aU bK b_ bV aX) x2 (i64.wrap (x3-(1:Int))) aA aC).bind fun r1=>(if a4.length+ [(au r1.1)].length≤1759218604441 then((qi.f k (6:Int) r1.2.1 r1.2.2).bind fun r2=>(if(r2.1=(0:Int)) then(if(a4++ [(au r1.1)]).length+ [(af.mk (1:Int) (ByteArray.mk #[46,46,46]) [] (0:Int) [])].length≤1759218604441 then(DU x2 x3 (i64.wrap (eF-(1:Int))) r2.2.1 r2.2.2 aU bK b_ bV aX fP ig jI jq ((a4++ [(au r1.1)])++ [(af.mk (1:Int) (ByteArray.mk #[46,46,46]) [] (0:Int) [])])) else none) else(DU x2 x3 (i64.wrap (eF-(1:Int))) r2.2.1 r2.2.2 aU bK b_ bV aX fP ig jI jq (a4++ [(au r1.1)])))) else none))
def qh.NL (k:Nat) (Xe:af→Jq→Int→Jw→Int→Option (af×Jw×Int)) (DU:Jq→Int→Int→Jw→Int→Int→ByteArray→Jw→Int→Jq→Int→ByteArray→Jw→Int→Jq→Option (af×Jw×Int)) (x2:Jq) (aA:Jw) (aC:Int) (aU:Int) (bK:ByteArray) (b_:Jw) (bV:Int) (aX:Jq) (a4:Jq):Option (af×Jw×Int):=((Xe (af.mk aU bK b_ bV aX) x2 (0:Int) aA aC).bind fun r1=>((qp.f k a4 (au r1.1)).bind fun r2=>(some ((au r2),r1.2.1,r1.2.2))))
mutual
def qh.f:Nat→af→Jq→Int→Jw→Int→Option (af×Jw×Int)
 |0,_,_,_,_,_=>none
 |k+1,x1,x2,x3,aA,aC=>(if((0:Int)<(x2.length:Int)) then(if(x3≤(0:Int)) then(qh.NR k (qh.f k) (qh.Ey k) x2 x3 true aA aC x1.ak x1.aG x1.aB x1.aI x1.aj) else((qi.f k (3:Int) aA aC).bind fun r1=>(qh.NR k (qh.f k) (qh.Ey k) x2 x3 (decide (r1.1=(0:Int))) r1.2.1 r1.2.2 x1.ak x1.aG x1.aB x1.aI x1.aj))) else(qh.NR k (qh.f k) (qh.Ey k) x2 x3 false aA aC x1.ak x1.aG x1.aB x1.aI x1.aj))
def qh.Ey:Nat→Jq→Int→Int→Jw→Int→Int→ByteArray→Jw→Int→Jq→Int→ByteArray→Jw→Int→Jq→Option (af×Jw×Int)
 |0,_,_,_,_,_,_,_,_,_,_,_,_,_,_,_=>none
 |k+1,x2,x3,eF,aA,aC,aU,bK,b_,bV,aX,fP,ig,jI,jq,a4=>(if((0:Int)<eF) then(qh.Zf k (qh.f k) (qh.Ey k) x2 x3 eF aA aC aU bK b_ bV aX fP ig jI jq a4) else((qi.f k (10:Int) aA aC).bind fun r1=>(if(r1.1=(0:Int)) then(some ((af.mk (3:Int) ByteArray.empty [] (0:Int) [(af.mk (1:Int) (ByteArray.mk #[46,46,46]) [] (0:Int) []),(af.mk fP ig jI jq a4)]),r1.2.1,r1.2.2)) else(if(r1.1=(1:Int)) then(qh.NL k (qh.f k) (qh.Ey k) x2 r1.2.1 r1.2.2 aU bK b_ bV aX a4) else(some ((af.mk fP ig jI jq a4),r1.2.1,r1.2.2))))))
end
def qh.j2 (k:Nat) (x2:Jq) (x3:Int) (x25:Bool) (aA:Jw) (aC:Int) (aU:Int) (bK:ByteArray) (b_:Jw) (bV:Int) (aX:Jq):Option (af×Jw×Int):=qh.NR k (qh.f k) (qh.Ey k) x2 x3 x25 aA aC aU bK b_ bV aX
def qh.d15 (k:Nat) (x2:Jq) (x3:Int) (eF:Int) (aA:Jw) (aC:Int) (aU:Int) (bK:ByteArray) (b_:Jw) (bV:Int) (aX:Jq) (fP:Int) (ig:ByteArray) (jI:Jw) (jq:Int) (a4:Jq):Option (af×Jw×Int):=qh.Zf k (qh.f k) (qh.Ey k) x2 x3 eF aA aC aU bK b_ bV aX fP ig jI jq a4
def qh.d22 (k:Nat) (x2:Jq) (aA:Jw) (aC:Int) (aU:Int) (bK:ByteArray) (b_:Jw) (bV:Int) (aX:Jq) (a4:Jq):Option (af×Jw×Int):=qh.NL k (qh.f k) (qh.Ey k) x2 aA aC aU bK b_ bV aX a4
noncomputable def qz.j11 (k:Nat) (aU:Jw) (bK:Int) (a2:Jz) (fP:Int) (ig:ByteArray) (jI:Jw) (jq:Int) (Zg:Jq):Option (af×Jz):=((qi.f k (16:Int) aU bK).bind fun r1=>(if(r1.1=(0:Int)) then(if((0:Int)<(a2.length:Int)) then((qi.f k (4:Int) r1.2.1 r1.2.2).bind fun r2=>(if(0:Int)<(a2.length:Int) then(some ((af.mk fP ig jI jq Zg),(a2.set 0 (aV.mk (au (a2.getD 0 az).aZ) (i64.wrap (r2.1-(1:Int))) (au (a2.getD 0 az).bY) (a2.getD 0 az).aP)))) else none)) else(some ((af.mk fP ig jI jq Zg),a2))) else(some ((af.mk fP ig jI jq Zg),a2))))
noncomputable def qz.d8 (k:Nat) (aU:Jw) (bK:Int) (aQ:Int) (a_:ByteArray) (bI:Jw) (bC:Int) (dH:Jq) (a3:Jz):Option (af×Jz):=((uQ.f k (af.mk aQ a_ bI bC dH) []).bind fun r1=>((qh.f k (af.mk aQ a_ bI bC dH) r1 (2:Int) aU bK).bind fun r2=>((qi.f k (4:Int) r2.2.1 r2.2.2).bind fun r3=>(if(r3.1=(0:Int)) then(qz.j11 k r3.2.1 r3.2.2 a3 aQ a_ bI bC dH) else(qz.j11 k r3.2.1 r3.2.2 a3 r2.1.ak r2.1.aG r2.1.aB r2.1.aI r2.1.aj)))))
noncomputable def qz.NP (k:Nat) (aaR:Int→Jw→Int→Option (af×Jz)) (x5:Int) (aU:Jw) (bK:Int) (aQ:Int) (a_:ByteArray) (bI:Jw) (bC:Int) (dH:Jq):Option (af×Jz):=((qd.f k (af.mk aQ a_ bI bC dH) aU bK).bind fun r1=>((Va.f k (af.mk aQ a_ bI bC dH) [] (au r1.1) []).bind fun r2=>(if r2.1=true then(qz.d8 k r1.2.1 r1.2.2 aQ a_ bI bC dH r2.2) else(aaR (i64.wrap (x5+(1:Int))) r1.2.1 r1.2.2))))
noncomputable def qz.l3:Nat→Int→Jw→Int→Option (af×Jz)
 |0,_,_,_=>none
 |k+1,x5,aU,bK=>(if(x5<(6:Int)) then((ql.f k (3:Int) aU bK [(0:Int)]).bind fun r1=>(qz.NP k (qz.l3 k) x5 r1.2.1 r1.2.2.1 r1.1.ak r1.1.aG r1.1.aB r1.1.aI r1.1.aj)) else((q7.f k (2:Int) aU bK).bind fun r2=>(some ((au r2.1),[]))))
noncomputable def qz.d6 (k:Nat) (x5:Int) (aU:Jw) (bK:Int) (aQ:Int) (a_:ByteArray) (bI:Jw) (bC:Int) (dH:Jq):Option (af×Jz):=qz.NP k (qz.l3 k) x5 aU bK aQ a_ bI bC dH
noncomputable def qz.f (k:Nat) (x0:Jw):Option (af×Jz):=((IZ.f k x0).bind fun r1=>(qz.l3 k (0:Int) r1.1 r1.2))
def Wh.f (k:Nat) (x0:ByteArray) (x1:ByteArray):Option (Bool):=(if((x1.size:Int)≤(x0.size:Int)) then(if(0:Int)≤(x1.size:Int) then(if(x1.size:Int)≤(x0.size:Int) then(some (decide ((x0.extract 0 (x1.size:Int).toNat).toList=x1.toList))) else none) else none) else(some false))
def q37.f (k:Nat) (x0:ByteArray) (x1:ByteArray):Option (ByteArray):=((Wh.f k x0 x1).bind fun r1=>(if r1=true then(if(0:Int)≤(x1.size:Int) then(if(x1.size:Int)≤(x0.size:Int) then(if(x0.size:Int)≤(x0.size:Int) then(some (x0.extract (x1.size:Int).toNat (x0.size:Int).toNat)) else none) else none) else none) else(some x0)))
def q35.f (k:Nat) (x0:ByteArray) (x1:ByteArray):Option (ByteArray):=((q37.f k x0 x1).bind fun r1=>(some r1))
def vJ.l6:Nat→Jw→Int→Int→Option (Bool)
 |0,_,_,_=>none
 |k+1,Zh,x34,Zi=>(if(Zi<x34) then(if(0:Int)≤Zi then(if Zi<(Zh.length:Int) then(if((aF (0:Int) Zh Zi)<(32:Int)) then(some false) else(if((126:Int)<(aF (0:Int) Zh Zi)) then(some false) else(if((aF (0:Int) Zh Zi)=(34:Int)) then(some false) else(vJ.l6 k Zh x34 (i64.wrap (Zi+(1:Int))))))) else none) else none) else(some true))
def vJ.j5 (k:Nat) (x0:ByteArray) (x3:Int) (x28:Bool):Option (Bool):=(if x28=true then(if(1:Int)≤(i64.wrap (x3-(1:Int))) then(if(i64.wrap (x3-(1:Int)))≤(x0.size:Int) then(vJ.l6 k (bytesOf (x0.extract 1 (i64.wrap (x3-(1:Int))).toNat)) ((bytesOf (x0.extract 1 (i64.wrap (x3-(1:Int))).toNat)).length:Int) (0:Int)) else none) else none) else((q35.f k x0 (ByteArray.mk #[45])).bind fun r1=>(if(¬r1.toList=(ByteArray.mk #[]).toList) then(((tq r1 (ByteArray.mk #[48,49,50,51,52,53,54,55,56,57]))).bind fun r2=>(some (decide (r2.toList=(ByteArray.mk #[]).toList)))) else(some false))))
def vJ.j3 (k:Nat) (x0:ByteArray):Option (Bool):=(if((2:Int)≤(x0.size:Int)) then(if(0:Int)<(x0.size:Int) then(if((bt x0 (0:Int))=(34:Int)) then(if(0:Int)≤(i64.wrap ((x0.size:Int)-(1:Int))) then(if(i64.wrap ((x0.size:Int)-(1:Int)))<(x0.size:Int) then(vJ.j5 k x0 (x0.size:Int) (decide ((bt x0 (i64.wrap ((x0.size:Int)-(1:Int))))=(34:Int)))) else none) else none) else(vJ.j5 k x0 (x0.size:Int) false)) else none) else(vJ.j5 k x0 (x0.size:Int) false))
def vJ.f (k:Nat) (x0:ByteArray):Option (Bool):=(if(x0.toList=(ByteArray.mk #[35,116]).toList) then(some true) else(if(x0.toList=(ByteArray.mk #[35,102]).toList) then(some true) else(vJ.j3 k x0)))
def Iq.l2:Nat→ByteArray→Jw→Int→Int→Option (Bool)
 |0,_,_,_,_=>none
 |k+1,x0,x6,x7,x8=>(if(x8<x7) then(if(0:Int)≤x8 then(if x8<(x6.length:Int) then(if((aF (0:Int) x6 x8)<(33:Int)) then(some false) else(if((126:Int)<(aF (0:Int) x6 x8)) then(some false) else(if((0:Int)≤(jg (ByteArray.mk #[40,41,34,39,126]) (aF (0:Int) x6 x8))) then(some false) else(Iq.l2 k x0 x6 x7 (i64.wrap (x8+(1:Int))))))) else none) else none) else(if(¬x0.toList=(ByteArray.mk #[]).toList) then(if(¬x0.toList=(ByteArray.mk #[46]).toList) then(if(0:Int)<(x0.size:Int) then(if(¬(bt x0 (0:Int))=(35:Int)) then((vJ.f k x0).bind fun r2=>(some (decide (¬r2=true)))) else(some false)) else none) else(some false)) else(some false)))
def Iq.f (k:Nat) (x0:ByteArray):Option (Bool):=(Iq.l2 k x0 (bytesOf x0) ((bytesOf x0).length:Int) (0:Int))
def qg.l10:Nat→Int→Jw→Int→Int→Jw→Option (Int)
 |0,_,_,_,_,_=>none
 |k+1,x5,x40,x41,NU,bH=>(if(NU<x41) then(if(0:Int)≤NU then(if NU<(x40.length:Int) then(if((aF (0:Int) x40 NU)<(0:Int)) then(some (-1:Int)) else(if((0:Int)<NU) then(if(0:Int)≤(i64.wrap (NU-(1:Int))) then(if(i64.wrap (NU-(1:Int)))<(bH.length:Int) then(if((aF (0:Int) x40 NU)≤(aF (0:Int) bH (i64.wrap (NU-(1:Int))))) then(some (-1:Int)) else(qg.l10 k x5 x40 x41 (i64.wrap (NU+(1:Int))) bH)) else none) else none) else(qg.l10 k x5 x40 x41 (i64.wrap (NU+(1:Int))) bH))) else none) else none) else(some x5))
def qg.j9 (k:Nat) (x5:Int) (bH:Jw):Option (Int):=(qg.l10 k x5 bH (bH.length:Int) (0:Int) bH)
def qg.Vb (k:Nat) (Rj:af→Int→Option (Int)) (wU:Int→Int→Jq→Int→Int→Option (Int)) (x1:Int) (x5:Int) (aT:Jq):Option (Int):=(wU x1 x5 aT (aT.length:Int) (0:Int))
def qg.Ir (k:Nat) (Rj:af→Int→Option (Int)) (wU:Int→Int→Jq→Int→Int→Option (Int)) (x1:Int) (x5:Int) (aA:Int) (aT:Jq):Option (Int):=(if(aA=(4:Int)) then(if((aT.length:Int)<(2:Int)) then(some (-1:Int)) else(if(0:Int)≤(i64.wrap ((aT.length:Int)-(1:Int))) then(if(i64.wrap ((aT.length:Int)-(1:Int)))<(aT.length:Int) then(if(¬(aF ah aT (i64.wrap ((aT.length:Int)-(1:Int)))).ak=(1:Int)) then(if(0:Int)≤(i64.wrap ((aT.length:Int)-(1:Int))) then(if(i64.wrap ((aT.length:Int)-(1:Int)))<(aT.length:Int) then(if(¬(aF ah aT (i64.wrap ((aT.length:Int)-(1:Int)))).ak=(2:Int)) then(some (-1:Int)) else(qg.Vb k Rj wU x1 x5 aT)) else none) else none) else(qg.Vb k Rj wU x1 x5 aT)) else none) else none)) else(qg.Vb k Rj wU x1 x5 aT))
def qg.zD (k:Nat) (Rj:af→Int→Option (Int)) (wU:Int→Int→Jq→Int→Int→Option (Int)) (x1:Int) (x5:Int) (x93:Bool) (aA:Int) (aC:ByteArray) (bH:Jw) (dA:Int) (aT:Jq):Option (Int):=(if x93=true then(if(¬aC.toList=(ByteArray.mk #[]).toList) then(some (-1:Int)) else(if(¬dA=(0:Int)) then(some (-1:Int)) else(if((0:Int)<(bH.length:Int)) then(some (-1:Int)) else(qg.Ir k Rj wU x1 x5 aA aT)))) else(some (-1:Int)))
mutual
def qg.f:Nat→af→Int→Option (Int)
 |0,_,_=>none
 |k+1,x0,x1=>(if((60:Int)<x1) then(some (-1:Int)) else(if(x0.ak=(1:Int)) then((Iq.f k x0.aG).bind fun r1=>(if(¬r1=true) then(some (-1:Int)) else(if((40:Int)<(x0.aG.size:Int)) then(some (-1:Int)) else(if(x0.aI<(0:Int)) then(some (-1:Int)) else(if((0:Int)<(x0.aj.length:Int)) then(some (-1:Int)) else(qg.j9 k (1:Int) x0.aB)))))) else(if(x0.ak=(2:Int)) then((vJ.f k x0.aG).bind fun r2=>(if(¬r2=true) then(some (-1:Int)) else(if((40:Int)<(x0.aG.size:Int)) then(some (-1:Int)) else(if(¬x0.aI=(0:Int)) then(some (-1:Int)) else(if((0:Int)<(x0.aB.length:Int)) then(some (-1:Int)) else(if((0:Int)<(x0.aj.length:Int)) then(some (-1:Int)) else(some (1:Int)))))))) else(if(x0.ak=(3:Int)) then(qg.zD k (qg.f k) (qg.Tu k) x1 (1:Int) true x0.ak x0.aG x0.aB x0.aI x0.aj) else(qg.zD k (qg.f k) (qg.Tu k) x1 (1:Int) (decide (x0.ak=(4:Int))) x0.ak x0.aG x0.aB x0.aI x0.aj)))))
def qg.Tu:Nat→Int→Int→Jq→Int→Int→Option (Int)
 |0,_,_,_,_,_=>none
 |k+1,x1,x5,Zj,aaS,EN=>(if(EN<aaS) then(if(0:Int)≤EN then(if EN<(Zj.length:Int) then((qg.f k (au (aF ah Zj EN)) (i64.wrap (x1+(1:Int)))).bind fun r1=>(if(r1<(0:Int)) then(some (-1:Int)) else(if((1500:Int)<(i64.wrap (x5+r1))) then(some (-1:Int)) else(qg.Tu k x1 (i64.wrap (x5+r1)) Zj aaS (i64.wrap (EN+(1:Int))))))) else none) else none) else(some x5))
end
def qg.j20 (k:Nat) (x1:Int) (x5:Int) (x93:Bool) (aA:Int) (aC:ByteArray) (bH:Jw) (dA:Int) (aT:Jq):Option (Int):=qg.zD k (qg.f k) (qg.Tu k) x1 x5 x93 aA aC bH dA aT
def qg.j22 (k:Nat) (x1:Int) (x5:Int) (aA:Int) (aT:Jq):Option (Int):=qg.Ir k (qg.f k) (qg.Tu k) x1 x5 aA aT
def qg.j26 (k:Nat) (x1:Int) (x5:Int) (aT:Jq):Option (Int):=qg.Vb k (qg.f k) (qg.Tu k) x1 x5 aT
def yX.f (k:Nat) (x0:af):Option (Bool):=((qg.f k (au x0) (0:Int)).bind fun r1=>(some (decide ((0:Int)<r1))))
def qt.BK (k:Nat) (ad7:aV→Option (Bool)) (aaT:Jz→Int→Int→Int→Option (Bool)) (wV:Int) (NV:Int) (NW:ByteArray) (NY:Jw) (NZ:Int) (DW:Jq) (uS:Jz):Option (Bool):=(if(wV=(0:Int)) then(if((uS.length:Int)=(0:Int)) then((yX.f k (af.mk NV NW NY NZ DW)).bind fun r1=>(some r1)) else(some false)) else(aaT uS (uS.length:Int) (0:Int) wV))
mutual
def qt.f:Nat→aV→Option (Bool)
 |0,_=>none
 |k+1,x0=>(if(¬x0.aZ.ak=(1:Int)) then(some false) else((yX.f k (au x0.aZ)).bind fun r1=>(if(¬r1=true) then(some false) else(if(x0.bu<(0:Int)) then(some false) else(if((60:Int)<x0.bu) then(some false) else(qt.BK k (qt.f k) (qt.l6 k) x0.bu x0.bY.ak x0.bY.aG x0.bY.aB x0.bY.aI x0.bY.aj x0.aP))))))
def qt.l6:Nat→Jz→Int→Int→Int→Option (Bool)
 |0,_,_,_,_=>none
 |k+1,x38,x39,x40,wV=>(if(x40<x39) then(if(0:Int)≤x40 then(if x40<(x38.length:Int) then(if(¬(aF az x38 x40).bu=(i64.wrap (wV-(1:Int)))) then(some false) else((qt.f k (aV.mk (au (aF az x38 x40).aZ) (aF az x38 x40).bu (au (aF az x38 x40).bY) (aF az x38 x40).aP)).bind fun r1=>(if(¬r1=true) then(some false) else(qt.l6 k x38 x39 (i64.wrap (x40+(1:Int))) wV)))) else none) else none) else(some true))
end
def qt.j3 (k:Nat) (wV:Int) (NV:Int) (NW:ByteArray) (NY:Jw) (NZ:Int) (DW:Jq) (uS:Jz):Option (Bool):=qt.BK k (qt.f k) (qt.l6 k) wV NV NW NY NZ DW uS
def Iu.l4:Nat→Jw→Jw→Int→Int→Option (Bool)
 |0,_,_,_,_=>none
 |k+1,x0,x1,x12,eF=>(if(eF<x12) then(if(0:Int)≤eF then(if eF<(x0.length:Int) then(if(0:Int)≤eF then(if eF<(x1.length:Int) then(if(¬(aF (0:Int) x0 eF)=(aF (0:Int) x1 eF)) then(some false) else(Iu.l4 k x0 x1 x12 (i64.wrap (eF+(1:Int))))) else none) else none) else none) else none) else(some true))
def Iu.f (k:Nat) (x0:Jw) (x1:Jw):Option (Bool):=(if(¬(x0.length:Int)=(x1.length:Int)) then(some false) else(Iu.l4 k x0 x1 (x0.length:Int) (0:Int)))
def Qd.f (k:Nat) (x0:af) (x1:af):Option (Bool):=(if(x0.aG.toList=x1.aG.toList) then((Iu.f k x0.aB x1.aB).bind fun r1=>(some r1)) else(some false))
def EO.l2:Nat→Jz→Int→Int→Int→ByteArray→Jw→Int→Jq→Option (Int)
 |0,_,_,_,_,_,_,_,_=>none
 |k+1,x7,x8,x9,aA,aC,bH,dA,aT=>(if(x9<x8) then(if(0:Int)≤x9 then(if x9<(x7.length:Int) then((Qd.f k (au (aF az x7 x9).aZ) (af.mk aA aC bH dA aT)).bind fun r1=>(if r1=true then(some x9) else(EO.l2 k x7 x8 (i64.wrap (x9+(1:Int))) aA aC bH dA aT))) else none) else none) else(some (-1:Int)))
def EO.f (k:Nat) (x0:Jz) (x1:af):Option (Int):=(EO.l2 k x0 (x0.length:Int) (0:Int) x1.ak x1.aG x1.aB x1.aI x1.aj)
mutual
def vS.f:Nat→af→Option (af)
 |0,_=>none
 |k+1,x0=>(if([]:Jw).length+x0.aB.length≤17592186044416 then(vS.l4 k x0.aj (x0.aj.length:Int) (0:Int) x0.ak x0.aG x0.aI [] ([]++x0.aB)) else none)
def vS.l4:Nat→Jq→Int→Int→Int→ByteArray→Int→Jq→Jw→Option (af)
 |0,_,_,_,_,_,_,_,_=>none
 |k+1,x11,x12,eF,aA,aC,dA,a2,a3=>(if(eF<x12) then(if(0:Int)≤eF then(if eF<(x11.length:Int) then((vS.f k (au (aF ah x11 eF))).bind fun r1=>(if a2.length+ [(au r1)].length≤1759218604441 then(vS.l4 k x11 x12 (i64.wrap (eF+(1:Int))) aA aC dA (a2++ [(au r1)]) a3) else none)) else none) else none) else(some (af.mk aA aC a3 dA a2)))
end
mutual
def Ak.f:Nat→Jq→Option (Int)
 |0,_=>none
 |k+1,x0=>(Ak.l3 k (0:Int) x0 (x0.length:Int) (0:Int))
def Ak.l3:Nat→Int→Jq→Int→Int→Option (Int)
 |0,_,_,_,_=>none
 |k+1,x3,x6,x7,x8=>(if(x8<x7) then(if(0:Int)≤x8 then(if x8<(x6.length:Int) then((Ak.f k (aF ah x6 x8).aj).bind fun r1=>(Ak.l3 k (i64.wrap (x3+(i64.wrap ((1:Int)+r1)))) x6 x7 (i64.wrap (x8+(1:Int))))) else none) else none) else(some x3))
end
def I7.d1 (k:Nat) (aA:Int) (aC:Bool) (aU:Int) (bK:ByteArray) (b_:Jw) (bV:Int) (aX:Jq):Option (af×Int×Bool):=((Ak.f k [(af.mk aU bK b_ bV aX)]).bind fun r1=>(if aC=true then(some ((af.mk aU bK b_ bV aX),(i64.wrap (aA+r1)),true)) else(some ((af.mk aU bK b_ bV aX),(i64.wrap (aA+r1)),(decide ((6000:Int)<(i64.wrap (aA+r1))))))))
def I7.f (k:Nat) (x1:af) (aA:Int) (aC:Bool):Option (af×Int×Bool):=(I7.d1 k aA aC x1.ak x1.aG x1.aB x1.aI x1.aj)
def q2z.f (k:Nat) (aA:Int) (aC:Bool):Option (af×Int×Bool):=(some ((af.mk (0:Int) ByteArray.empty [] (0:Int) []),aA,true))
def Am.f (k:Nat) (x0:af) (x1:ByteArray):Option (Bool):=(if(x0.ak=(1:Int)) then(some (decide (x0.aG.toList=x1.toList))) else(some false))
def BL.f (k:Nat) (x0:af):Option (Jq×(Option af)):=(if(x0.ak=(3:Int)) then(some (x0.aj,none)) else(if(x0.ak=(4:Int)) then(if(0:Int)≤(i64.wrap ((x0.aj.length:Int)-(1:Int))) then(if(i64.wrap ((x0.aj.length:Int)-(1:Int)))<(x0.aj.length:Int) then(if(0:Int)≤(i64.wrap ((x0.aj.length:Int)-(1:Int))) then(if(i64.wrap ((x0.aj.length:Int)-(1:Int)))≤(x0.aj.length:Int) then(some (((x0.aj.take (i64.wrap ((x0.aj.length:Int)-(1:Int))).toNat).drop 0),(some (aF ah ([(af.mk (0:Int) ByteArray.empty [] (0:Int) [])].set 0 (au (aF ah x0.aj (i64.wrap ((x0.aj.length:Int)-(1:Int)))))) (0:Int))))) else none) else none) else none) else none) else(some ([],(some (aF ah ([(af.mk (0:Int) ByteArray.empty [] (0:Int) [])].set 0 (au x0)) (0:Int)))))))
def F5.d5 (k:Nat) (aA:Int) (aT:Jq) (a2:Jq):Option (af):=(if a2.length+aT.length≤1759218604441 then(some (af.mk aA ByteArray.empty [] (0:Int) (a2++aT))) else none)
def F5.f (k:Nat) (x0:Jq) (x1:af):Option (af):=(if((x0.length:Int)=(0:Int)) then(some (au x1)) else(if([]:Jq).length+x0.length≤1759218604441 then(if(x1.ak=(3:Int)) then(F5.d5 k x1.ak x1.aj ([]++x0)) else(if(x1.ak=(4:Int)) then(F5.d5 k x1.ak x1.aj ([]++x0)) else(if([]++x0).length+ [(au x1)].length≤1759218604441 then(some (af.mk (4:Int) ByteArray.empty [] (0:Int) (([]++x0)++ [(au x1)]))) else none))) else none))
def Iw.j4 (k:Nat) (x6:Int) (aA:Jz) (aQ:Int) (a4:Jw) (b4:Jx) (kE:Int) (qZ:Bool):Option (Jz×Int×Jw×Jx×Int×Bool):=(if(0:Int)≤x6 then(if x6<(aA.length:Int) then(if((0:Int)≤aQ) then(if(¬aQ=((aF az aA x6).aP.length:Int)) then(some (aA,aQ,(MN (nY a4 x6) a4 x6),(Yy (nY a4 x6) b4 true),kE,true)) else(some (aA,((aF az aA x6).aP.length:Int),(MN (nY a4 x6) a4 x6),(Yy (nY a4 x6) b4 true),kE,qZ))) else(some (aA,((aF az aA x6).aP.length:Int),(MN (nY a4 x6) a4 x6),(Yy (nY a4 x6) b4 true),kE,qZ))) else none) else none)
def Iw.j2 (k:Nat) (aA:Jz) (aQ:Int) (a4:Jw) (b4:Jx) (kE:Int) (qZ:Bool) (acv:Int) (acw:ByteArray) (acy:Jw) (acz:Int) (Rk:Jq):Option (Jz×Int×Jw×Jx×Int×Bool):=((EO.f k aA (af.mk acv acw acy acz Rk)).bind fun r1=>(if(r1<(0:Int)) then(some (aA,aQ,a4,b4,kE,qZ)) else(if(0:Int)≤r1 then(if r1<(aA.length:Int) then(if((aF az aA r1).bu=(0:Int)) then(some (aA,aQ,a4,b4,kE,qZ)) else(Iw.j4 k r1 aA aQ a4 b4 kE qZ)) else none) else none)))
def Iw.f (k:Nat) (x0:af) (aA:Jz) (aQ:Int) (a4:Jw) (b4:Jx) (kE:Int) (qZ:Bool):Option (Jz×Int×Jw×Jx×Int×Bool):=(if(x0.aG.toList=(ByteArray.mk #[46,46,46]).toList) then(some (aA,aQ,a4,b4,kE,qZ)) else(if(x0.aG.toList=(ByteArray.mk #[95]).toList) then(some (aA,aQ,a4,b4,kE,qZ)) else(Iw.j2 k aA aQ a4 b4 kE qZ x0.ak x0.aG x0.aB x0.aI x0.aj)))
def qm.BK (k:Nat) (ad8:af→Jz→Int→Jw→Jx→Int→Bool→Option (Jz×Int×Jw×Jx×Int×Bool)) (aaU:Jq→Int→Int→Jz→Int→Jw→Jx→Int→Bool→Option (Jz×Int×Jw×Jx×Int×Bool)) (aA:Jz) (aQ:Int) (a4:Jw) (b4:Jx) (kE:Int) (qZ:Bool) (Rk:Jq):Option (Jz×Int×Jw×Jx×Int×Bool):=(aaU Rk (Rk.length:Int) (0:Int) aA aQ a4 b4 kE qZ)
mutual
def qm.f:Nat→af→Jz→Int→Jw→Jx→Int→Bool→Option (Jz×Int×Jw×Jx×Int×Bool)
 |0,_,_,_,_,_,_,_=>none
 |k+1,x0,aA,aQ,a4,b4,kE,qZ=>(if(x0.ak=(1:Int)) then((Iw.f k (au x0) aA aQ a4 b4 kE qZ).bind fun r1=>(qm.BK k (qm.f k) (qm.l4 k) r1.1 r1.2.1 r1.2.2.1 r1.2.2.2.1 r1.2.2.2.2.1 r1.2.2.2.2.2 x0.aj)) else(qm.BK k (qm.f k) (qm.l4 k) aA aQ a4 b4 kE qZ x0.aj))
def qm.l4:Nat→Jq→Int→Int→Jz→Int→Jw→Jx→Int→Bool→Option (Jz×Int×Jw×Jx×Int×Bool)
 |0,_,_,_,_,_,_,_,_,_=>none
 |k+1,eF,x14,x15,aA,aQ,a4,b4,kE,qZ=>(if(x15<x14) then(if(0:Int)≤x15 then(if x15<(eF.length:Int) then((qm.f k (au (aF ah eF x15)) aA aQ a4 b4 kE qZ).bind fun r1=>(qm.l4 k eF x14 (i64.wrap (x15+(1:Int))) r1.1 r1.2.1 r1.2.2.1 r1.2.2.2.1 r1.2.2.2.2.1 r1.2.2.2.2.2)) else none) else none) else(some (aA,aQ,a4,b4,kE,qZ)))
end
def qm.j3 (k:Nat) (aA:Jz) (aQ:Int) (a4:Jw) (b4:Jx) (kE:Int) (qZ:Bool) (Rk:Jq):Option (Jz×Int×Jw×Jx×Int×Bool):=qm.BK k (qm.f k) (qm.l4 k) aA aQ a4 b4 kE qZ Rk
noncomputable def qa.Bo (k:Nat) (N7:af→Jz→Bool→Int→Bool→Option (af×Int×Bool)) (wW:Jz→Bool→Jq→(Option af)→Int→Int→Bool→Jq→Option (af×Int×Bool)) (wX:Jz→Bool→Jq→(Option af)→Int→Int→Int→Bool→Jq→Option (af×Int×Bool)) (Rl:af→Int→Jz→Bool→Int→Bool→Option (Int×Bool×Jq)) (wY:Int→Bool→Int→Int→Bool→Int→ByteArray→Jw→Int→Jq→Jz→Int→Jq→Jw→Jx→Option (Int×Bool×Jq)) (wZ:Int→Bool→Int→Int→Bool→Int→ByteArray→Jw→Int→Jq→Jz→Int→Jq→Jz→Int→Jw→Jw→Jx→Option (Int×Bool×Jq)) (x2:Jz) (x3:Bool) (x74:Bool) (aA:Int) (aC:Bool) (aU:Int) (bK:ByteArray) (b_:Jw) (bV:Int) (aX:Jq):Option (af×Int×Bool):=(if x74=true then(if(1:Int)<(aX.length:Int) then((N7 (au (aF ah aX (1:Int))) x2 true aA aC).bind fun r1=>(some ((au r1.1),r1.2.1,r1.2.2))) else none) else((BL.f k (af.mk aU bK b_ bV aX)).bind fun r2=>(wW x2 x3 r2.1 r2.2 (0:Int) aA aC [])))
noncomputable def qa.Ir (k:Nat) (N7:af→Jz→Bool→Int→Bool→Option (af×Int×Bool)) (wW:Jz→Bool→Jq→(Option af)→Int→Int→Bool→Jq→Option (af×Int×Bool)) (wX:Jz→Bool→Jq→(Option af)→Int→Int→Int→Bool→Jq→Option (af×Int×Bool)) (Rl:af→Int→Jz→Bool→Int→Bool→Option (Int×Bool×Jq)) (wY:Int→Bool→Int→Int→Bool→Int→ByteArray→Jw→Int→Jq→Jz→Int→Jq→Jw→Jx→Option (Int×Bool×Jq)) (wZ:Int→Bool→Int→Int→Bool→Int→ByteArray→Jw→Int→Jq→Jz→Int→Jq→Jz→Int→Jw→Jw→Jx→Option (Int×Bool×Jq)) (x2:Jz) (x3:Bool) (x10:Jq) (x11:(Option af)) (eF:Int) (aA:Int) (aC:Bool) (a2:Jq):Option (af×Int×Bool):=(wX x2 x3 x10 x11 eF (0:Int) aA aC a2)
noncomputable def qa.zD (k:Nat) (N7:af→Jz→Bool→Int→Bool→Option (af×Int×Bool)) (wW:Jz→Bool→Jq→(Option af)→Int→Int→Bool→Jq→Option (af×Int×Bool)) (wX:Jz→Bool→Jq→(Option af)→Int→Int→Int→Bool→Jq→Option (af×Int×Bool)) (Rl:af→Int→Jz→Bool→Int→Bool→Option (Int×Bool×Jq)) (wY:Int→Bool→Int→Int→Bool→Int→ByteArray→Jw→Int→Jq→Jz→Int→Jq→Jw→Jx→Option (Int×Bool×Jq)) (wZ:Int→Bool→Int→Int→Bool→Int→ByteArray→Jw→Int→Jq→Jz→Int→Jq→Jz→Int→Jw→Jw→Jx→Option (Int×Bool×Jq)) (x2:Jz) (x3:Bool) (x10:Jq) (x11:(Option af)) (eF:Int) (aA:Int) (aC:Bool) (a2:Jq):Option (af×Int×Bool):=(if(¬x3=true) then(if(0:Int)≤eF then(if eF<(x10.length:Int) then((Am.f k (au (aF ah x10 eF)) (ByteArray.mk #[46,46,46])).bind fun r1=>(if r1=true then((q2z.f k aA aC).bind fun r2=>(some ((au r2.1),r2.2.1,r2.2.2))) else(qa.Ir k N7 wW wX Rl wY wZ x2 x3 x10 x11 eF aA aC a2))) else none) else none) else(qa.Ir k N7 wW wX Rl wY wZ x2 x3 x10 x11 eF aA aC a2))
noncomputable def qb.tY (k:Nat) (N7:af→Jz→Bool→Int→Bool→Option (af×Int×Bool)) (wW:Jz→Bool→Jq→(Option af)→Int→Int→Bool→Jq→Option (af×Int×Bool)) (wX:Jz→Bool→Jq→(Option af)→Int→Int→Int→Bool→Jq→Option (af×Int×Bool)) (Rl:af→Int→Jz→Bool→Int→Bool→Option (Int×Bool×Jq)) (wY:Int→Bool→Int→Int→Bool→Int→ByteArray→Jw→Int→Jq→Jz→Int→Jq→Jw→Jx→Option (Int×Bool×Jq)) (wZ:Int→Bool→Int→Int→Bool→Int→ByteArray→Jw→Int→Jq→Jz→Int→Jq→Jz→Int→Jw→Jw→Jx→Option (Int×Bool×Jq)) (x2:Int) (x4:Bool) (aA:Int) (aC:Bool) (aQ:Int) (a_:ByteArray) (bI:Jw) (bC:Int) (dH:Jq) (fP:Jz) (kE:Int) (a6:Jw) (b6:Jx):Option (Int×Bool×Jq):=(wY x2 x4 (0:Int) aA aC aQ a_ bI bC dH fP kE [] a6 b6)
noncomputable def qb.Bo (k:Nat) (N7:af→Jz→Bool→Int→Bool→Option (af×Int×Bool)) (wW:Jz→Bool→Jq→(Option af)→Int→Int→Bool→Jq→Option (af×Int×Bool)) (wX:Jz→Bool→Jq→(Option af)→Int→Int→Int→Bool→Jq→Option (af×Int×Bool)) (Rl:af→Int→Jz→Bool→Int→Bool→Option (Int×Bool×Jq)) (wY:Int→Bool→Int→Int→Bool→Int→ByteArray→Jw→Int→Jq→Jz→Int→Jq→Jw→Jx→Option (Int×Bool×Jq)) (wZ:Int→Bool→Int→Int→Bool→Int→ByteArray→Jw→Int→Jq→Jz→Int→Jq→Jz→Int→Jw→Jw→Jx→Option (Int×Bool×Jq)) (x2:Int) (x4:Bool) (x14:Int) (aA:Int) (aC:Bool) (aQ:Int) (a_:ByteArray) (bI:Jw) (bC:Int) (dH:Jq) (fP:Jz) (kE:Int) (a6:Jq) (a7:Jw) (b7:Jx):Option (Int×Bool×Jq):=(if([]:Jz).length+fP.length≤733007751850 then(wZ x2 x4 x14 aA aC aQ a_ bI bC dH fP kE a6 ([]++fP) (a7.length:Int) (upTo a7.length) a7 b7) else none)
mutual
noncomputable def qa.f:Nat→af→Jz→Bool→Int→Bool→Option (af×Int×Bool)
 |0,_,_,_,_,_=>none
 |k+1,x1,x2,x3,aA,aC=>(if aC=true then(some ((af.mk (0:Int) ByteArray.empty [] (0:Int) []),aA,aC)) else(if(x1.ak=(1:Int)) then((EO.f k x2 (au x1)).bind fun r1=>(if(r1<(0:Int)) then((vS.f k (au x1)).bind fun r2=>((I7.f k (au r2) aA aC).bind fun r3=>(some ((au r3.1),r3.2.1,r3.2.2)))) else(if(0:Int)≤r1 then(if r1<(x2.length:Int) then(if((0:Int)<(aF az x2 r1).bu) then((q2z.f k aA aC).bind fun r4=>(some ((au r4.1),r4.2.1,r4.2.2))) else(if(0:Int)≤r1 then(if r1<(x2.length:Int) then((vS.f k (au (aF az x2 r1).bY)).bind fun r5=>((I7.f k (au r5) aA aC).bind fun r6=>(some ((au r6.1),r6.2.1,r6.2.2)))) else none) else none)) else none) else none))) else(if(x1.ak=(2:Int)) then((vS.f k (au x1)).bind fun r7=>((I7.f k (au r7) aA aC).bind fun r8=>(some ((au r8.1),r8.2.1,r8.2.2)))) else(if(¬x3=true) then(if(x1.ak=(3:Int)) then(if((x1.aj.length:Int)=(2:Int)) then(if(0:Int)<(x1.aj.length:Int) then((Am.f k (au (aF ah x1.aj (0:Int))) (ByteArray.mk #[46,46,46])).bind fun r9=>(qa.Bo k (qa.f k) (qa.lG k) (qa.EP k) (qb.f k) (qb.l12 k) (qb.Ez k) x2 x3 r9 aA aC x1.ak x1.aG x1.aB x1.aI x1.aj)) else none) else(qa.Bo k (qa.f k) (qa.lG k) (qa.EP k) (qb.f k) (qb.l12 k) (qb.Ez k) x2 x3 false aA aC x1.ak x1.aG x1.aB x1.aI x1.aj)) else(qa.Bo k (qa.f k) (qa.lG k) (qa.EP k) (qb.f k) (qb.l12 k) (qb.Ez k) x2 x3 false aA aC x1.ak x1.aG x1.aB x1.aI x1.aj)) else(qa.Bo k (qa.f k) (qa.lG k) (qa.EP k) (qb.f k) (qb.l12 k) (qb.Ez k) x2 x3 false aA aC x1.ak x1.aG x1.aB x1.aI x1.aj)))))
noncomputable def qa.lG:Nat→Jz→Bool→Jq→(Option af)→Int→Int→Bool→Jq→Option (af×Int×Bool)
 |0,_,_,_,_,_,_,_,_=>none
 |k+1,x2,x3,x10,x11,eF,aA,aC,a2=>(if(eF<(x10.length:Int)) then(if(¬aC=true) then(qa.zD k (qa.f k) (qa.lG k) (qa.EP k) (qb.f k) (qb.l12 k) (qb.Ez k) x2 x3 x10 x11 eF aA aC a2) else(if aC=true then(some ((af.mk (0:Int) ByteArray.empty [] (0:Int) []),aA,aC)) else(if(Option.isSome x11=false) then(some ((af.mk (3:Int) ByteArray.empty [] (0:Int) a2),(i64.wrap (aA+(1:Int))),aC)) else((x11).bind fun y1=>((qa.f k (au y1) x2 x3 aA aC).bind fun r2=>((F5.f k a2 (au r2.1)).bind fun r3=>(some ((au r3),r2.2.1,r2.2.2)))))))) else(if aC=true then(some ((af.mk (0:Int) ByteArray.empty [] (0:Int) []),aA,aC)) else(if(Option.isSome x11=false) then(some ((af.mk (3:Int) ByteArray.empty [] (0:Int) a2),(i64.wrap (aA+(1:Int))),aC)) else((x11).bind fun y4=>((qa.f k (au y4) x2 x3 aA aC).bind fun r5=>((F5.f k a2 (au r5.1)).bind fun r6=>(some ((au r6),r5.2.1,r5.2.2))))))))
noncomputable def qa.EP:Nat→Jz→Bool→Jq→(Option af)→Int→Int→Int→Bool→Jq→Option (af×Int×Bool)
 |0,_,_,_,_,_,_,_,_,_=>none
 |k+1,x2,x3,x10,x11,eF,x14,aA,aC,a2=>(if(¬x3=true) then(if((i64.wrap ((i64.wrap (eF+(1:Int)))+x14))<(x10.length:Int)) then(if(0:Int)≤(i64.wrap ((i64.wrap (eF+(1:Int)))+x14)) then(if(i64.wrap ((i64.wrap (eF+(1:Int)))+x14))<(x10.length:Int) then((Am.f k (au (aF ah x10 (i64.wrap ((i64.wrap (eF+(1:Int)))+x14)))) (ByteArray.mk #[46,46,46])).bind fun r1=>(if r1=true then(qa.EP k x2 x3 x10 x11 eF (i64.wrap (x14+(1:Int))) aA aC a2) else(if(0:Int)≤eF then(if eF<(x10.length:Int) then((qb.f k (au (aF ah x10 eF)) x14 x2 x3 aA aC).bind fun r2=>(if a2.length+r2.2.2.length≤1759218604441 then(qa.lG k x2 x3 x10 x11 (i64.wrap ((i64.wrap (eF+x14))+(1:Int))) r2.1 r2.2.1 (a2++r2.2.2)) else none)) else none) else none))) else none) else none) else(if(0:Int)≤eF then(if eF<(x10.length:Int) then((qb.f k (au (aF ah x10 eF)) x14 x2 x3 aA aC).bind fun r3=>(if a2.length+r3.2.2.length≤1759218604441 then(qa.lG k x2 x3 x10 x11 (i64.wrap ((i64.wrap (eF+x14))+(1:Int))) r3.1 r3.2.1 (a2++r3.2.2)) else none)) else none) else none)) else(if(0:Int)≤eF then(if eF<(x10.length:Int) then((qb.f k (au (aF ah x10 eF)) x14 x2 x3 aA aC).bind fun r4=>(if a2.length+r4.2.2.length≤1759218604441 then(qa.lG k x2 x3 x10 x11 (i64.wrap ((i64.wrap (eF+x14))+(1:Int))) r4.1 r4.2.1 (a2++r4.2.2)) else none)) else none) else none))
noncomputable def qb.f:Nat→af→Int→Jz→Bool→Int→Bool→Option (Int×Bool×Jq)
 |0,_,_,_,_,_,_=>none
 |k+1,x1,x2,x3,x4,aA,aC=>(if aC=true then(some (aA,aC,[])) else(if(x2=(0:Int)) then((qa.f k (au x1) x3 x4 aA aC).bind fun r1=>(some (r1.2.1,r1.2.2,[(au r1.1)]))) else((qm.f k (au x1) x3 (-1:Int) [] [] aA aC).bind fun r2=>(if((r2.2.2.1.length:Int)=(0:Int)) then(qb.tY k (qa.f k) (qa.lG k) (qa.EP k) (qb.f k) (qb.l12 k) (qb.Ez k) x2 x4 r2.2.2.2.2.1 true x1.ak x1.aG x1.aB x1.aI x1.aj r2.1 r2.2.1 r2.2.2.1 r2.2.2.2.1) else(qb.tY k (qa.f k) (qa.lG k) (qa.EP k) (qb.f k) (qb.l12 k) (qb.Ez k) x2 x4 r2.2.2.2.2.1 r2.2.2.2.2.2 x1.ak x1.aG x1.aB x1.aI x1.aj r2.1 r2.2.1 r2.2.2.1 r2.2.2.2.1)))))
noncomputable def qb.l12:Nat→Int→Bool→Int→Int→Bool→Int→ByteArray→Jw→Int→Jq→Jz→Int→Jq→Jw→Jx→Option (Int×Bool×Jq)
 |0,_,_,_,_,_,_,_,_,_,_,_,_,_,_,_=>none
 |k+1,x2,x4,x14,aA,aC,aQ,a_,bI,bC,dH,fP,kE,a6,a7,b7=>(if(x14<kE) then(if(¬aC=true) then(qb.Bo k (qa.f k) (qa.lG k) (qa.EP k) (qb.f k) (qb.l12 k) (qb.Ez k) x2 x4 x14 aA aC aQ a_ bI bC dH fP kE a6 a7 b7) else(some (aA,aC,a6))) else(some (aA,aC,a6)))
noncomputable def qb.Ez:Nat→Int→Bool→Int→Int→Bool→Int→ByteArray→Jw→Int→Jq→Jz→Int→Jq→Jz→Int→Jw→Jw→Jx→Option (Int×Bool×Jq)
 |0,_,_,_,_,_,_,_,_,_,_,_,_,_,_,_,_,_,_=>none
 |k+1,x2,x4,x14,aA,aC,aQ,a_,bI,bC,dH,fP,kE,a6,a7,a8,b8,a9,b9=>(if(a9.length:Int)=a8 then(if b8= [] then((qb.f k (af.mk aQ a_ bI bC dH) (i64.wrap (x2-(1:Int))) a7 x4 aA aC).bind fun r2=>(if a6.length+r2.2.2.length≤1759218604441 then(qb.l12 k x2 x4 (i64.wrap (x14+(1:Int))) r2.1 r2.2.1 aQ a_ bI bC dH fP kE (a6++r2.2.2) a9 b9) else none)) else(kY b8 fun c1 q1=>(if(a9.length:Int)=a8 then(if(0:Int)≤(aF (0:Int) a9 c1) then(if(aF (0:Int) a9 c1)<(a7.length:Int) then(if(0:Int)≤(aF (0:Int) a9 c1) then(if(aF (0:Int) a9 c1)<(a7.length:Int) then(if(0:Int)≤x14 then(if x14<((a7.getD ((aF (0:Int) a9 c1).toNat) az).aP.length:Int) then(if(0:Int)≤(aF (0:Int) a9 c1) then(if(aF (0:Int) a9 c1)<(a7.length:Int) then(if(0:Int)≤(aF (0:Int) a9 c1) then(if(aF (0:Int) a9 c1)<((a7.set ((aF (0:Int) a9 c1).toNat) (aV.mk (au (aF az (a7.getD ((aF (0:Int) a9 c1).toNat) az).aP x14).aZ) (aF az (a7.getD ((aF (0:Int) a9 c1).toNat) az).aP x14).bu (au (aF az (a7.getD ((aF (0:Int) a9 c1).toNat) az).aP x14).bY) (aF az (a7.getD ((aF (0:Int) a9 c1).toNat) az).aP x14).aP)).length:Int) then(qb.Ez k x2 x4 x14 aA aC aQ a_ bI bC dH fP kE a6 ((a7.set ((aF (0:Int) a9 c1).toNat) (aV.mk (au (aF az (a7.getD ((aF (0:Int) a9 c1).toNat) az).aP x14).aZ) (aF az (a7.getD ((aF (0:Int) a9 c1).toNat) az).aP x14).bu (au (aF az (a7.getD ((aF (0:Int) a9 c1).toNat) az).aP x14).bY) (aF az (a7.getD ((aF (0:Int) a9 c1).toNat) az).aP x14).aP)).set ((aF (0:Int) a9 c1).toNat) (aV.mk (au (a7.getD ((aF (0:Int) a9 c1).toNat) az).aZ) ((a7.set ((aF (0:Int) a9 c1).toNat) (aV.mk (au (aF az (a7.getD ((aF (0:Int) a9 c1).toNat) az).aP x14).aZ) (aF az (a7.getD ((aF (0:Int) a9 c1).toNat) az).aP x14).bu (au (aF az (a7.getD ((aF (0:Int) a9 c1).toNat) az).aP x14).bY) (aF az (a7.getD ((aF (0:Int) a9 c1).toNat) az).aP x14).aP)).getD ((aF (0:Int) a9 c1).toNat) az).bu (au ((a7.set ((aF (0:Int) a9 c1).toNat) (aV.mk (au (aF az (a7.getD ((aF (0:Int) a9 c1).toNat) az).aP x14).aZ) (aF az (a7.getD ((aF (0:Int) a9 c1).toNat) az).aP x14).bu (au (aF az (a7.getD ((aF (0:Int) a9 c1).toNat) az).aP x14).bY) (aF az (a7.getD ((aF (0:Int) a9 c1).toNat) az).aP x14).aP)).getD ((aF (0:Int) a9 c1).toNat) az).bY) ((a7.set ((aF (0:Int) a9 c1).toNat) (aV.mk (au (aF az (a7.getD ((aF (0:Int) a9 c1).toNat) az).aP x14).aZ) (aF az (a7.getD ((aF (0:Int) a9 c1).toNat) az).aP x14).bu (au (aF az (a7.getD ((aF (0:Int) a9 c1).toNat) az).aP x14).bY) (aF az (a7.getD ((aF (0:Int) a9 c1).toNat) az).aP x14).aP)).getD ((aF (0:Int) a9 c1).toNat) az).aP)) a8 q1 a9 b9) else none) else none) else none) else none) else none) else none) else none) else none) else none) else none) else none))) else none)
end
noncomputable def qa.j14 (k:Nat) (x2:Jz) (x3:Bool) (x74:Bool) (aA:Int) (aC:Bool) (aU:Int) (bK:ByteArray) (b_:Jw) (bV:Int) (aX:Jq):Option (af×Int×Bool):=qa.Bo k (qa.f k) (qa.lG k) (qa.EP k) (qb.f k) (qb.l12 k) (qb.Ez k) x2 x3 x74 aA aC aU bK b_ bV aX
noncomputable def qa.j20 (k:Nat) (x2:Jz) (x3:Bool) (x10:Jq) (x11:(Option af)) (eF:Int) (aA:Int) (aC:Bool) (a2:Jq):Option (af×Int×Bool):=qa.zD k (qa.f k) (qa.lG k) (qa.EP k) (qb.f k) (qb.l12 k) (qb.Ez k) x2 x3 x10 x11 eF aA aC a2
noncomputable def qa.j22 (k:Nat) (x2:Jz) (x3:Bool) (x10:Jq) (x11:(Option af)) (eF:Int) (aA:Int) (aC:Bool) (a2:Jq):Option (af×Int×Bool):=qa.Ir k (qa.f k) (qa.lG k) (qa.EP k) (qb.f k) (qb.l12 k) (qb.Ez k) x2 x3 x10 x11 eF aA aC a2
noncomputable def qb.j10 (k:Nat) (x2:Int) (x4:Bool) (aA:Int) (aC:Bool) (aQ:Int) (a_:ByteArray) (bI:Jw) (bC:Int) (dH:Jq) (fP:Jz) (kE:Int) (a6:Jw) (b6:Jx):Option (Int×Bool×Jq):=qb.tY k (qa.f k) (qa.lG k) (qa.EP k) (qb.f k) (qb.l12 k) (qb.Ez k) x2 x4 aA aC aQ a_ bI bC dH fP kE a6 b6
noncomputable def qb.j14 (k:Nat) (x2:Int) (x4:Bool) (x14:Int) (aA:Int) (aC:Bool) (aQ:Int) (a_:ByteArray) (bI:Jw) (bC:Int) (dH:Jq) (fP:Jz) (kE:Int) (a6:Jq) (a7:Jw) (b7:Jx):Option (Int×Bool×Jq):=qb.Bo k (qa.f k) (qa.lG k) (qa.EP k) (qb.f k) (qb.l12 k) (qb.Ez k) x2 x4 x14 aA aC aQ a_ bI bC dH fP kE a6 a7 b7
noncomputable def EC.l4:Nat→Jz→Jz→Int→Int→Int→ByteArray→Jw→Int→Jq→Option (af×Bool)
 |0,_,_,_,_,_,_,_,_,_=>none
 |k+1,x1,x14,x15,x16,aA,aC,bH,dA,aT=>(if(x16<x15) then(if(0:Int)≤x16 then(if x16<(x14.length:Int) then((qt.f k (aV.mk (au (aF az x14 x16).aZ) (aF az x14 x16).bu (au (aF az x14 x16).bY) (aF az x14 x16).aP)).bind fun r1=>(if(¬r1=true) then(some ((af.mk (0:Int) ByteArray.empty [] (0:Int) []),false)) else(EC.l4 k x1 x14 x15 (i64.wrap (x16+(1:Int))) aA aC bH dA aT))) else none) else none) else((qa.f k (af.mk aA aC bH dA aT) x1 false (0:Int) false).bind fun r2=>(if r2.2.2=true then(some ((af.mk (0:Int) ByteArray.empty [] (0:Int) []),false)) else((yX.f k (au r2.1)).bind fun r3=>(if(¬r3=true) then(some ((af.mk (0:Int) ByteArray.empty [] (0:Int) []),false)) else(some ((au r2.1),true)))))))
noncomputable def EC.f (k:Nat) (x0:af) (x1:Jz):Option (af×Bool):=((yX.f k (au x0)).bind fun r1=>(if(¬r1=true) then(some ((af.mk (0:Int) ByteArray.empty [] (0:Int) []),false)) else(EC.l4 k x1 x1 (x1.length:Int) (0:Int) x0.ak x0.aG x0.aB x0.aI x0.aj)))
def Rn.f (k:Nat) (x0:Int) (x1:Int) (x2:Int):Option (Bool):=(if(x1≤x0) then(some (decide (x0≤x2))) else(some false))
def qq.uP (k:Nat) (aaV:Jz→Int→Option (Bool)) (Qe:Jz→Int→Int→Option (Bool)) (x0:Jz) (x1:Int) (x5:Int) (wV:Int) (NV:Int) (NW:ByteArray) (NY:Jw) (NZ:Int) (DW:Jq) (uS:Jz):Option (Bool):=(if(wV=(0:Int)) then(if((0:Int)<(uS.length:Int)) then(some false) else((q13.f k (af.mk NV NW NY NZ DW)).bind fun r1=>(if(¬r1=true) then(some false) else(if((0:Int)<wV) then((aaV uS (i64.wrap (wV-(1:Int)))).bind fun r2=>(if(¬r2=true) then(some false) else(Qe x0 x1 (i64.wrap (x5+(1:Int)))))) else(Qe x0 x1 (i64.wrap (x5+(1:Int)))))))) else(if((0:Int)<wV) then((aaV uS (i64.wrap (wV-(1:Int)))).bind fun r3=>(if(¬r3=true) then(some false) else(Qe x0 x1 (i64.wrap (x5+(1:Int)))))) else(Qe x0 x1 (i64.wrap (x5+(1:Int))))))
mutual
def qq.f:Nat→Jz→Int→Option (Bool)
 |0,_,_=>none
 |k+1,x0,x1=>(qq.l2 k x0 x1 (0:Int))
def qq.l2:Nat→Jz→Int→Int→Option (Bool)
 |0,_,_,_=>none
 |k+1,x0,x1,x5=>(if(x5<(x0.length:Int)) then(if(0:Int)≤x5 then(if x5<(x0.length:Int) then(if((0:Int)≤x1) then(if(¬(aF az x0 x5).bu=x1) then(some false) else((Rn.f k (aF az x0 x5).bu (0:Int) (60:Int)).bind fun r1=>(if(¬r1=true) then(some false) else(if(¬(aF az x0 x5).aZ.ak=(1:Int)) then(some false) else((q13.f k (au (aF az x0 x5).aZ)).bind fun r2=>(if(¬r2=true) then(some false) else(qq.uP k (qq.f k) (qq.l2 k) x0 x1 x5 (aF az x0 x5).bu (aF az x0 x5).bY.ak (aF az x0 x5).bY.aG (aF az x0 x5).bY.aB (aF az x0 x5).bY.aI (aF az x0 x5).bY.aj (aF az x0 x5).aP))))))) else((Rn.f k (aF az x0 x5).bu (0:Int) (60:Int)).bind fun r3=>(if(¬r3=true) then(some false) else(if(¬(aF az x0 x5).aZ.ak=(1:Int)) then(some false) else((q13.f k (au (aF az x0 x5).aZ)).bind fun r4=>(if(¬r4=true) then(some false) else(qq.uP k (qq.f k) (qq.l2 k) x0 x1 x5 (aF az x0 x5).bu (aF az x0 x5).bY.ak (aF az x0 x5).bY.aG (aF az x0 x5).bY.aB (aF az x0 x5).bY.aI (aF az x0 x5).bY.aj (aF az x0 x5).aP))))))) else none) else none) else(some true))
end
def qq.j7 (k:Nat) (x0:Jz) (x1:Int) (x5:Int) (wV:Int) (NV:Int) (NW:ByteArray) (NY:Jw) (NZ:Int) (DW:Jq) (uS:Jz):Option (Bool):=qq.uP k (qq.f k) (qq.l2 k) x0 x1 x5 wV NV NW NY NZ DW uS
def BM.l2:Nat→Jz→Int→Int→ByteArray→Jw→Int→Jq→Option (Int)
 |0,_,_,_,_,_,_,_=>none
 |k+1,x0,x5,aA,aC,bH,dA,aT=>(if(x5<(x0.length:Int)) then(if(0:Int)≤x5 then(if x5<(x0.length:Int) then((Qa.f k (au (aF az x0 x5).aZ) (af.mk aA aC bH dA aT)).bind fun r1=>(if r1=true then(some x5) else(BM.l2 k x0 (i64.wrap (x5+(1:Int))) aA aC bH dA aT))) else none) else none) else(some (-1:Int)))
def BM.f (k:Nat) (x0:Jz) (x1:af):Option (Int):=(BM.l2 k x0 (0:Int) x1.ak x1.aG x1.aB x1.aI x1.aj)
def I8.d4 (k:Nat) (x1:Jz) (x6:Int):Option (af×Bool):=(if(0:Int)≤x6 then(if x6<(x1.length:Int) then(if(0:Int)≤x6 then(if x6<(x1.length:Int) then((qu.f k (au (aF az x1 x6).bY)).bind fun r1=>(some ((af.mk r1.1 r1.2.1 r1.2.2.2.1 r1.2.2.1 r1.2.2.2.2),(decide ((aF az x1 x6).bu=(0:Int)))))) else none) else none) else none) else none)
def I8.f (k:Nat) (x0:af) (x1:Jz):Option (af×Bool):=((BM.f k x1 (au x0)).bind fun r1=>(if(r1<(0:Int)) then((qu.f k (au x0)).bind fun r2=>(some ((af.mk r2.1 r2.2.1 r2.2.2.2.1 r2.2.2.1 r2.2.2.2.2),true))) else(I8.d4 k x1 r1)))
def Vd.f (k:Nat) (x0:af):Option (af):=(if(¬x0.ak=(4:Int)) then(some (au x0)) else(if(0:Int)≤(i64.wrap ((x0.aj.length:Int)-(1:Int))) then(if(i64.wrap ((x0.aj.length:Int)-(1:Int)))≤(x0.aj.length:Int) then(if(0:Int)≤(i64.wrap ((x0.aj.length:Int)-(1:Int))) then(if(i64.wrap ((x0.aj.length:Int)-(1:Int)))<(x0.aj.length:Int) then((qp.f k ((x0.aj.take (i64.wrap ((x0.aj.length:Int)-(1:Int))).toNat).drop 0) (au (aF ah x0.aj (i64.wrap ((x0.aj.length:Int)-(1:Int)))))).bind fun r1=>(some (au r1))) else none) else none) else none) else none))
mutual
def BN.f:Nat→af→Jz→Option (af×Bool)
 |0,_,_=>none
 |k+1,x0,x1=>(if(x0.ak=(1:Int)) then((I8.f k (au x0) x1).bind fun r1=>(some ((au r1.1),r1.2))) else((qu.f k (au x0)).bind fun r2=>(BN.l5 k x1 (0:Int) x0.aj r2.1 r2.2.1 r2.2.2.1 r2.2.2.2.1 r2.2.2.2.2)))
def BN.l5:Nat→Jz→Int→Jq→Int→ByteArray→Int→Jw→Jq→Option (af×Bool)
 |0,_,_,_,_,_,_,_,_=>none
 |k+1,x1,x7,aT,aQ,a_,bC,a3,a4=>(if(x7<(a4.length:Int)) then(if(0:Int)≤x7 then(if x7<(aT.length:Int) then((BN.f k (au (aF ah aT x7)) x1).bind fun r1=>(if(¬r1.2=true) then(some ((af.mk (0:Int) ByteArray.empty [] (0:Int) []),false)) else(if(0:Int)≤x7 then(if x7<(a4.length:Int) then(BN.l5 k x1 (i64.wrap (x7+(1:Int))) aT aQ a_ bC a3 (a4.set (x7.toNat) (au r1.1))) else none) else none))) else none) else none) else((Vd.f k (af.mk aQ a_ a3 bC a4)).bind fun r2=>(some ((au r2),true))))
end
def q10.uP (k:Nat) (Ve:Jz→Jq→Int→Int→Jz→Option (Jz)) (x0:Jz) (x1:Jq) (x2:Int) (x8:Int) (x37:Bool) (a0:Jz) (aU:Int) (bK:ByteArray) (b_:Jw) (bV:Int) (aX:Jq) (Xf:Int) (Xg:Int) (Xh:ByteArray) (Xi:Jw) (Xj:Int) (Qg:Jq) (uT:Jz):Option (Jz):=(if x37=true then(if(0:Int)≤x2 then(if x2<(uT.length:Int) then(if(0:Int)≤x8 then(if x8<(x0.length:Int) then(if a0.length+ [(aV.mk (au (aF az x0 x8).aZ) (aF az uT x2).bu (au (aF az uT x2).bY) (aF az uT x2).aP)].length≤733007751850 then(Ve x0 x1 x2 (i64.wrap (x8+(1:Int))) (a0++ [(aV.mk (au (aF az x0 x8).aZ) (aF az uT x2).bu (au (aF az uT x2).bY) (aF az uT x2).aP)])) else none) else none) else none) else none) else none) else(if a0.length+ [(aV.mk (af.mk aU bK b_ bV aX) Xf (af.mk Xg Xh Xi Xj Qg) uT)].length≤733007751850 then(Ve x0 x1 x2 (i64.wrap (x8+(1:Int))) (a0++ [(aV.mk (af.mk aU bK b_ bV aX) Xf (af.mk Xg Xh Xi Xj Qg) uT)])) else none))
def q10.l3:Nat→Jz→Jq→Int→Int→Jz→Option (Jz)
 |0,_,_,_,_,_=>none
 |k+1,x0,x1,x2,x8,a0=>(if(x8<(x0.length:Int)) then(if(0:Int)≤x8 then(if x8<(x0.length:Int) then(if((0:Int)<(aF az x0 x8).bu) then((xG.f k x1 (au (aF az x0 x8).aZ)).bind fun r1=>(if r1=true then((BM.f k x0 (au (aF az x0 x8).aZ)).bind fun r2=>(q10.uP k (q10.l3 k) x0 x1 x2 x8 (decide (r2=x8)) a0 (aF az x0 x8).aZ.ak (aF az x0 x8).aZ.aG (aF az x0 x8).aZ.aB (aF az x0 x8).aZ.aI (aF az x0 x8).aZ.aj (aF az x0 x8).bu (aF az x0 x8).bY.ak (aF az x0 x8).bY.aG (aF az x0 x8).bY.aB (aF az x0 x8).bY.aI (aF az x0 x8).bY.aj (aF az x0 x8).aP)) else(q10.uP k (q10.l3 k) x0 x1 x2 x8 false a0 (aF az x0 x8).aZ.ak (aF az x0 x8).aZ.aG (aF az x0 x8).aZ.aB (aF az x0 x8).aZ.aI (aF az x0 x8).aZ.aj (aF az x0 x8).bu (aF az x0 x8).bY.ak (aF az x0 x8).bY.aG (aF az x0 x8).bY.aB (aF az x0 x8).bY.aI (aF az x0 x8).bY.aj (aF az x0 x8).aP))) else(q10.uP k (q10.l3 k) x0 x1 x2 x8 false a0 (aF az x0 x8).aZ.ak (aF az x0 x8).aZ.aG (aF az x0 x8).aZ.aB (aF az x0 x8).aZ.aI (aF az x0 x8).aZ.aj (aF az x0 x8).bu (aF az x0 x8).bY.ak (aF az x0 x8).bY.aG (aF az x0 x8).bY.aB (aF az x0 x8).bY.aI (aF az x0 x8).bY.aj (aF az x0 x8).aP)) else none) else none) else(some a0))
def q10.j7 (k:Nat) (x0:Jz) (x1:Jq) (x2:Int) (x8:Int) (x37:Bool) (a0:Jz) (aU:Int) (bK:ByteArray) (b_:Jw) (bV:Int) (aX:Jq) (Xf:Int) (Xg:Int) (Xh:ByteArray) (Xi:Jw) (Xj:Int) (Qg:Jq) (uT:Jz):Option (Jz):=q10.uP k (q10.l3 k) x0 x1 x2 x8 x37 a0 aU bK b_ bV aX Xf Xg Xh Xi Xj Qg uT
def q10.f (k:Nat) (x0:Jz) (x1:Jq) (x2:Int):Option (Jz):=(q10.l3 k x0 x1 x2 (0:Int) [])
def zF.l3:Nat→Jq→Int→Int→Option (Int)
 |0,_,_,_=>none
 |k+1,x0,x3,x4=>(if(x4<(x0.length:Int)) then(if(0:Int)≤x4 then(if x4<(x0.length:Int) then((yj.f k (au (aF ah x0 x4))).bind fun r1=>(zF.l3 k x0 (i64.wrap (x3+r1)) (i64.wrap (x4+(1:Int))))) else none) else none) else(some x3))
def zF.f (k:Nat) (x0:Jq):Option (Int):=(zF.l3 k x0 (0:Int) (0:Int))
def qc.uP (k:Nat) (Zk:af→Jz→Option (af×Bool)) (DX:Jz→Jq→Int→Int→Jq→Int→ByteArray→Jw→Int→Jq→Option (af×Bool)) (N8:Jz→Jq→Int→Int→Int→Jq→Int→ByteArray→Jw→Int→Jq→Option (af×Bool)) (Xk:af→Jz→Int→Option (Bool×Jq)) (KP:Jz→Int→Int→Int→Int→ByteArray→Jw→Int→Jq→Jq→Option (Bool×Jq)) (Iy:Jz→Int→Jq→Int→Int→Int→ByteArray→Jw→Int→Jq→Jq→Option (Bool×Jq)) (x1:Jz) (NU:Bool) (aA:Int) (aC:ByteArray) (bH:Jw) (dA:Int) (aT:Jq):Option (af×Bool):=(if NU=true then(if(1:Int)<(aT.length:Int) then((BN.f k (au (aF ah aT (1:Int))) x1).bind fun r1=>(some ((au r1.1),r1.2))) else none) else((wS.f k (af.mk aA aC bH dA aT)).bind fun r2=>(DX x1 r2 (0:Int) aA aT (3:Int) ByteArray.empty [] (0:Int) [])))
def qc.Bq (k:Nat) (Zk:af→Jz→Option (af×Bool)) (DX:Jz→Jq→Int→Int→Jq→Int→ByteArray→Jw→Int→Jq→Option (af×Bool)) (N8:Jz→Jq→Int→Int→Int→Jq→Int→ByteArray→Jw→Int→Jq→Option (af×Bool)) (Xk:af→Jz→Int→Option (Bool×Jq)) (KP:Jz→Int→Int→Int→Int→ByteArray→Jw→Int→Jq→Jq→Option (Bool×Jq)) (Iy:Jz→Int→Jq→Int→Int→Int→ByteArray→Jw→Int→Jq→Jq→Option (Bool×Jq)) (x1:Jz) (x6:Jq) (x8:Int) (x9:Int) (aA:Int) (aT:Jq) (aQ:Int) (a_:ByteArray) (bI:Jw) (bC:Int) (a3:Jq) (a4:Jq):Option (af×Bool):=(if a4.length+a3.length≤1759218604441 then(DX x1 x6 (i64.wrap ((i64.wrap (x8+x9))+(1:Int))) aA aT aQ a_ bI bC (a4++a3)) else none)
def qf.Il (k:Nat) (Zk:af→Jz→Option (af×Bool)) (DX:Jz→Jq→Int→Int→Jq→Int→ByteArray→Jw→Int→Jq→Option (af×Bool)) (N8:Jz→Jq→Int→Int→Int→Jq→Int→ByteArray→Jw→Int→Jq→Option (af×Bool)) (Xk:af→Jz→Int→Option (Bool×Jq)) (KP:Jz→Int→Int→Int→Int→ByteArray→Jw→Int→Jq→Jq→Option (Bool×Jq)) (Iy:Jz→Int→Jq→Int→Int→Int→ByteArray→Jw→Int→Jq→Jq→Option (Bool×Jq)) (x1:Jz) (x2:Int) (x11:Int) (x12:Int) (eF:Int) (aA:Int) (aC:ByteArray) (bH:Jw) (dA:Int) (aT:Jq) (a1:Jq):Option (Bool×Jq):=(if((0:Int)≤x11) then(if(0:Int)≤eF then(if eF<(x1.length:Int) then(if(¬x11=((aF az x1 eF).aP.length:Int)) then(some (false,[])) else(if(0:Int)≤eF then(if eF<(x1.length:Int) then(KP x1 x2 ((aF az x1 eF).aP.length:Int) (i64.wrap (x12+(1:Int))) aA aC bH dA aT a1) else none) else none)) else none) else none) else(if(0:Int)≤eF then(if eF<(x1.length:Int) then(KP x1 x2 ((aF az x1 eF).aP.length:Int) (i64.wrap (x12+(1:Int))) aA aC bH dA aT a1) else none) else none))
def qf.NK (k:Nat) (Zk:af→Jz→Option (af×Bool)) (DX:Jz→Jq→Int→Int→Jq→Int→ByteArray→Jw→Int→Jq→Option (af×Bool)) (N8:Jz→Jq→Int→Int→Int→Jq→Int→ByteArray→Jw→Int→Jq→Option (af×Bool)) (Xk:af→Jz→Int→Option (Bool×Jq)) (KP:Jz→Int→Int→Int→Int→ByteArray→Jw→Int→Jq→Jq→Option (Bool×Jq)) (Iy:Jz→Int→Jq→Int→Int→Int→ByteArray→Jw→Int→Jq→Jq→Option (Bool×Jq)) (x1:Jz) (x2:Int) (x10:Jq) (x11:Int) (x15:Int) (aA:Int) (aC:ByteArray) (bH:Jw) (dA:Int) (aT:Jq) (a1:Jq):Option (Bool×Jq):=((q10.f k x1 x10 x15).bind fun r1=>((Xk (af.mk aA aC bH dA aT) r1 (i64.wrap (x2-(1:Int)))).bind fun r2=>(if(¬r2.1=true) then(some (false,[])) else((zF.f k a1).bind fun r3=>((zF.f k r2.2).bind fun r4=>(if((1500:Int)<(i64.wrap (r3+r4))) then(some (false,[])) else(if a1.length+r2.2.length≤1759218604441 then(Iy x1 x2 x10 x11 (i64.wrap (x15+(1:Int))) aA aC bH dA aT (a1++r2.2)) else none)))))))
mutual
def qc.f:Nat→af→Jz→Option (af×Bool)
 |0,_,_=>none
 |k+1,x0,x1=>(if(x0.ak=(1:Int)) then((I8.f k (au x0) x1).bind fun r1=>(some ((au r1.1),r1.2))) else(if(x0.ak=(2:Int)) then((qu.f k (au x0)).bind fun r2=>(some ((af.mk r2.1 r2.2.1 r2.2.2.2.1 r2.2.2.1 r2.2.2.2.2),true))) else(if(x0.ak=(3:Int)) then(if((x0.aj.length:Int)=(2:Int)) then(if(0:Int)<(x0.aj.length:Int) then((q11.f k (au (aF ah x0.aj (0:Int)))).bind fun r3=>(qc.uP k (qc.f k) (qc.t_ k) (qc.iO k) (qf.f k) (qf.l7 k) (qf.lG k) x1 r3 x0.ak x0.aG x0.aB x0.aI x0.aj)) else none) else(qc.uP k (qc.f k) (qc.t_ k) (qc.iO k) (qf.f k) (qf.l7 k) (qf.lG k) x1 false x0.ak x0.aG x0.aB x0.aI x0.aj)) else(qc.uP k (qc.f k) (qc.t_ k) (qc.iO k) (qf.f k) (qf.l7 k) (qf.lG k) x1 false x0.ak x0.aG x0.aB x0.aI x0.aj))))
def qc.t_:Nat→Jz→Jq→Int→Int→Jq→Int→ByteArray→Jw→Int→Jq→Option (af×Bool)
 |0,_,_,_,_,_,_,_,_,_,_=>none
 |k+1,x1,x6,x8,aA,aT,aQ,a_,bI,bC,a3=>(if(x8<(x6.length:Int)) then(qc.iO k x1 x6 x8 (0:Int) aA aT aQ a_ bI bC a3) else(if(aA=(3:Int)) then(some ((af.mk aQ a_ bI bC a3),true)) else(if(0:Int)≤(i64.wrap ((aT.length:Int)-(1:Int))) then(if(i64.wrap ((aT.length:Int)-(1:Int)))<(aT.length:Int) then((qc.f k (au (aF ah aT (i64.wrap ((aT.length:Int)-(1:Int))))) x1).bind fun r1=>((qp.f k a3 (au r1.1)).bind fun r2=>(some ((au r2),r1.2)))) else none) else none)))
def qc.iO:Nat→Jz→Jq→Int→Int→Int→Jq→Int→ByteArray→Jw→Int→Jq→Option (af×Bool)
 |0,_,_,_,_,_,_,_,_,_,_,_=>none
 |k+1,x1,x6,x8,x9,aA,aT,aQ,a_,bI,bC,a3=>(if((i64.wrap ((i64.wrap (x8+(1:Int)))+x9))<(x6.length:Int)) then(if(0:Int)≤(i64.wrap ((i64.wrap (x8+(1:Int)))+x9)) then(if(i64.wrap ((i64.wrap (x8+(1:Int)))+x9))<(x6.length:Int) then((q11.f k (au (aF ah x6 (i64.wrap ((i64.wrap (x8+(1:Int)))+x9))))).bind fun r1=>(if r1=true then(qc.iO k x1 x6 x8 (i64.wrap (x9+(1:Int))) aA aT aQ a_ bI bC a3) else(if(0:Int)≤x8 then(if x8<(x6.length:Int) then((qf.f k (au (aF ah x6 x8)) x1 x9).bind fun r2=>(if(¬r2.1=true) then(some ((af.mk (0:Int) ByteArray.empty [] (0:Int) []),false)) else(if(0:Int)≤x8 then(if x8<(x6.length:Int) then((q11.f k (au (aF ah x6 x8))).bind fun r3=>(if r3=true then(some ((af.mk (0:Int) ByteArray.empty [] (0:Int) []),false)) else((zF.f k a3).bind fun r4=>((zF.f k r2.2).bind fun r5=>(if((1500:Int)<(i64.wrap (r4+r5))) then(some ((af.mk (0:Int) ByteArray.empty [] (0:Int) []),false)) else(qc.Bq k (qc.f k) (qc.t_ k) (qc.iO k) (qf.f k) (qf.l7 k) (qf.lG k) x1 x6 x8 x9 aA aT aQ a_ bI bC r2.2 a3)))))) else none) else none))) else none) else none))) else none) else none) else(if(0:Int)≤x8 then(if x8<(x6.length:Int) then((qf.f k (au (aF ah x6 x8)) x1 x9).bind fun r6=>(if(¬r6.1=true) then(some ((af.mk (0:Int) ByteArray.empty [] (0:Int) []),false)) else(if(0:Int)≤x8 then(if x8<(x6.length:Int) then((q11.f k (au (aF ah x6 x8))).bind fun r7=>(if r7=true then(some ((af.mk (0:Int) ByteArray.empty [] (0:Int) []),false)) else((zF.f k a3).bind fun r8=>((zF.f k r6.2).bind fun r9=>(if((1500:Int)<(i64.wrap (r8+r9))) then(some ((af.mk (0:Int) ByteArray.empty [] (0:Int) []),false)) else(qc.Bq k (qc.f k) (qc.t_ k) (qc.iO k) (qf.f k) (qf.l7 k) (qf.lG k) x1 x6 x8 x9 aA aT aQ a_ bI bC r6.2 a3)))))) else none) else none))) else none) else none))
def qf.f:Nat→af→Jz→Int→Option (Bool×Jq)
 |0,_,_,_=>none
 |k+1,x0,x1,x2=>(if(x2=(0:Int)) then((qc.f k (au x0) x1).bind fun r1=>(some (r1.2,[(au r1.1)]))) else((uQ.f k (au x0) []).bind fun r2=>(qf.l7 k x1 x2 (-1:Int) (0:Int) x0.ak x0.aG x0.aB x0.aI x0.aj r2)))
def qf.l7:Nat→Jz→Int→Int→Int→Int→ByteArray→Jw→Int→Jq→Jq→Option (Bool×Jq)
 |0,_,_,_,_,_,_,_,_,_,_=>none
 |k+1,x1,x2,x11,x12,aA,aC,bH,dA,aT,a1=>(if(x12<(a1.length:Int)) then(if(0:Int)≤x12 then(if x12<(a1.length:Int) then((BM.f k x1 (au (a1.getD (x12.toNat) ah))).bind fun r1=>(if(r1<(0:Int)) then(qf.l7 k x1 x2 x11 (i64.wrap (x12+(1:Int))) aA aC bH dA aT a1) else(if(0:Int)≤r1 then(if r1<(x1.length:Int) then(if((aF az x1 r1).bu=(0:Int)) then(qf.l7 k x1 x2 x11 (i64.wrap (x12+(1:Int))) aA aC bH dA aT a1) else(qf.Il k (qc.f k) (qc.t_ k) (qc.iO k) (qf.f k) (qf.l7 k) (qf.lG k) x1 x2 x11 x12 r1 aA aC bH dA aT a1)) else none) else none))) else none) else none) else(if(x11<(0:Int)) then(some (false,[])) else(qf.lG k x1 x2 a1 x11 (0:Int) aA aC bH dA aT [])))
def qf.lG:Nat→Jz→Int→Jq→Int→Int→Int→ByteArray→Jw→Int→Jq→Jq→Option (Bool×Jq)
 |0,_,_,_,_,_,_,_,_,_,_,_=>none
 |k+1,x1,x2,x10,x11,x15,aA,aC,bH,dA,aT,a1=>(if(x15<x11) then(qf.NK k (qc.f k) (qc.t_ k) (qc.iO k) (qf.f k) (qf.l7 k) (qf.lG k) x1 x2 x10 x11 x15 aA aC bH dA aT a1) else(some (true,a1)))
end
def qc.j7 (k:Nat) (x1:Jz) (NU:Bool) (aA:Int) (aC:ByteArray) (bH:Jw) (dA:Int) (aT:Jq):Option (af×Bool):=qc.uP k (qc.f k) (qc.t_ k) (qc.iO k) (qf.f k) (qf.l7 k) (qf.lG k) x1 NU aA aC bH dA aT
def qc.j19 (k:Nat) (x1:Jz) (x6:Jq) (x8:Int) (x9:Int) (aA:Int) (aT:Jq) (aQ:Int) (a_:ByteArray) (bI:Jw) (bC:Int) (a3:Jq) (a4:Jq):Option (af×Bool):=qc.Bq k (qc.f k) (qc.t_ k) (qc.iO k) (qf.f k) (qf.l7 k) (qf.lG k) x1 x6 x8 x9 aA aT aQ a_ bI bC a3 a4
def qf.j11 (k:Nat) (x1:Jz) (x2:Int) (x11:Int) (x12:Int) (eF:Int) (aA:Int) (aC:ByteArray) (bH:Jw) (dA:Int) (aT:Jq) (a1:Jq):Option (Bool×Jq):=qf.Il k (qc.f k) (qc.t_ k) (qc.iO k) (qf.f k) (qf.l7 k) (qf.lG k) x1 x2 x11 x12 eF aA aC bH dA aT a1
def qf.d20 (k:Nat) (x1:Jz) (x2:Int) (x10:Jq) (x11:Int) (x15:Int) (aA:Int) (aC:ByteArray) (bH:Jw) (dA:Int) (aT:Jq) (a1:Jq):Option (Bool×Jq):=qf.NK k (qc.f k) (qc.t_ k) (qc.iO k) (qf.f k) (qf.l7 k) (qf.lG k) x1 x2 x10 x11 x15 aA aC bH dA aT a1
def I9.j3 (k:Nat) (x1:Jz) (aA:Int) (aC:ByteArray) (bH:Jw) (dA:Int) (aT:Jq):Option (af×Bool):=((qc.f k (af.mk aA aC bH dA aT) x1).bind fun r1=>(if(¬r1.2=true) then(some ((af.mk (0:Int) ByteArray.empty [] (0:Int) []),false)) else((q13.f k (au r1.1)).bind fun r2=>(if(¬r2=true) then(some ((af.mk (0:Int) ByteArray.empty [] (0:Int) []),false)) else(some ((au r1.1),true))))))
def I9.f (k:Nat) (x0:af) (x1:Jz):Option (af×Bool):=((q13.f k (au x0)).bind fun r1=>(if(¬r1=true) then(some ((af.mk (0:Int) ByteArray.empty [] (0:Int) []),false)) else((qq.f k x1 (-1:Int)).bind fun r2=>(if(¬r2=true) then(some ((af.mk (0:Int) ByteArray.empty [] (0:Int) []),false)) else(I9.j3 k x1 x0.ak x0.aG x0.aB x0.aI x0.aj)))))
def I_.l4:Nat→Jw→Jw→Int→Option (Bool)
 |0,_,_,_=>none
 |k+1,x0,x1,x5=>(if(x5<(x0.length:Int)) then(if(0:Int)≤x5 then(if x5<(x0.length:Int) then(if(0:Int)≤x5 then(if x5<(x1.length:Int) then(if(¬(aF (0:Int) x0 x5)=(aF (0:Int) x1 x5)) then(some false) else(I_.l4 k x0 x1 (i64.wrap (x5+(1:Int))))) else none) else none) else none) else none) else(some true))
def I_.f (k:Nat) (x0:Jw) (x1:Jw):Option (Bool):=(if(¬(x0.length:Int)=(x1.length:Int)) then(some false) else(I_.l4 k x0 x1 (0:Int)))
mutual
def Iz.f:Nat→af→af→Option (Bool)
 |0,_,_=>none
 |k+1,x0,x1=>(if(x0.ak=x1.ak) then(if(x0.aG.toList=x1.aG.toList) then(if(x0.aI=x1.aI) then((I_.f k x0.aB x1.aB).bind fun r1=>(if r1=true then((KQ.f k x0.aj x1.aj).bind fun r2=>(some r2)) else(some false))) else(some false)) else(some false)) else(some false))
def KQ.f:Nat→Jq→Jq→Option (Bool)
 |0,_,_=>none
 |k+1,x0,x1=>(if(¬(x0.length:Int)=(x1.length:Int)) then(some false) else(KQ.l4 k x0 x1 (0:Int)))
def KQ.l4:Nat→Jq→Jq→Int→Option (Bool)
 |0,_,_,_=>none
 |k+1,x0,x1,x5=>(if(x5<(x0.length:Int)) then(if(0:Int)≤x5 then(if x5<(x0.length:Int) then(if(0:Int)≤x5 then(if x5<(x1.length:Int) then((Iz.f k (au (aF ah x0 x5)) (au (aF ah x1 x5))).bind fun r1=>(if(¬r1=true) then(some false) else(KQ.l4 k x0 x1 (i64.wrap (x5+(1:Int)))))) else none) else none) else none) else none) else(some true))
end
def qx.d12 (k:Nat) (aA:Jw) (aC:Int) (aQ:Int) (a_:ByteArray) (bC:Int) (a3:Jw) (a4:Jq):Option (af×Jw×Int):=((qi.f k (3:Int) aA aC).bind fun r1=>(if(0:Int)≤r1.1 then(if r1.1<([(-1:Int),(0:Int),(7:Int)].length:Int) then(if a3.length+ [([(-1:Int),(0:Int),(7:Int)].getD (r1.1.toNat) (0:Int))].length≤17592186044416 then(some ((af.mk aQ a_ (a3++ [([(-1:Int),(0:Int),(7:Int)].getD (r1.1.toNat) (0:Int))]) bC a4),r1.2.1,r1.2.2)) else none) else none) else none))
def qx.l4:Nat→Int→Jw→Int→Int→ByteArray→Int→Jw→Jq→Option (af×Jw×Int)
 |0,_,_,_,_,_,_,_,_=>none
 |k+1,x6,aA,aC,aQ,a_,bC,a3,a4=>(if((0:Int)<x6) then(qx.l4 k (i64.wrap (x6-(1:Int))) aA aC (3:Int) ByteArray.empty (0:Int) [] [(af.mk aQ a_ a3 bC a4)]) else(some ((af.mk aQ a_ a3 bC a4),aA,aC)))
def qx.f (k:Nat) (x1:af) (aA:Jw) (aC:Int):Option (af×Jw×Int):=((qu.f k (au x1)).bind fun r1=>((qi.f k (6:Int) aA aC).bind fun r2=>(if(r2.1=(0:Int)) then((qi.f k (7:Int) r2.2.1 r2.2.2).bind fun r3=>(some ((af.mk (i64.wrap (r3.1-(1:Int))) r1.2.1 r1.2.2.2.1 r1.2.2.1 r1.2.2.2.2),r3.2.1,r3.2.2))) else(if(r2.1=(1:Int)) then((Aj.f k [(ByteArray.mk #[]),(ByteArray.mk #[120]),(ByteArray.mk #[49]),(ByteArray.mk #[97,32,98]),(ByteArray.mk #[40]),(ByteArray.mk #[46])] r2.2.1 r2.2.2).bind fun r4=>(some ((af.mk r1.1 r4.1 r1.2.2.2.1 r1.2.2.1 r1.2.2.2.2),r4.2.1,r4.2.2))) else(if(r2.1=(2:Int)) then(qx.d12 k r2.2.1 r2.2.2 r1.1 r1.2.1 r1.2.2.1 r1.2.2.2.1 r1.2.2.2.2) else(if(r2.1=(3:Int)) then((qi.f k (3:Int) r2.2.1 r2.2.2).bind fun r5=>(if(0:Int)≤r5.1 then(if r5.1<([(-1:Int),(0:Int),(5:Int)].length:Int) then(some ((af.mk r1.1 r1.2.1 r1.2.2.2.1 ([(-1:Int),(0:Int),(5:Int)].getD (r5.1.toNat) (0:Int)) r1.2.2.2.2),r5.2.1,r5.2.2)) else none) else none)) else(if(r2.1=(4:Int)) then(if r1.2.2.2.2.length+ [(af.mk (3:Int) ByteArray.empty [] (0:Int) [])].length≤1759218604441 then(some ((af.mk r1.1 r1.2.1 r1.2.2.2.1 r1.2.2.1 (r1.2.2.2.2++ [(af.mk (3:Int) ByteArray.empty [] (0:Int) [])])),r2.2.1,r2.2.2)) else none) else((qi.f k (3:Int) r2.2.1 r2.2.2).bind fun r6=>(qx.l4 k (i64.wrap ((i64.wrap ((60:Int)+r6.1))-(3:Int))) r6.2.1 r6.2.2 r1.1 r1.2.1 r1.2.2.1 r1.2.2.2.1 r1.2.2.2.2)))))))))
def Ro.f (k:Nat) (aA:Jw) (aC:Int):Option (af×Jw×Int):=((q7.f k (3:Int) aA aC).bind fun r1=>((qi.f k (20:Int) r1.2.1 r1.2.2).bind fun r2=>(if(r2.1=(0:Int)) then((qx.f k (au r1.1) r2.2.1 r2.2.2).bind fun r3=>(some ((au r3.1),r3.2.1,r3.2.2))) else(some ((au r1.1),r2.2.1,r2.2.2)))))
def Vf.f (k:Nat) (x0:Jw):Option (af):=((IZ.f k x0).bind fun r1=>((Ro.f k r1.1 r1.2).bind fun r2=>(some (au r2.1))))
def ED.l10:Nat→ByteArray→Int→Int→Option (ByteArray×Int)
 |0,_,_,_=>none
 |k+1,x0,x1,x6=>(if(x6<(x0.size:Int)) then(if(0:Int)≤x6 then(if x6<(x0.size:Int) then((P_.f k (bt x0 x6)).bind fun r1=>(if(¬r1=true) then(ED.l10 k x0 x1 (i64.wrap (x6+(1:Int)))) else(if(0:Int)≤x1 then(if x1≤x6 then(if x6≤(x0.size:Int) then(some ((x0.extract x1.toNat x6.toNat),x6)) else none) else none) else none))) else none) else none) else(if(0:Int)≤x1 then(if x1≤x6 then(if x6≤(x0.size:Int) then(some ((x0.extract x1.toNat x6.toNat),x6)) else none) else none) else none))
def ED.l5:Nat→ByteArray→Int→Int→Option (ByteArray×Int)
 |0,_,_,_=>none
 |k+1,x0,x1,x6=>(if(x6<(x0.size:Int)) then(if(0:Int)≤x6 then(if x6<(x0.size:Int) then(if(¬(bt x0 x6)=(34:Int)) then(ED.l5 k x0 x1 (i64.wrap (x6+(1:Int)))) else(if(x6<(x0.size:Int)) then(if(0:Int)≤x1 then(if x1≤(i64.wrap (x6+(1:Int))) then(if(i64.wrap (x6+(1:Int)))≤(x0.size:Int) then(some ((x0.extract x1.toNat (i64.wrap (x6+(1:Int))).toNat),(i64.wrap (x6+(1:Int))))) else none) else none) else none) else(if(0:Int)≤x1 then(if x1≤x6 then(if x6≤(x0.size:Int) then(some ((x0.extract x1.toNat x6.toNat),x6)) else none) else none) else none))) else none) else none) else(if(x6<(x0.size:Int)) then(if(0:Int)≤x1 then(if x1≤(i64.wrap (x6+(1:Int))) then(if(i64.wrap (x6+(1:Int)))≤(x0.size:Int) then(some ((x0.extract x1.toNat (i64.wrap (x6+(1:Int))).toNat),(i64.wrap (x6+(1:Int))))) else none) else none) else none) else(if(0:Int)≤x1 then(if x1≤x6 then(if x6≤(x0.size:Int) then(some ((x0.extract x1.toNat x6.toNat),x6)) else none) else none) else none)))
def ED.j2 (k:Nat) (x0:ByteArray) (x1:Int) (vI:Bool):Option (ByteArray×Int):=(if vI=true then(if(0:Int)≤x1 then(if x1≤(i64.wrap (x1+(1:Int))) then(if(i64.wrap (x1+(1:Int)))≤(x0.size:Int) then(some ((x0.extract x1.toNat (i64.wrap (x1+(1:Int))).toNat),(i64.wrap (x1+(1:Int))))) else none) else none) else none) else(if(0:Int)≤x1 then(if x1<(x0.size:Int) then(if((bt x0 x1)=(34:Int)) then(ED.l5 k x0 x1 (i64.wrap (x1+(1:Int)))) else(ED.l10 k x0 x1 (i64.wrap (x1+(1:Int))))) else none) else none))
def ED.f (k:Nat) (x0:ByteArray) (x1:Int):Option (ByteArray×Int):=(if(0:Int)≤x1 then(if x1<(x0.size:Int) then(if((bt x0 x1)=(40:Int)) then(ED.j2 k x0 x1 true) else(if(0:Int)≤x1 then(if x1<(x0.size:Int) then(if((bt x0 x1)=(41:Int)) then(ED.j2 k x0 x1 true) else(if(0:Int)≤x1 then(if x1<(x0.size:Int) then(ED.j2 k x0 x1 (decide ((bt x0 x1)=(39:Int)))) else none) else none)) else none) else none)) else none) else none)
def Ap.d9 (k:Nat) (aT:Jq) (aQ:Int) (a_:ByteArray) (bC:Int) (a3:Jw) (a4:Jq):Option (bQ×Bool):=(if(1:Int)<(aT.length:Int) then((qu.f k (au (aF ah aT (1:Int)))).bind fun r1=>(some ((bQ.mk (af.mk aQ a_ a3 bC a4) (af.mk r1.1 r1.2.1 r1.2.2.2.1 r1.2.2.1 r1.2.2.2.2)),true))) else none)
def Ap.j6 (k:Nat) (x1:Jq) (aT:Jq) (aQ:Int) (a_:ByteArray) (bC:Int) (a3:Jw) (a4:Jq):Option (bQ×Bool):=(if(0:Int)<(a4.length:Int) then((yl.f k (af.mk aQ a_ a3 bC (a4.set 0 (af.mk (1:Int) (ByteArray.mk #[95]) [] (0:Int) []))) x1).bind fun r1=>(if(¬r1=true) then(some ((bQ.mk (af.mk (0:Int) ByteArray.empty [] (0:Int) []) (af.mk (0:Int) ByteArray.empty [] (0:Int) [])),false)) else(Ap.d9 k aT aQ a_ bC a3 (a4.set 0 (af.mk (1:Int) (ByteArray.mk #[95]) [] (0:Int) []))))) else none)
def Ap.j3 (k:Nat) (x1:Jq) (aT:Jq):Option (bQ×Bool):=(if(0:Int)<(aT.length:Int) then((qu.f k (au (aF ah aT (0:Int)))).bind fun r1=>(if(¬r1.1=(3:Int)) then(if(¬r1.1=(4:Int)) then(some ((bQ.mk (af.mk (0:Int) ByteArray.empty [] (0:Int) []) (af.mk (0:Int) ByteArray.empty [] (0:Int) [])),false)) else(if((r1.2.2.2.2.length:Int)=(0:Int)) then(some ((bQ.mk (af.mk (0:Int) ByteArray.empty [] (0:Int) []) (af.mk (0:Int) ByteArray.empty [] (0:Int) [])),false)) else(if(0:Int)<(r1.2.2.2.2.length:Int) then(if(¬(r1.2.2.2.2.getD 0 ah).ak=(1:Int)) then(some ((bQ.mk (af.mk (0:Int) ByteArray.empty [] (0:Int) []) (af.mk (0:Int) ByteArray.empty [] (0:Int) [])),false)) else(Ap.j6 k x1 aT r1.1 r1.2.1 r1.2.2.1 r1.2.2.2.1 r1.2.2.2.2)) else none))) else(if((r1.2.2.2.2.length:Int)=(0:Int)) then(some ((bQ.mk (af.mk (0:Int) ByteArray.empty [] (0:Int) []) (af.mk (0:Int) ByteArray.empty [] (0:Int) [])),false)) else(if(0:Int)<(r1.2.2.2.2.length:Int) then(if(¬(r1.2.2.2.2.getD 0 ah).ak=(1:Int)) then(some ((bQ.mk (af.mk (0:Int) ByteArray.empty [] (0:Int) []) (af.mk (0:Int) ByteArray.empty [] (0:Int) [])),false)) else(Ap.j6 k x1 aT r1.1 r1.2.1 r1.2.2.1 r1.2.2.2.1 r1.2.2.2.2)) else none)))) else none)
def Ap.f (k:Nat) (x0:af) (x1:Jq):Option (bQ×Bool):=(if(¬x0.ak=(3:Int)) then(some ((bQ.mk (af.mk (0:Int) ByteArray.empty [] (0:Int) []) (af.mk (0:Int) ByteArray.empty [] (0:Int) [])),false)) else(if(¬(x0.aj.length:Int)=(2:Int)) then(some ((bQ.mk (af.mk (0:Int) ByteArray.empty [] (0:Int) []) (af.mk (0:Int) ByteArray.empty [] (0:Int) [])),false)) else(Ap.j3 k x1 x0.aj)))
def qy.d7b (k:Nat) (aaW:Int→Jq→Jq→Jv→Option (dL×Bool)) (x5:Int) (aT:Jq) (aQ:Jq) (a3:Jv):Option (dL×Bool):=(if(0:Int)≤x5 then(if x5<(aT.length:Int) then((Ap.f k (au (aF ah aT x5)) aQ).bind fun r1=>(if(¬r1.2=true) then(some ((dL.mk [] []),false)) else(if a3.length+ [(bQ.mk (au r1.1.bz) (au r1.1.f_))].length≤879609302220 then(aaW (i64.wrap (x5+(1:Int))) aT aQ (a3++ [(bQ.mk (au r1.1.bz) (au r1.1.f_))])) else none))) else none) else none)
def qy.l5:Nat→Int→Jq→Jq→Jv→Option (dL×Bool)
 |0,_,_,_,_=>none
 |k+1,x5,aT,aQ,a3=>(if(x5<(aT.length:Int)) then(qy.d7b k (qy.l5 k) x5 aT aQ a3) else(some ((dL.mk aQ a3),true)))
def qy.d7 (k:Nat) (x5:Int) (aT:Jq) (aQ:Jq) (a3:Jv):Option (dL×Bool):=qy.d7b k (qy.l5 k) x5 aT aQ a3
def qy.j2 (k:Nat) (x54:Bool) (aT:Jq):Option (dL×Bool):=(if x54=true then(some ((dL.mk [] []),false)) else(if(1:Int)<(aT.length:Int) then((Bj.f k (aF ah aT (1:Int)).aj).bind fun r1=>(qy.l5 k (2:Int) aT r1 [])) else none))
def qy.f (k:Nat) (x0:af):Option (dL×Bool):=((q13.f k (au x0)).bind fun r1=>(if(¬r1=true) then(qy.j2 k true x0.aj) else(if(¬x0.ak=(3:Int)) then(qy.j2 k true x0.aj) else(if((x0.aj.length:Int)<(2:Int)) then(qy.j2 k true x0.aj) else(if(0:Int)<(x0.aj.length:Int) then(if(¬(aF ah x0.aj (0:Int)).ak=(1:Int)) then(qy.j2 k true x0.aj) else(if(0:Int)<(x0.aj.length:Int) then(if(¬(aF ah x0.aj (0:Int)).aG.toList=(ByteArray.mk #[115,121,110,116,97,120,45,114,117,108,101,115]).toList) then(qy.j2 k true x0.aj) else(if(1:Int)<(x0.aj.length:Int) then(if(¬(aF ah x0.aj (1:Int)).ak=(3:Int)) then(qy.j2 k true x0.aj) else(if(1:Int)<(x0.aj.length:Int) then((EM.f k (aF ah x0.aj (1:Int)).aj).bind fun r2=>(qy.j2 k (decide (¬r2=true)) x0.aj)) else none)) else none)) else none)) else none)))))
def Aq.NP (k:Nat) (Zl:Int→Jw→Int→Jj→Option (Jw×Int×Jj)) (x4:Int) (aA:Jw) (aC:Int) (a1:Jj) (a_:ByteArray) (bI:Jw):Option (Jw×Int×Jj):=((yV.f k x4).bind fun r1=>(if(ByteArray.mk #[110]).size+r1.size≤9223372036854775807 then(if a1.length+ [(aO.mk a_ bI ((ByteArray.mk #[110])++r1))].length≤2513169434916 then(Zl (i64.wrap (x4-(1:Int))) aA aC (a1++ [(aO.mk a_ bI ((ByteArray.mk #[110])++r1))])) else none) else none))
def Aq.l3:Nat→Int→Jw→Int→Jj→Option (Jw×Int×Jj)
 |0,_,_,_,_=>none
 |k+1,x4,aA,aC,a1=>(if((0:Int)<x4) then((qn.f k aA aC).bind fun r1=>(Aq.NP k (Aq.l3 k) x4 r1.2.1 r1.2.2 a1 r1.1.aG r1.1.aB)) else(some (aA,aC,a1)))
def Aq.d6 (k:Nat) (x4:Int) (aA:Jw) (aC:Int) (a1:Jj) (a_:ByteArray) (bI:Jw):Option (Jw×Int×Jj):=Aq.NP k (Aq.l3 k) x4 aA aC a1 a_ bI
def Aq.f (k:Nat) (aA:Jw) (aC:Int):Option (Jw×Int×Jj):=((qi.f k (6:Int) aA aC).bind fun r1=>(Aq.l3 k r1.1 r1.2.1 r1.2.2 []))
namespace D
def Wi.f (k:Nat):Option (Jk):=(some [(ByteArray.mk #[40,100,101,102,105,110,101,45,115,121,110,116,97,120,32,108,101,116,32,40,115,121,110,116,97,120,45,114,117,108,101,115,32,40,41,32,40,40,95,32,40,40,110,32,118,41,32,46,46,46,41,32,98,32,99,32,46,46,46,41,32,40,40,108,97,109,98,100,97,32,40,110,32,46,46,46,41,32,98,32,99,32,46,46,46,41,32,118,32,46,46,46,41,41,41,41,10]),(ByteArray.mk #[40,100,101,102,105,110,101,45,115,121,110,116,97,120,32,111,114,32,40,115,121,110,116,97,120,45,114,117,108,101,115,32,40,41,32,40,40,95,41,32,35,102,41,32,40,40,95,32,97,41,32,97,41,32,40,40,95,32,97,32,98,32,46,46,46,41,32,40,108,101,116,32,40,40,116,32,97,41,41,32,40,105,102,32,116,32,116,32,40,111,114,32,98,32,46,46,46,41,41,41,41,41,41,10]),(ByteArray.mk #[40,100,101,102,105,110,101,45,115,121,110,116,97,120,32,115,119,97,112,32,40,115,121,110,116,97,120,45,114,117,108,101,115,32,40,41,32,40,40,95,32,97,32,98,41,32,40,108,101,116,32,40,40,116,32,97,41,41,32,40,115,101,116,33,32,97,32,98,41,32,40,115,101,116,33,32,98,32,116,41,41,41,41,41,10]),(ByteArray.mk #[40,100,101,102,105,110,101,45,115,121,110,116,97,120,32,99,111,110,100,32,40,115,121,110,116,97,120,45,114,117,108,101,115,32,40,101,108,115,101,41,32,40,40,95,32,40,101,108,115,101,32,97,32,46,46,46,41,41,32,40,98,101,103,105,110,32,97,32,46,46,46,41,41,32,40,40,95,32,40,112,32,97,32,46,46,46,41,32,99,32,46,46,46,41,32,40,105,102,32,112,32,40,98,101,103,105,110,32,97,32,46,46,46,41,32,40,99,111,110,100,32,99,32,46,46,46,41,41,41,32,40,40,95,41,32,35,102,41,41,41,10]),(ByteArray.mk #[40,100,101,102,105,110,101,45,115,121,110,116,97,120,32,100,101,102,32,40,115,121,110,116,97,120,45,114,117,108,101,115,32,40,41,32,40,40,95,32,110,32,118,41,32,40,100,101,102,105,110,101,32,110,32,118,41,41,32,40,40,95,32,40,110,32,46,32,112,41,32,98,32,46,46,46,41,32,40,100,101,102,105,110,101,32,40,110,32,46,32,112,41,32,98,32,46,46,46,41,41,41,41,10]),(ByteArray.mk #[40,100,101,102,105,110,101,45,115,121,110,116,97,120,32,99,111,110,115,116,32,40,115,121,110,116,97,120,45,114,117,108,101,115,32,40,41,32,40,40,95,32,120,41,32,40,108,97,109,98,100,97,32,40,120,41,32,116,41,41,41,41,10]),(ByteArray.mk #[40,100,101,102,105,110,101,45,115,121,110,116,97,120,32,108,101,116,115,32,40,115,121,110,116,97,120,45,114,117,108,101,115,32,40,41,32,40,40,95,32,40,40,110,32,118,32,46,46,46,41,32,46,46,46,41,32,98,41,32,40,108,101,116,32,40,40,110,32,40,108,105,115,116,32,118,32,46,46,46,41,41,32,46,46,46,41,32,98,32,40,108,105,115,116,32,118,32,46,46,46,32,46,46,46,41,41,41,41,41,10]),(ByteArray.mk #[40,100,101,102,105,110,101,45,115,121,110,116,97,120,32,109,97,107,101,32,40,115,121,110,116,97,120,45,114,117,108,101,115,32,40,41,32,40,40,95,32,109,32,120,41,32,40,100,101,102,105,110,101,45,115,121,110,116,97,120,32,109,32,40,115,121,110,116,97,120,45,114,117,108,101,115,32,40,41,32,40,40,95,32,121,32,40,46,46,46,32,46,46,46,41,41,32,40,108,105,115,116,32,120,32,121,32,40,46,46,46,32,46,46,46,41,41,41,41,41,41,41,41,10]),(ByteArray.mk #[40,100,101,102,105,110,101,45,115,121,110,116,97,120,32,116,119,111,32,40,115,121,110,116,97,120,45,114,117,108,101,115,32,40,41,32,40,40,95,32,120,41,32,40,98,101,103,105,110,32,40,100,101,102,105,110,101,32,116,32,49,41,32,40,100,101,102,32,120,32,116,41,41,41,41,41,10]),(ByteArray.mk #[40,100,101,102,105,110,101,45,115,121,110,116,97,120,32,105,110,110,101,114,32,40,115,121,110,116,97,120,45,114,117,108,101,115,32,40,41,32,40,40,95,32,97,32,98,41,32,40,108,97,109,98,100,97,32,40,97,41,32,40,100,101,102,105,110,101,45,115,121,110,116,97,120,32,107,32,40,115,121,110,116,97,120,45,114,117,108,101,115,32,40,98,41,32,40,40,95,32,97,41,32,40,108,105,115,116,32,98,41,41,32,40,40,95,32,98,32,99,41,32,40,108,105,115,116,32,99,41,41,41,41,32,40,107,32,53,41,32,40,107,32,98,32,97,41,41,41,41,41,10]),(ByteArray.mk #[40,100,101,102,105,110,101,45,115,121,110,116,97,120,32,110,97,109,101,100,32,40,115,121,110,116,97,120,45,114,117,108,101,115,32,40,41,32,40,40,95,32,97,41,32,40,108,97,109,98,100,97,32,40,97,41,32,40,100,101,102,105,110,101,45,115,121,110,116,97,120,32,107,32,40,97,32,40,41,32,40,40,95,41,32,49,41,41,41,32,40,107,41,41,41,41,41,10]),(ByteArray.mk #[40,100,101,102,105,110,101,45,115,121,110,116,97,120,32,119,105,116,104,105,110,32,40,115,121,110,116,97,120,45,114,117,108,101,115,32,40,41,32,40,40,95,32,97,32,98,41,32,40,108,97,109,98,100,97,32,40,97,41,32,40,100,101,102,105,110,101,45,115,121,110,116,97,120,32,107,32,40,115,121,110,116,97,120,45,114,117,108,101,115,32,40,41,32,40,40,95,32,97,41,32,40,108,105,115,116,32,98,41,41,41,41,32,40,107,32,53,41,41,41,41,41,10])])
def Qh.l3:Nat→ByteArray→Int→Jk→Option (Jk)
 |0,_,_,_=>none
 |k+1,x0,x4,a0=>(if(x4<(x0.size:Int)) then(if(0:Int)≤x4 then(if x4<(x0.size:Int) then((Ri.f k (bt x0 x4)).bind fun r1=>(if r1=true then(Qh.l3 k x0 (i64.wrap (x4+(1:Int))) a0) else((ED.f k x0 x4).bind fun r2=>(if a0.length+ [r2.1].length≤8796093022208 then(Qh.l3 k x0 r2.2 (a0++ [r2.1])) else none)))) else none) else none) else(some a0))
def Qh.f (k:Nat) (x0:ByteArray):Option (Jk):=(Qh.l3 k x0 (0:Int) [])
def qp.d6 (k:Nat) (a0:Jq) (aU:Int) (a3:Jw) (a4:Jq):Option (Int×ByteArray×Int×Jw×Jq):=(if([]:Jq).length+a0.length≤1759218604441 then(if([]++a0).length+a4.length≤1759218604441 then(some (aU,ByteArray.empty,(0:Int),[],(([]++a0)++a4))) else none) else none)
def qp.d7 (k:Nat) (a0:Jq) (aU:Int) (bK:ByteArray) (bV:Int) (a3:Jw) (a4:Jq):Option (Int×ByteArray×Int×Jw×Jq):=(if([]:Jq).length+a0.length≤1759218604441 then(if([]++a0).length+ [(af.mk aU bK a3 bV a4)].length≤1759218604441 then(some ((4:Int),ByteArray.empty,(0:Int),[],(([]++a0)++ [(af.mk aU bK a3 bV a4)]))) else none) else none)
def qp.f (k:Nat) (Rq:Int) (aaX:ByteArray) (aaY:Int) (a0:Jq) (a1:Jw) (a2:Jq):Option (Int×ByteArray×Int×Jw×Jq):=(if((a0.length:Int)=(0:Int)) then(some (Rq,aaX,aaY,a1,a2)) else(if(Rq=(3:Int)) then(qp.d6 k a0 Rq a1 a2) else(if(Rq=(4:Int)) then(qp.d6 k a0 Rq a1 a2) else(qp.d7 k a0 Rq aaX aaY a1 a2))))
def qr.j15 (k:Nat) (x5:ByteArray) (x88:Bool) (aA:Jk) (aC:Int) (bH:Int) (dA:Bool):Option (Int×ByteArray×Int×Jk×Int×Int×Bool×Jw×Jq):=(if x88=true then(some ((1:Int),x5,(i64.wrap (bH+(1:Int))),aA,aC,(i64.wrap (bH+(1:Int))),dA,[],[])) else(some ((0:Int),ByteArray.empty,(0:Int),aA,aC,bH,true,[],[])))
def qr.j13 (k:Nat) (x5:ByteArray) (x78:Bool) (aA:Jk) (aC:Int) (bH:Int) (dA:Bool):Option (Int×ByteArray×Int×Jk×Int×Int×Bool×Jw×Jq):=(if x78=true then(some ((2:Int),x5,(0:Int),aA,aC,bH,dA,[],[])) else((Bl.f k x5).bind fun r1=>(if r1=true then(qr.j15 k x5 (decide ((x5.size:Int)≤(40:Int))) aA aC bH dA) else(qr.j15 k x5 false aA aC bH dA))))
def Ja.j8 (k:Nat) (aA:Jk) (aC:Int) (bH:Int) (dA:Bool) (a1:Jq) (fP:Int) (ig:ByteArray) (jq:Int) (a4:Jw) (a5:Jq):Option (Int×ByteArray×Int×Jk×Int×Int×Bool×Jw×Jq):=((qp.f k fP ig jq a1 a4 a5).bind fun r1=>(some (r1.1,r1.2.1,r1.2.2.1,aA,(i64.wrap (aC+(1:Int))),bH,dA,r1.2.2.2.1,r1.2.2.2.2)))
def qr.aaZ (k:Nat) (Vg:Int→Jk→Int→Int→Bool→Option (Int×ByteArray×Int×Jk×Int×Int×Bool×Jw×Jq)) (Qi:Int→Jk→Int→Int→Bool→Jq→Option (Int×ByteArray×Int×Jk×Int×Int×Bool×Jw×Jq)) (Qj:Int→Jk→Int→Int→Bool→Option (Int×ByteArray×Int×Jk×Int×Int×Bool×Jw×Jq)) (IA:Int→Jk→Int→Int→Bool→Jq→Option (Int×ByteArray×Int×Jk×Int×Int×Bool×Jw×Jq)) (x1:Int) (aA:Jk) (aC:Int) (bH:Int) (dA:Bool) (aQ:Int) (a_:ByteArray) (bI:Jw) (bC:Int) (dH:Jq):Option (Int×ByteArray×Int×Jk×Int×Int×Bool×Jw×Jq):=((Vg (i64.wrap (x1+(1:Int))) aA aC bH dA).bind fun r1=>(if bI.length=0 then(if dH.length=0 then(some ((3:Int),ByteArray.empty,(0:Int),r1.2.2.2.1,r1.2.2.2.2.1,r1.2.2.2.2.2.1,r1.2.2.2.2.2.2.1,[],[(af.mk aQ a_ [] bC []),(af.mk r1.1 r1.2.1 r1.2.2.2.2.2.2.2.1 r1.2.2.1 r1.2.2.2.2.2.2.2.2)])) else none) else none))
def qr.tu (k:Nat) (Vg:Int→Jk→Int→Int→Bool→Option (Int×ByteArray×Int×Jk×Int×Int×Bool×Jw×Jq)) (Qi:Int→Jk→Int→Int→Bool→Jq→Option (Int×ByteArray×Int×Jk×Int×Int×Bool×Jw×Jq)) (Qj:Int→Jk→Int→Int→Bool→Option (Int×ByteArray×Int×Jk×Int×Int×Bool×Jw×Jq)) (IA:Int→Jk→Int→Int→Bool→Jq→Option (Int×ByteArray×Int×Jk×Int×Int×Bool×Jw×Jq)) (x1:Int) (aA:Jk) (aC:Int) (bH:Int) (dA:Bool):Option (Int×ByteArray×Int×Jk×Int×Int×Bool×Jw×Jq):=(if(0:Int)≤aC then(if aC<(aA.length:Int) then(if((aF ByteArray.empty aA aC).toList=(ByteArray.mk #[40]).toList) then((Qj x1 aA (i64.wrap (aC+(1:Int))) bH dA).bind fun r1=>(some (r1.1,r1.2.1,r1.2.2.1,r1.2.2.2.1,r1.2.2.2.2.1,r1.2.2.2.2.2.1,r1.2.2.2.2.2.2.1,r1.2.2.2.2.2.2.2.1,r1.2.2.2.2.2.2.2.2))) else(if((aF ByteArray.empty aA aC).toList=(ByteArray.mk #[39]).toList) then(qr.aaZ k Vg Qi Qj IA x1 aA (i64.wrap (aC+(1:Int))) (i64.wrap (bH+(1:Int))) dA (1:Int) (ByteArray.mk #[113,117,111,116,101]) [] (i64.wrap (bH+(1:Int))) []) else((q12.f k (aF ByteArray.empty aA aC)).bind fun r2=>(if r2=true then(qr.j13 k (aF ByteArray.empty aA aC) (decide (((aF ByteArray.empty aA aC).size:Int)≤(40:Int))) aA (i64.wrap (aC+(1:Int))) bH dA) else(qr.j13 k (aF ByteArray.empty aA aC) false aA (i64.wrap (aC+(1:Int))) bH dA))))) else none) else none)
def Ar.BK (k:Nat) (Vg:Int→Jk→Int→Int→Bool→Option (Int×ByteArray×Int×Jk×Int×Int×Bool×Jw×Jq)) (Qi:Int→Jk→Int→Int→Bool→Jq→Option (Int×ByteArray×Int×Jk×Int×Int×Bool×Jw×Jq)) (Qj:Int→Jk→Int→Int→Bool→Option (Int×ByteArray×Int×Jk×Int×Int×Bool×Jw×Jq)) (IA:Int→Jk→Int→Int→Bool→Jq→Option (Int×ByteArray×Int×Jk×Int×Int×Bool×Jw×Jq)) (x1:Int) (aA:Jk) (aC:Int) (bH:Int) (dA:Bool) (a2:Jq):Option (Int×ByteArray×Int×Jk×Int×Int×Bool×Jw×Jq):=(if(0:Int)≤aC then(if aC<(aA.length:Int) then(if((aF ByteArray.empty aA aC).toList=(ByteArray.mk #[46]).toList) then((Qi x1 aA aC bH dA a2).bind fun r1=>(some (r1.1,r1.2.1,r1.2.2.1,r1.2.2.2.1,r1.2.2.2.2.1,r1.2.2.2.2.2.1,r1.2.2.2.2.2.2.1,r1.2.2.2.2.2.2.2.1,r1.2.2.2.2.2.2.2.2))) else((Vg (i64.wrap (x1+(1:Int))) aA aC bH dA).bind fun r2=>(if a2.length+ [(af.mk r2.1 r2.2.1 r2.2.2.2.2.2.2.2.1 r2.2.2.1 r2.2.2.2.2.2.2.2.2)].length≤1759218604441 then(IA x1 r2.2.2.2.1 r2.2.2.2.2.1 r2.2.2.2.2.2.1 r2.2.2.2.2.2.2.1 (a2++ [(af.mk r2.1 r2.2.1 r2.2.2.2.2.2.2.2.1 r2.2.2.1 r2.2.2.2.2.2.2.2.2)])) else none))) else none) else none)
mutual
def qr.f:Nat→Int→Jk→Int→Int→Bool→Option (Int×ByteArray×Int×Jk×Int×Int×Bool×Jw×Jq)
 |0,_,_,_,_,_=>none
 |k+1,x1,aA,aC,bH,dA=>(if dA=true then(some ((0:Int),ByteArray.empty,(0:Int),aA,aC,bH,true,[],[])) else(if((aA.length:Int)≤aC) then(some ((0:Int),ByteArray.empty,(0:Int),aA,aC,bH,true,[],[])) else(if((60:Int)<x1) then(some ((0:Int),ByteArray.empty,(0:Int),aA,aC,bH,true,[],[])) else(qr.tu k (qr.f k) (Ja.f k) (Ar.f k) (Ar.l2 k) x1 aA aC bH dA))))
def Ja.f:Nat→Int→Jk→Int→Int→Bool→Jq→Option (Int×ByteArray×Int×Jk×Int×Int×Bool×Jw×Jq)
 |0,_,_,_,_,_,_=>none
 |k+1,x2,aA,aC,bH,dA,a1=>(if((a1.length:Int)=(0:Int)) then(some ((0:Int),ByteArray.empty,(0:Int),aA,(i64.wrap (aC+(1:Int))),bH,true,[],[])) else((qr.f k (i64.wrap (x2+(1:Int))) aA (i64.wrap (aC+(1:Int))) bH dA).bind fun r1=>(if((r1.2.2.2.1.length:Int)≤r1.2.2.2.2.1) then(Ja.j8 k r1.2.2.2.1 r1.2.2.2.2.1 r1.2.2.2.2.2.1 true a1 r1.1 r1.2.1 r1.2.2.1 r1.2.2.2.2.2.2.2.1 r1.2.2.2.2.2.2.2.2) else(if(0:Int)≤r1.2.2.2.2.1 then(if r1.2.2.2.2.1<(r1.2.2.2.1.length:Int) then(if(¬(aF ByteArray.empty r1.2.2.2.1 r1.2.2.2.2.1).toList=(ByteArray.mk #[41]).toList) then(Ja.j8 k r1.2.2.2.1 r1.2.2.2.2.1 r1.2.2.2.2.2.1 true a1 r1.1 r1.2.1 r1.2.2.1 r1.2.2.2.2.2.2.2.1 r1.2.2.2.2.2.2.2.2) else(Ja.j8 k r1.2.2.2.1 r1.2.2.2.2.1 r1.2.2.2.2.2.1 r1.2.2.2.2.2.2.1 a1 r1.1 r1.2.1 r1.2.2.1 r1.2.2.2.2.2.2.2.1 r1.2.2.2.2.2.2.2.2)) else none) else none))))
def Ar.f:Nat→Int→Jk→Int→Int→Bool→Option (Int×ByteArray×Int×Jk×Int×Int×Bool×Jw×Jq)
 |0,_,_,_,_,_=>none
 |k+1,x1,aA,aC,bH,dA=>(Ar.l2 k x1 aA aC bH dA [])
def Ar.l2:Nat→Int→Jk→Int→Int→Bool→Jq→Option (Int×ByteArray×Int×Jk×Int×Int×Bool×Jw×Jq)
 |0,_,_,_,_,_,_=>none
 |k+1,x1,aA,aC,bH,dA,a2=>(if(¬dA=true) then(if(aC<(aA.length:Int)) then(if(0:Int)≤aC then(if aC<(aA.length:Int) then(if(¬(aF ByteArray.empty aA aC).toList=(ByteArray.mk #[41]).toList) then(Ar.BK k (qr.f k) (Ja.f k) (Ar.f k) (Ar.l2 k) x1 aA aC bH dA a2) else(if((aA.length:Int)≤aC) then(some ((3:Int),ByteArray.empty,(0:Int),aA,(i64.wrap (aC+(1:Int))),bH,true,[],a2)) else(some ((3:Int),ByteArray.empty,(0:Int),aA,(i64.wrap (aC+(1:Int))),bH,dA,[],a2)))) else none) else none) else(if((aA.length:Int)≤aC) then(some ((3:Int),ByteArray.empty,(0:Int),aA,(i64.wrap (aC+(1:Int))),bH,true,[],a2)) else(some ((3:Int),ByteArray.empty,(0:Int),aA,(i64.wrap (aC+(1:Int))),bH,dA,[],a2)))) else(if((aA.length:Int)≤aC) then(some ((3:Int),ByteArray.empty,(0:Int),aA,(i64.wrap (aC+(1:Int))),bH,true,[],a2)) else(some ((3:Int),ByteArray.empty,(0:Int),aA,(i64.wrap (aC+(1:Int))),bH,dA,[],a2))))
end
def qr.j4 (k:Nat) (x1:Int) (aA:Jk) (aC:Int) (bH:Int) (dA:Bool):Option (Int×ByteArray×Int×Jk×Int×Int×Bool×Jw×Jq):=qr.tu k (qr.f k) (Ja.f k) (Ar.f k) (Ar.l2 k) x1 aA aC bH dA
def qr.d11 (k:Nat) (x1:Int) (aA:Jk) (aC:Int) (bH:Int) (dA:Bool) (aQ:Int) (a_:ByteArray) (bI:Jw) (bC:Int) (dH:Jq):Option (Int×ByteArray×Int×Jk×Int×Int×Bool×Jw×Jq):=qr.aaZ k (qr.f k) (Ja.f k) (Ar.f k) (Ar.l2 k) x1 aA aC bH dA aQ a_ bI bC dH
def Ar.j3 (k:Nat) (x1:Int) (aA:Jk) (aC:Int) (bH:Int) (dA:Bool) (a2:Jq):Option (Int×ByteArray×Int×Jk×Int×Int×Bool×Jw×Jq):=Ar.BK k (qr.f k) (Ja.f k) (Ar.f k) (Ar.l2 k) x1 aA aC bH dA a2
def BO.uP (k:Nat) (Zm:Int→Jk→Int→Int→Bool→Jq→Option (Bool×Jq)) (x6:Int) (aA:Jk) (aC:Int) (bH:Int) (dA:Bool) (a1:Jq):Option (Bool×Jq):=((qr.f k (0:Int) aA aC bH dA).bind fun r1=>((yj.f k (af.mk r1.1 r1.2.1 r1.2.2.2.2.2.2.2.1 r1.2.2.1 r1.2.2.2.2.2.2.2.2)).bind fun r2=>(if a1.length+ [(af.mk r1.1 r1.2.1 r1.2.2.2.2.2.2.2.1 r1.2.2.1 r1.2.2.2.2.2.2.2.2)].length≤1759218604441 then(Zm (i64.wrap (x6+r2)) r1.2.2.2.1 r1.2.2.2.2.1 r1.2.2.2.2.2.1 r1.2.2.2.2.2.2.1 (a1++ [(af.mk r1.1 r1.2.1 r1.2.2.2.2.2.2.2.1 r1.2.2.1 r1.2.2.2.2.2.2.2.2)])) else none)))
def BO.l6:Nat→Int→Jk→Int→Int→Bool→Jq→Option (Bool×Jq)
 |0,_,_,_,_,_,_=>none
 |k+1,x6,aA,aC,bH,dA,a1=>(if(¬dA=true) then(if(aC<(aA.length:Int)) then(BO.uP k (BO.l6 k) x6 aA aC bH dA a1) else(if dA=true then(some (false,[])) else(if((1500:Int)<x6) then(some (false,[])) else(some (true,a1))))) else(if dA=true then(some (false,[])) else(if((1500:Int)<x6) then(some (false,[])) else(some (true,a1)))))
def BO.j7 (k:Nat) (x6:Int) (aA:Jk) (aC:Int) (bH:Int) (dA:Bool) (a1:Jq):Option (Bool×Jq):=BO.uP k (BO.l6 k) x6 aA aC bH dA a1
def BO.f (k:Nat) (x0:ByteArray):Option (Bool×Jq):=(if((6000:Int)<(x0.size:Int)) then(some (false,[])) else((Qh.f k x0).bind fun r1=>(BO.l6 k (0:Int) r1 (0:Int) (0:Int) false [])))
def qn.l3:Nat→Int→Jw→Int→Int→ByteArray→Int→Jq→Jw→Option (Int×ByteArray×Int×Jw×Int×Jw×Jq)
 |0,_,_,_,_,_,_,_,_=>none
 |k+1,x4,aA,aC,aQ,a_,bC,dH,a3=>(if(x4<(3:Int)) then((qi.f k (3:Int) aA aC).bind fun r1=>(if(r1.1=(0:Int)) then(if a3.length+ [x4].length≤17592186044416 then(qn.l3 k (i64.wrap (x4+(1:Int))) r1.2.1 r1.2.2 aQ a_ bC dH (a3++ [x4])) else none) else(qn.l3 k (i64.wrap (x4+(1:Int))) r1.2.1 r1.2.2 aQ a_ bC dH a3))) else(if dH.length=0 then(some (aQ,a_,bC,aA,aC,a3,[])) else none))
def qn.f (k:Nat) (aA:Jw) (aC:Int):Option (Int×ByteArray×Int×Jw×Int×Jw×Jq):=((Aj.f k [(ByteArray.mk #[97]),(ByteArray.mk #[98]),(ByteArray.mk #[99]),(ByteArray.mk #[101,108,115,101])] aA aC).bind fun r1=>((qi.f k (9:Int) r1.2.1 r1.2.2).bind fun r2=>(qn.l3 k (0:Int) r2.2.1 r2.2.2 (1:Int) r1.1 r2.1 [] [])))
def q7.d15 (k:Nat) (aA:Jw) (aC:Int) (aQ:Int) (a_:ByteArray) (bI:Jw) (bC:Int) (a3:Jq):Option (Int×ByteArray×Int×Jw×Int×Jw×Jq):=((qn.f k aA aC).bind fun r1=>(if a3.length+ [(af.mk r1.1 r1.2.1 r1.2.2.2.2.2.1 r1.2.2.1 r1.2.2.2.2.2.2)].length≤1759218604441 then(if bI.length=0 then(some (aQ,a_,bC,r1.2.2.2.1,r1.2.2.2.2.1,[],(a3++ [(af.mk r1.1 r1.2.1 r1.2.2.2.2.2.1 r1.2.2.1 r1.2.2.2.2.2.2)]))) else none) else none))
def q7.tu (k:Nat) (Ih:Int→Jw→Int→Option (Int×ByteArray×Int×Jw×Int×Jw×Jq)) (sH:Int→Int→Jw→Int→Int→ByteArray→Jw→Int→Jq→Option (Int×ByteArray×Int×Jw×Int×Jw×Jq)) (sJ:Int→Int→Jw→Int→Int→ByteArray→Jw→Int→Jq→Option (Int×ByteArray×Int×Jw×Int×Jw×Jq)) (x1:Int) (x14:Int) (x15:Bool) (aA:Jw) (aC:Int):Option (Int×ByteArray×Int×Jw×Int×Jw×Jq):=(if x15=true then((qn.f k aA aC).bind fun r1=>(some (r1.1,r1.2.1,r1.2.2.1,r1.2.2.2.1,r1.2.2.2.2.1,r1.2.2.2.2.2.1,r1.2.2.2.2.2.2))) else(if(x14=(2:Int)) then((Aj.f k [(ByteArray.mk #[49]),(ByteArray.mk #[35,116]),(ByteArray.mk #[34,115,34]),(ByteArray.mk #[45,55])] aA aC).bind fun r2=>(some ((2:Int),r2.1,(0:Int),r2.2.1,r2.2.2,[],[]))) else(if(x14=(3:Int)) then(some ((3:Int),ByteArray.empty,(0:Int),aA,aC,[],[])) else(if(x14=(4:Int)) then((qi.f k (2:Int) aA aC).bind fun r3=>(sH x1 (i64.wrap ((1:Int)+r3.1)) r3.2.1 r3.2.2 (4:Int) ByteArray.empty [] (0:Int) [])) else((qi.f k (4:Int) aA aC).bind fun r4=>(sJ x1 r4.1 r4.2.1 r4.2.2 (3:Int) ByteArray.empty [] (0:Int) []))))))
def q7.Ii (k:Nat) (Ih:Int→Jw→Int→Option (Int×ByteArray×Int×Jw×Int×Jw×Jq)) (sH:Int→Int→Jw→Int→Int→ByteArray→Jw→Int→Jq→Option (Int×ByteArray×Int×Jw×Int×Jw×Jq)) (sJ:Int→Int→Jw→Int→Int→ByteArray→Jw→Int→Jq→Option (Int×ByteArray×Int×Jw×Int×Jw×Jq)) (x1:Int) (x6:Int) (aA:Jw) (aC:Int) (aQ:Int) (a_:ByteArray) (bI:Jw) (bC:Int) (a3:Jq):Option (Int×ByteArray×Int×Jw×Int×Jw×Jq):=((Ih (i64.wrap (x1-(1:Int))) aA aC).bind fun r1=>(if a3.length+ [(af.mk r1.1 r1.2.1 r1.2.2.2.2.2.1 r1.2.2.1 r1.2.2.2.2.2.2)].length≤1759218604441 then(sH x1 (i64.wrap (x6-(1:Int))) r1.2.2.2.1 r1.2.2.2.2.1 aQ a_ bI bC (a3++ [(af.mk r1.1 r1.2.1 r1.2.2.2.2.2.1 r1.2.2.1 r1.2.2.2.2.2.2)])) else none))
def q7.zC (k:Nat) (Ih:Int→Jw→Int→Option (Int×ByteArray×Int×Jw×Int×Jw×Jq)) (sH:Int→Int→Jw→Int→Int→ByteArray→Jw→Int→Jq→Option (Int×ByteArray×Int×Jw×Int×Jw×Jq)) (sJ:Int→Int→Jw→Int→Int→ByteArray→Jw→Int→Jq→Option (Int×ByteArray×Int×Jw×Int×Jw×Jq)) (x1:Int) (x8:Int) (aA:Jw) (aC:Int) (aQ:Int) (a_:ByteArray) (bI:Jw) (bC:Int) (a3:Jq):Option (Int×ByteArray×Int×Jw×Int×Jw×Jq):=((Ih (i64.wrap (x1-(1:Int))) aA aC).bind fun r1=>(if a3.length+ [(af.mk r1.1 r1.2.1 r1.2.2.2.2.2.1 r1.2.2.1 r1.2.2.2.2.2.2)].length≤1759218604441 then(sJ x1 (i64.wrap (x8-(1:Int))) r1.2.2.2.1 r1.2.2.2.2.1 aQ a_ bI bC (a3++ [(af.mk r1.1 r1.2.1 r1.2.2.2.2.2.1 r1.2.2.1 r1.2.2.2.2.2.2)])) else none))
mutual
def q7.f:Nat→Int→Jw→Int→Option (Int×ByteArray×Int×Jw×Int×Jw×Jq)
 |0,_,_,_=>none
 |k+1,x1,aA,aC=>((P9.f k x1 (1:Int)).bind fun r1=>((qi.f k (i64.wrap ((4:Int)+(i64.wrap ((3:Int)*r1)))) aA aC).bind fun r2=>(if(r2.1=(0:Int)) then(q7.tu k (q7.f k) (q7.l12 k) (q7.tX k) x1 r2.1 true r2.2.1 r2.2.2) else(q7.tu k (q7.f k) (q7.l12 k) (q7.tX k) x1 r2.1 (decide (r2.1=(1:Int))) r2.2.1 r2.2.2))))
def q7.l12:Nat→Int→Int→Jw→Int→Int→ByteArray→Jw→Int→Jq→Option (Int×ByteArray×Int×Jw×Int×Jw×Jq)
 |0,_,_,_,_,_,_,_,_,_=>none
 |k+1,x1,x6,aA,aC,aQ,a_,bI,bC,a3=>(if((0:Int)<x6) then(q7.Ii k (q7.f k) (q7.l12 k) (q7.tX k) x1 x6 aA aC aQ a_ bI bC a3) else(q7.d15 k aA aC aQ a_ bI bC a3))
def q7.tX:Nat→Int→Int→Jw→Int→Int→ByteArray→Jw→Int→Jq→Option (Int×ByteArray×Int×Jw×Int×Jw×Jq)
 |0,_,_,_,_,_,_,_,_,_=>none
 |k+1,x1,x8,aA,aC,aQ,a_,bI,bC,a3=>(if((0:Int)<x8) then(q7.zC k (q7.f k) (q7.l12 k) (q7.tX k) x1 x8 aA aC aQ a_ bI bC a3) else(if bI.length=0 then(some (aQ,a_,bC,aA,aC,[],a3)) else none))
end
def q7.j4 (k:Nat) (x1:Int) (x14:Int) (x15:Bool) (aA:Jw) (aC:Int):Option (Int×ByteArray×Int×Jw×Int×Jw×Jq):=q7.tu k (q7.f k) (q7.l12 k) (q7.tX k) x1 x14 x15 aA aC
def q7.d14 (k:Nat) (x1:Int) (x6:Int) (aA:Jw) (aC:Int) (aQ:Int) (a_:ByteArray) (bI:Jw) (bC:Int) (a3:Jq):Option (Int×ByteArray×Int×Jw×Int×Jw×Jq):=q7.Ii k (q7.f k) (q7.l12 k) (q7.tX k) x1 x6 aA aC aQ a_ bI bC a3
def q7.d21 (k:Nat) (x1:Int) (x8:Int) (aA:Jw) (aC:Int) (aQ:Int) (a_:ByteArray) (bI:Jw) (bC:Int) (a3:Jq):Option (Int×ByteArray×Int×Jw×Int×Jw×Jq):=q7.zC k (q7.f k) (q7.l12 k) (q7.tX k) x1 x8 aA aC aQ a_ bI bC a3
noncomputable def N9.d7 (k:Nat) (aA:Jw) (aC:Int) (aQ:Int) (a_:ByteArray) (bC:Int) (a3:Jw) (a4:Jq):Option (af×Jw×Int):=((qi.f k (i64.wrap ((a4.length:Int)-(1:Int))) aA aC).bind fun r1=>((q7.f k (2:Int) r1.2.1 r1.2.2).bind fun r2=>(if(0:Int)≤(i64.wrap ((1:Int)+r1.1)) then(if(i64.wrap ((1:Int)+r1.1))<(a4.length:Int) then(some ((af.mk aQ a_ a3 bC (a4.set ((i64.wrap ((1:Int)+r1.1)).toNat) (af.mk r2.1 r2.2.1 r2.2.2.2.2.2.1 r2.2.2.1 r2.2.2.2.2.2.2))),r2.2.2.2.1,r2.2.2.2.2.1)) else none) else none)))
noncomputable def N9.f (k:Nat) (aA:Jw) (aC:Int):Option (af×Jw×Int):=((Wi.f k).bind fun r1=>((Aj.f k r1 aA aC).bind fun r2=>((BO.f k r2.1).bind fun r3=>(if(0:Int)<(r3.2.length:Int) then(if(2:Int)<((r3.2.getD 0 ah).aj.length:Int) then(if 0≤2 then((qi.f k (8:Int) r2.2.1 r2.2.2).bind fun r4=>(if(r4.1=(0:Int)) then((qx.f k (au ((r3.2.getD 0 ah).aj.getD 2 ah)) r4.2.1 r4.2.2).bind fun r5=>(some ((au r5.1),r5.2.1,r5.2.2))) else(if(r4.1=(1:Int)) then(N9.d7 k r4.2.1 r4.2.2 ((r3.2.getD 0 ah).aj.getD 2 ah).ak ((r3.2.getD 0 ah).aj.getD 2 ah).aG ((r3.2.getD 0 ah).aj.getD 2 ah).aI ((r3.2.getD 0 ah).aj.getD 2 ah).aB ((r3.2.getD 0 ah).aj.getD 2 ah).aj) else(if(r4.1=(2:Int)) then(if(2:Int)<(((r3.2.getD 0 ah).aj.getD 2 ah).aj.length:Int) then(if(0:Int)<((((r3.2.getD 0 ah).aj.getD 2 ah).aj.getD 2 ah).aj.length:Int) then(if((0:Int)<(((((r3.2.getD 0 ah).aj.getD 2 ah).aj.getD 2 ah).aj.getD 0 ah).aj.length:Int)) then(same2 ((q7.f k (0:Int) r4.2.1 r4.2.2).bind fun r6=>(if(0:Int)<(((((r3.2.getD 0 ah).aj.getD 2 ah).aj.getD 2 ah).aj.getD 0 ah).aj.length:Int) then(some ((af.mk ((r3.2.getD 0 ah).aj.getD 2 ah).ak ((r3.2.getD 0 ah).aj.getD 2 ah).aG ((r3.2.getD 0 ah).aj.getD 2 ah).aB ((r3.2.getD 0 ah).aj.getD 2 ah).aI (((r3.2.getD 0 ah).aj.getD 2 ah).aj.set 2 (af.mk (((r3.2.getD 0 ah).aj.getD 2 ah).aj.getD 2 ah).ak (((r3.2.getD 0 ah).aj.getD 2 ah).aj.getD 2 ah).aG (((r3.2.getD 0 ah).aj.getD 2 ah).aj.getD 2 ah).aB (((r3.2.getD 0 ah).aj.getD 2 ah).aj.getD 2 ah).aI ((((r3.2.getD 0 ah).aj.getD 2 ah).aj.getD 2 ah).aj.set 0 (af.mk ((((r3.2.getD 0 ah).aj.getD 2 ah).aj.getD 2 ah).aj.getD 0 ah).ak ((((r3.2.getD 0 ah).aj.getD 2 ah).aj.getD 2 ah).aj.getD 0 ah).aG ((((r3.2.getD 0 ah).aj.getD 2 ah).aj.getD 2 ah).aj.getD 0 ah).aB ((((r3.2.getD 0 ah).aj.getD 2 ah).aj.getD 2 ah).aj.getD 0 ah).aI (((((r3.2.getD 0 ah).aj.getD 2 ah).aj.getD 2 ah).aj.getD 0 ah).aj.set 0 (af.mk r6.1 r6.2.1 r6.2.2.2.2.2.1 r6.2.2.1 r6.2.2.2.2.2.2))))))),r6.2.2.2.1,r6.2.2.2.2.1)) else none)) ((q7.f k (0:Int) r4.2.1 r4.2.2).bind fun r7=>(if(0:Int)<(((((r3.2.getD 0 ah).aj.getD 2 ah).aj.getD 2 ah).aj.getD 0 ah).aj.length:Int) then(some ((af.mk ((r3.2.getD 0 ah).aj.getD 2 ah).ak ((r3.2.getD 0 ah).aj.getD 2 ah).aG ((r3.2.getD 0 ah).aj.getD 2 ah).aB ((r3.2.getD 0 ah).aj.getD 2 ah).aI (((r3.2.getD 0 ah).aj.getD 2 ah).aj.set 2 (af.mk (((r3.2.getD 0 ah).aj.getD 2 ah).aj.getD 2 ah).ak (((r3.2.getD 0 ah).aj.getD 2 ah).aj.getD 2 ah).aG (((r3.2.getD 0 ah).aj.getD 2 ah).aj.getD 2 ah).aB (((r3.2.getD 0 ah).aj.getD 2 ah).aj.getD 2 ah).aI ((((r3.2.getD 0 ah).aj.getD 2 ah).aj.getD 2 ah).aj.set 0 (af.mk ((((r3.2.getD 0 ah).aj.getD 2 ah).aj.getD 2 ah).aj.getD 0 ah).ak ((((r3.2.getD 0 ah).aj.getD 2 ah).aj.getD 2 ah).aj.getD 0 ah).aG ((((r3.2.getD 0 ah).aj.getD 2 ah).aj.getD 2 ah).aj.getD 0 ah).aB ((((r3.2.getD 0 ah).aj.getD 2 ah).aj.getD 2 ah).aj.getD 0 ah).aI (((((r3.2.getD 0 ah).aj.getD 2 ah).aj.getD 2 ah).aj.getD 0 ah).aj.set 0 (af.mk r7.1 r7.2.1 r7.2.2.2.2.2.1 r7.2.2.1 r7.2.2.2.2.2.2))))))),r7.2.2.2.1,r7.2.2.2.2.1)) else none))) else(some ((af.mk ((r3.2.getD 0 ah).aj.getD 2 ah).ak ((r3.2.getD 0 ah).aj.getD 2 ah).aG ((r3.2.getD 0 ah).aj.getD 2 ah).aB ((r3.2.getD 0 ah).aj.getD 2 ah).aI (((r3.2.getD 0 ah).aj.getD 2 ah).aj.set 2 (af.mk (((r3.2.getD 0 ah).aj.getD 2 ah).aj.getD 2 ah).ak (((r3.2.getD 0 ah).aj.getD 2 ah).aj.getD 2 ah).aG (((r3.2.getD 0 ah).aj.getD 2 ah).aj.getD 2 ah).aB (((r3.2.getD 0 ah).aj.getD 2 ah).aj.getD 2 ah).aI ((((r3.2.getD 0 ah).aj.getD 2 ah).aj.getD 2 ah).aj.set 0 (au ((((r3.2.getD 0 ah).aj.getD 2 ah).aj.getD 2 ah).aj.getD 0 ah)))))),r4.2.1,r4.2.2))) else none) else none) else(some ((au ((r3.2.getD 0 ah).aj.getD 2 ah)),r4.2.1,r4.2.2)))))) else none) else none) else none))))
end D
noncomputable def yt.d8 (k:Nat) (aQ:Jw) (a_:Int) (fP:Jq) (ig:Jv) (Xl:Int) (Xm:ByteArray) (Xn:Jw) (Xo:Int) (Xp:Jq):Option (dL×af×Jj):=((Aq.f k aQ a_).bind fun r1=>(some ((dL.mk fP ig),(af.mk Xl Xm Xn Xo Xp),r1.2.2)))
noncomputable def yt.j6 (k:Nat) (aQ:Jw) (a_:Int) (fP:Jq) (ig:Jv) (Xl:Int) (Xm:ByteArray) (Xn:Jw) (Xo:Int) (Xp:Jq):Option (dL×af×Jj):=((qi.f k (24:Int) aQ a_).bind fun r1=>(if(r1.1=(0:Int)) then((qx.f k (af.mk Xl Xm Xn Xo Xp) r1.2.1 r1.2.2).bind fun r2=>(yt.d8 k r2.2.1 r2.2.2 fP ig r2.1.ak r2.1.aG r2.1.aB r2.1.aI r2.1.aj)) else(yt.d8 k r1.2.1 r1.2.2 fP ig Xl Xm Xn Xo Xp)))
noncomputable def yt.d5 (k:Nat) (aQ:Jw) (a_:Int) (fP:Jq) (ig:Jv) (a5:Jq):Option (dL×af×Jj):=((qi.f k (ig.length:Int) aQ a_).bind fun r1=>(if(0:Int)≤r1.1 then(if r1.1<(ig.length:Int) then((qd.f k (au (aF kH ig r1.1).bz) r1.2.1 r1.2.2).bind fun r2=>(yt.j6 k r2.2.1 r2.2.2 fP ig r2.1.ak r2.1.aG r2.1.aB r2.1.aI r2.1.aj)) else none) else none))
noncomputable def yt.f (k:Nat) (x0:Jw):Option (dL×af×Jj):=((IZ.f k x0).bind fun r1=>((D.N9.f k r1.1 r1.2).bind fun r2=>((qy.f k (au r2.1)).bind fun r3=>((qn.f k r2.2.1 r2.2.2).bind fun r4=>((q7.f k (2:Int) r4.2.1 r4.2.2).bind fun r5=>(if((0:Int)<(r3.1.fK.length:Int)) then((qi.f k (6:Int) r5.2.1 r5.2.2).bind fun r6=>(if((0:Int)<r6.1) then(yt.d5 k r6.2.1 r6.2.2 r3.1.bF r3.1.fK [(au r4.1),(au r5.1)]) else(yt.j6 k r6.2.1 r6.2.2 r3.1.bF r3.1.fK (3:Int) ByteArray.empty [] (0:Int) [(au r4.1),(au r5.1)]))) else(yt.j6 k r5.2.1 r5.2.2 r3.1.bF r3.1.fK (3:Int) ByteArray.empty [] (0:Int) [(au r4.1),(au r5.1)])))))))
def Jb.l2:Nat→Jq→Int→Int→Option (Bool)
 |0,_,_,_=>none
 |k+1,x5,x6,x7=>(if(x7<x6) then(if(0:Int)≤x7 then(if x7<(x5.length:Int) then(if(¬(aF ah x5 x7).ak=(1:Int)) then(some false) else((yX.f k (au (aF ah x5 x7))).bind fun r1=>(if(¬r1=true) then(some false) else(if((aF ah x5 x7).aG.toList=(ByteArray.mk #[46,46,46]).toList) then(some false) else(if((aF ah x5 x7).aG.toList=(ByteArray.mk #[95]).toList) then(some false) else(Jb.l2 k x5 x6 (i64.wrap (x7+(1:Int))))))))) else none) else none) else(some true))
def Jb.f (k:Nat) (x0:Jq):Option (Bool):=(Jb.l2 k x0 (x0.length:Int) (0:Int))
def q1n.l2:Nat→Jq→Int→Int→Int→ByteArray→Jw→Int→Jq→Option (Bool)
 |0,_,_,_,_,_,_,_,_=>none
 |k+1,x7,x8,x9,aA,aC,bH,dA,aT=>(if(x9<x8) then(if(0:Int)≤x9 then(if x9<(x7.length:Int) then((Qd.f k (au (aF ah x7 x9)) (af.mk aA aC bH dA aT)).bind fun r1=>(if r1=true then(some true) else(q1n.l2 k x7 x8 (i64.wrap (x9+(1:Int))) aA aC bH dA aT))) else none) else none) else(some false))
def q1n.f (k:Nat) (x0:Jq) (x1:af):Option (Bool):=(q1n.l2 k x0 (x0.length:Int) (0:Int) x1.ak x1.aG x1.aB x1.aI x1.aj)
def qj.d5 (k:Nat) (aA:Jq) (bH:Bool) (aU:Int) (bK:ByteArray) (b_:Jw) (bV:Int) (aX:Jq) (a2:Jq):Option (Jq×Bool×Jq):=(if a2.length+ [(af.mk (0:Int) (ByteArray.mk #[]) [] (0:Int) [])].length≤1759218604441 then(if(0:Int)≤(a2.length:Int) then(if(a2.length:Int)<((a2++ [(af.mk (0:Int) (ByteArray.mk #[]) [] (0:Int) [])]).length:Int) then(some (aA,bH,((a2++ [(af.mk (0:Int) (ByteArray.mk #[]) [] (0:Int) [])]).set ((a2.length:Int).toNat) (af.mk aU bK b_ bV aX)))) else none) else none) else none)
def qj.j4 (k:Nat) (aA:Jq) (bH:Bool) (aU:Int) (bK:ByteArray) (b_:Jw) (bV:Int) (aX:Jq) (a2:Jq):Option (Jq×Bool×Jq):=(if bH=true then(qj.d5 k aA true aU bK b_ bV aX a2) else((q1n.f k a2 (af.mk aU bK b_ bV aX)).bind fun r1=>(qj.d5 k aA r1 aU bK b_ bV aX a2)))
def qj.Rt (k:Nat) (Zn:af→Jq→Bool→Jq→Option (Jq×Bool×Jq)) (Vh:(Option af)→Int→Jq→Int→Int→Jq→Bool→Jq→Option (Jq×Bool×Jq)) (x55:Bool) (aA:Jq) (bH:Bool) (aU:Int) (bK:ByteArray) (b_:Jw) (bV:Int) (aX:Jq) (a2:Jq):Option (Jq×Bool×Jq):=(if x55=true then((BL.f k (af.mk aU bK b_ bV aX)).bind fun r1=>(Vh r1.2 (0:Int) r1.1 (r1.1.length:Int) (0:Int) aA bH a2)) else(some (aA,bH,a2)))
def qj.Bq (k:Nat) (Zn:af→Jq→Bool→Jq→Option (Jq×Bool×Jq)) (Vh:(Option af)→Int→Jq→Int→Int→Jq→Bool→Jq→Option (Jq×Bool×Jq)) (x5:(Option af)) (aA:Jq) (bH:Bool) (a1:Jq):Option (Jq×Bool×Jq):=(if(Option.isSome x5=true) then(if bH=true then((x5).bind fun y1=>((Zn (au y1) aA true a1).bind fun r2=>(some (r2.1,r2.2.1,r2.2.2)))) else((x5).bind fun y3=>((Am.f k (au y3) (ByteArray.mk #[46,46,46])).bind fun r4=>((x5).bind fun y5=>((Zn (au y5) aA r4 a1).bind fun r6=>(some (r6.1,r6.2.1,r6.2.2))))))) else(some (aA,bH,a1)))
mutual
def qj.f:Nat→af→Jq→Bool→Jq→Option (Jq×Bool×Jq)
 |0,_,_,_,_=>none
 |k+1,x1,aA,bH,a1=>(if(x1.ak=(1:Int)) then(if(x1.aG.toList=(ByteArray.mk #[46,46,46]).toList) then(some (aA,bH,a1)) else(if(x1.aG.toList=(ByteArray.mk #[95]).toList) then(some (aA,bH,a1)) else((q1n.f k aA (au x1)).bind fun r1=>(if r1=true then(some (aA,bH,a1)) else(qj.j4 k aA bH x1.ak x1.aG x1.aB x1.aI x1.aj a1))))) else(if(x1.ak=(3:Int)) then(qj.Rt k (qj.f k) (qj.t_ k) true aA bH x1.ak x1.aG x1.aB x1.aI x1.aj a1) else(qj.Rt k (qj.f k) (qj.t_ k) (decide (x1.ak=(4:Int))) aA bH x1.ak x1.aG x1.aB x1.aI x1.aj a1)))
def qj.t_:Nat→(Option af)→Int→Jq→Int→Int→Jq→Bool→Jq→Option (Jq×Bool×Jq)
 |0,_,_,_,_,_,_,_,_=>none
 |k+1,x5,x6,Yg,Yf,Vj,aA,bH,a1=>(if(Vj<Yf) then(if(0:Int)≤Vj then(if Vj<(Yg.length:Int) then((Am.f k (au (aF ah Yg Vj)) (ByteArray.mk #[46,46,46])).bind fun r1=>(if r1=true then(if bH=true then((qj.f k (au (aF ah Yg Vj)) aA true a1).bind fun r2=>(qj.t_ k x5 (i64.wrap (x6+(1:Int))) Yg Yf (i64.wrap (Vj+(1:Int))) r2.1 r2.2.1 r2.2.2)) else((qj.f k (au (aF ah Yg Vj)) aA (decide (Vj=(0:Int))) a1).bind fun r3=>(qj.t_ k x5 (i64.wrap (x6+(1:Int))) Yg Yf (i64.wrap (Vj+(1:Int))) r3.1 r3.2.1 r3.2.2))) else((qj.f k (au (aF ah Yg Vj)) aA bH a1).bind fun r4=>(qj.t_ k x5 x6 Yg Yf (i64.wrap (Vj+(1:Int))) r4.1 r4.2.1 r4.2.2)))) else none) else none) else(if bH=true then(qj.Bq k (qj.f k) (qj.t_ k) x5 aA true a1) else(qj.Bq k (qj.f k) (qj.t_ k) x5 aA (decide ((1:Int)<x6)) a1)))
end
def qj.j8 (k:Nat) (x55:Bool) (aA:Jq) (bH:Bool) (aU:Int) (bK:ByteArray) (b_:Jw) (bV:Int) (aX:Jq) (a2:Jq):Option (Jq×Bool×Jq):=qj.Rt k (qj.f k) (qj.t_ k) x55 aA bH aU bK b_ bV aX a2
def qj.j19 (k:Nat) (x5:(Option af)) (aA:Jq) (bH:Bool) (a1:Jq):Option (Jq×Bool×Jq):=qj.Bq k (qj.f k) (qj.t_ k) x5 aA bH a1
def N_.j3 (k:Nat) (x1:Jq) (aA:Int) (aC:ByteArray) (bH:Jw) (dA:Int) (aT:Jq):Option (Bool):=((qj.f k (af.mk aA aC bH dA aT) x1 false []).bind fun r1=>(some (decide (¬r1.2.1=true))))
def N_.f (k:Nat) (x0:af) (x1:Jq):Option (Bool):=((yX.f k (au x0)).bind fun r1=>(if(¬r1=true) then(some false) else((Jb.f k x1).bind fun r2=>(if(¬r2=true) then(some false) else((Am.f k (au x0) (ByteArray.mk #[46,46,46])).bind fun r3=>(if r3=true then(some false) else(N_.j3 k x1 x0.ak x0.aG x0.aB x0.aI x0.aj)))))))
def Jc.l2:Nat→Int→Jw→Int→Int→Option (Bool)
 |0,_,_,_,_=>none
 |k+1,x1,x7,x8,x9=>(if(x9<x8) then(if(0:Int)≤x9 then(if x9<(x7.length:Int) then(if((aF (0:Int) x7 x9)=x1) then(some true) else(Jc.l2 k x1 x7 x8 (i64.wrap (x9+(1:Int))))) else none) else none) else(some false))
def Jc.f (k:Nat) (x0:Jw) (x1:Int):Option (Bool):=(Jc.l2 k x1 x0 (x0.length:Int) (0:Int))
def IB.l2:Nat→Jw→Jw→Int→Int→Option (Bool)
 |0,_,_,_,_=>none
 |k+1,x1,x7,x8,x9=>(if(x9<x8) then(if(0:Int)≤x9 then(if x9<(x7.length:Int) then((Jc.f k x1 (aF (0:Int) x7 x9)).bind fun r1=>(if(¬r1=true) then(some false) else(IB.l2 k x1 x7 x8 (i64.wrap (x9+(1:Int)))))) else none) else none) else(some true))
def IB.f (k:Nat) (x0:Jw) (x1:Jw):Option (Bool):=(IB.l2 k x1 x0 (x0.length:Int) (0:Int))
mutual
def qv.Ey:Nat→Int→Jj→Option (ByteArray×Int)
 |0,_,_=>none
 |k+1,x9,a0=>(if((0:Int)≤x9) then(qv.l17 k x9 true (a0.length:Int) (0:Int) a0) else(some ((ByteArray.mk #[]),(2:Int))))
def qv.l17:Nat→Int→Bool→Int→Int→Jj→Option (ByteArray×Int)
 |0,_,_,_,_,_=>none
 |k+1,x9,x10,Tv,uf,a0=>(if(uf<Tv) then(if(0:Int)≤uf then(if uf<(a0.length:Int) then(if x10=true then(if(0:Int)≤x9 then(if x9<(a0.length:Int) then((IB.f k (a0.getD (uf.toNat) fC).aB (a0.getD (x9.toNat) fC).aB).bind fun r1=>(qv.l17 k x9 r1 Tv (i64.wrap (uf+(1:Int))) a0)) else none) else none) else(qv.l17 k x9 false Tv (i64.wrap (uf+(1:Int))) a0)) else none) else none) else(if x10=true then(if(0:Int)≤x9 then(if x9<(a0.length:Int) then(some ((a0.getD (x9.toNat) fC).aZ,(1:Int))) else none) else none) else(qv.Ey k (i64.wrap (x9-(1:Int))) a0)))
end
def qv.l5:Nat→Jj→Int→Int→ByteArray→Jw→Jj→Option (ByteArray×Int)
 |0,_,_,_,_,_,_=>none
 |k+1,x16,x17,x18,aC,bH,a1=>(if(x18<x17) then(if(0:Int)≤x18 then(if x18<(x16.length:Int) then(if((aF fC x16 x18).aG.toList=aC.toList) then((IB.f k (aF fC x16 x18).aB bH).bind fun r1=>(if r1=true then(if a1.length+ [(aF fC x16 x18)].length≤2513169434916 then(qv.l5 k x16 x17 (i64.wrap (x18+(1:Int))) aC bH (a1++ [(aF fC x16 x18)])) else none) else(qv.l5 k x16 x17 (i64.wrap (x18+(1:Int))) aC bH a1))) else(qv.l5 k x16 x17 (i64.wrap (x18+(1:Int))) aC bH a1)) else none) else none) else(if((a1.length:Int)=(0:Int)) then(some ((ByteArray.mk #[]),(0:Int))) else(qv.Ey k (i64.wrap ((a1.length:Int)-(1:Int))) a1)))
def qv.f (k:Nat) (x0:Jj) (x1:af):Option (ByteArray×Int):=(if(¬x1.ak=(1:Int)) then(some ((ByteArray.mk #[]),(0:Int))) else(qv.l5 k x0 (x0.length:Int) (0:Int) x1.aG x1.aB []))
def qk.j5 (k:Nat) (x2:Int) (Zh:Bool) (aA:Jq) (aC:Jj) (aU:Int) (bK:ByteArray) (b_:Jw) (bV:Int) (aX:Jq) (a2:Jz):Option (Jq×Jj×Jz):=(if Zh=true then((vS.f k (af.mk aU bK b_ bV aX)).bind fun r1=>(if a2.length+ [(aV.mk (au r1) x2 (af.mk (0:Int) ByteArray.empty [] (0:Int) []) [])].length≤733007751850 then(some (aA,aC,(a2++ [(aV.mk (au r1) x2 (af.mk (0:Int) ByteArray.empty [] (0:Int) []) [])]))) else none)) else(some (aA,aC,a2)))
def qk.Rt (k:Nat) (aa0:af→Int→Jq→Jj→Option (Jq×Jj×Jz)) (Oa:Int→Jq→(Option af)→Jq→Int→Int→Jq→Jj→Jz→Option (Jq×Jj×Jz)) (x2:Int) (x41:Bool) (aA:Jq) (aC:Jj) (aU:Int) (bK:ByteArray) (b_:Jw) (bV:Int) (aX:Jq) (a2:Jz):Option (Jq×Jj×Jz):=(if x41=true then((BL.f k (af.mk aU bK b_ bV aX)).bind fun r1=>(Oa x2 r1.1 r1.2 r1.1 (r1.1.length:Int) (0:Int) aA aC a2)) else(some (aA,aC,a2)))
def qk.Vk (k:Nat) (aa0:af→Int→Jq→Jj→Option (Jq×Jj×Jz)) (Oa:Int→Jq→(Option af)→Jq→Int→Int→Jq→Jj→Jz→Option (Jq×Jj×Jz)) (x2:Int) (x8:Jq) (x9:(Option af)) (x12:Int) (DY:Jq) (Tv:Int) (uf:Int) (aA:Jq) (aC:Jj) (a1:Jz) (aQ:Int) (a_:ByteArray) (bI:Jw) (bC:Int) (dH:Jq):Option (Jq×Jj×Jz):=((aa0 (af.mk aQ a_ bI bC dH) x12 aA aC).bind fun r1=>(if a1.length+r1.2.2.length≤733007751850 then(Oa x2 x8 x9 DY Tv (i64.wrap (uf+(1:Int))) r1.1 r1.2.1 (a1++r1.2.2)) else none))
mutual
def qk.f:Nat→af→Int→Jq→Jj→Option (Jq×Jj×Jz)
 |0,_,_,_,_=>none
 |k+1,x1,x2,aA,aC=>(if(x1.ak=(1:Int)) then(if(¬x1.aG.toList=(ByteArray.mk #[46,46,46]).toList) then(if(¬x1.aG.toList=(ByteArray.mk #[95]).toList) then((q1n.f k aA (au x1)).bind fun r1=>(qk.j5 k x2 (decide (¬r1=true)) aA aC x1.ak x1.aG x1.aB x1.aI x1.aj [])) else(qk.j5 k x2 false aA aC x1.ak x1.aG x1.aB x1.aI x1.aj [])) else(qk.j5 k x2 false aA aC x1.ak x1.aG x1.aB x1.aI x1.aj [])) else(if(x1.ak=(3:Int)) then(qk.Rt k (qk.f k) (qk.l10 k) x2 true aA aC x1.ak x1.aG x1.aB x1.aI x1.aj []) else(qk.Rt k (qk.f k) (qk.l10 k) x2 (decide (x1.ak=(4:Int))) aA aC x1.ak x1.aG x1.aB x1.aI x1.aj [])))
def qk.l10:Nat→Int→Jq→(Option af)→Jq→Int→Int→Jq→Jj→Jz→Option (Jq×Jj×Jz)
 |0,_,_,_,_,_,_,_,_,_=>none
 |k+1,x2,x8,x9,DY,Tv,uf,aA,aC,a1=>(if(uf<Tv) then(if(0:Int)≤uf then(if uf<(DY.length:Int) then(if((i64.wrap (uf+(1:Int)))<(x8.length:Int)) then(if(0:Int)≤(i64.wrap (uf+(1:Int))) then(if(i64.wrap (uf+(1:Int)))<(x8.length:Int) then((Am.f k (au (aF ah x8 (i64.wrap (uf+(1:Int))))) (ByteArray.mk #[46,46,46])).bind fun r1=>(if r1=true then(qk.Vk k (qk.f k) (qk.l10 k) x2 x8 x9 (i64.wrap (x2+(1:Int))) DY Tv uf aA aC a1 (aF ah DY uf).ak (aF ah DY uf).aG (aF ah DY uf).aB (aF ah DY uf).aI (aF ah DY uf).aj) else(qk.Vk k (qk.f k) (qk.l10 k) x2 x8 x9 x2 DY Tv uf aA aC a1 (aF ah DY uf).ak (aF ah DY uf).aG (aF ah DY uf).aB (aF ah DY uf).aI (aF ah DY uf).aj))) else none) else none) else(qk.Vk k (qk.f k) (qk.l10 k) x2 x8 x9 x2 DY Tv uf aA aC a1 (aF ah DY uf).ak (aF ah DY uf).aG (aF ah DY uf).aB (aF ah DY uf).aI (aF ah DY uf).aj)) else none) else none) else(if(Option.isSome x9=true) then((x9).bind fun y2=>((qk.f k (au y2) x2 aA aC).bind fun r3=>(if a1.length+r3.2.2.length≤733007751850 then(some (r3.1,r3.2.1,(a1++r3.2.2))) else none))) else(some (aA,aC,a1))))
end
def qk.j8 (k:Nat) (x2:Int) (x41:Bool) (aA:Jq) (aC:Jj) (aU:Int) (bK:ByteArray) (b_:Jw) (bV:Int) (aX:Jq) (a2:Jz):Option (Jq×Jj×Jz):=qk.Rt k (qk.f k) (qk.l10 k) x2 x41 aA aC aU bK b_ bV aX a2
def qk.j15 (k:Nat) (x2:Int) (x8:Jq) (x9:(Option af)) (x12:Int) (DY:Jq) (Tv:Int) (uf:Int) (aA:Jq) (aC:Jj) (a1:Jz) (aQ:Int) (a_:ByteArray) (bI:Jw) (bC:Int) (dH:Jq):Option (Jq×Jj×Jz):=qk.Vk k (qk.f k) (qk.l10 k) x2 x8 x9 x12 DY Tv uf aA aC a1 aQ a_ bI bC dH
def q8.d13 (k:Nat) (aA:Jq) (aC:Jj) (aU:Int) (bK:ByteArray) (b_:Jw) (bV:Int) (aX:Jq) (aQ:Int) (a_:ByteArray) (bI:Jw) (bC:Int) (dH:Jq):Option (Bool×Jq×Jj×Jz):=((vS.f k (af.mk aU bK b_ bV aX)).bind fun r1=>((vS.f k (af.mk aQ a_ bI bC dH)).bind fun r2=>(some (true,aA,aC,[(aV.mk (au r1) (0:Int) (au r2) [])]))))
def q8.j8 (k:Nat) (aA:Jq) (aC:Jj) (aU:Int) (bK:ByteArray) (b_:Jw) (bV:Int) (aX:Jq) (aQ:Int) (a_:ByteArray) (bI:Jw) (bC:Int) (dH:Jq):Option (Bool×Jq×Jj×Jz):=((qv.f k aC (af.mk aQ a_ bI bC dH)).bind fun r1=>((qv.f k aC (af.mk aU bK b_ bV aX)).bind fun r2=>(if(r1.2=(1:Int)) then(if(r2.2=(1:Int)) then(if(r1.1.toList=r2.1.toList) then(some (true,aA,aC,[])) else(if(r1.2=(0:Int)) then(if(r2.2=(0:Int)) then(some ((decide (a_.toList=bK.toList)),aA,aC,[])) else(some (false,aA,aC,[]))) else(some (false,aA,aC,[])))) else(if(r1.2=(0:Int)) then(if(r2.2=(0:Int)) then(some ((decide (a_.toList=bK.toList)),aA,aC,[])) else(some (false,aA,aC,[]))) else(some (false,aA,aC,[])))) else(if(r1.2=(0:Int)) then(if(r2.2=(0:Int)) then(some ((decide (a_.toList=bK.toList)),aA,aC,[])) else(some (false,aA,aC,[]))) else(some (false,aA,aC,[]))))))
def q8.zD (k:Nat) (KR:af→af→Jq→Jj→Option (Bool×Jq×Jj×Jz)) (uU:Jq→(Option af)→Jq→(Option af)→Int→Jq→Int→Int→Jq→Jj→Int→Option (Bool×Jq×Jj×Jz)) (uV:Jq→(Option af)→Jq→(Option af)→Int→Int→Int→Int→Jq→Jj→Jz→Option (Bool×Jq×Jj×Jz)) (w_:Jq→(Option af)→Jq→(Option af)→Int→Int→Int→Int→Int→Jq→Jj→Jz→Jz→Option (Bool×Jq×Jj×Jz)) (uX:Jq→(Option af)→Jq→(Option af)→Int→Int→Int→Int→Int→Int→Int→Jq→Jj→Jz→Jz→Jz→Option (Bool×Jq×Jj×Jz)) (x12:Jq) (eF:(Option af)) (x14:Jq) (x15:(Option af)) (aA:Jq) (aC:Jj) (aU:Int):Option (Bool×Jq×Jj×Jz):=(uU x12 eF x14 x15 (-1:Int) x12 (x12.length:Int) (0:Int) aA aC aU)
def q8.Vl (k:Nat) (KR:af→af→Jq→Jj→Option (Bool×Jq×Jj×Jz)) (uU:Jq→(Option af)→Jq→(Option af)→Int→Jq→Int→Int→Jq→Jj→Int→Option (Bool×Jq×Jj×Jz)) (uV:Jq→(Option af)→Jq→(Option af)→Int→Int→Int→Int→Jq→Jj→Jz→Option (Bool×Jq×Jj×Jz)) (w_:Jq→(Option af)→Jq→(Option af)→Int→Int→Int→Int→Int→Jq→Jj→Jz→Jz→Option (Bool×Jq×Jj×Jz)) (uX:Jq→(Option af)→Jq→(Option af)→Int→Int→Int→Int→Int→Int→Int→Jq→Jj→Jz→Jz→Jz→Option (Bool×Jq×Jj×Jz)) (x12:Jq) (eF:(Option af)) (x14:Jq) (x15:(Option af)) (x16:Int) (x19:Int) (aA:Jq) (aC:Jj):Option (Bool×Jq×Jj×Jz):=(uV x12 eF x14 x15 x16 x19 (0:Int) (0:Int) aA aC [])
def q8.Xq (k:Nat) (KR:af→af→Jq→Jj→Option (Bool×Jq×Jj×Jz)) (uU:Jq→(Option af)→Jq→(Option af)→Int→Jq→Int→Int→Jq→Jj→Int→Option (Bool×Jq×Jj×Jz)) (uV:Jq→(Option af)→Jq→(Option af)→Int→Int→Int→Int→Jq→Jj→Jz→Option (Bool×Jq×Jj×Jz)) (w_:Jq→(Option af)→Jq→(Option af)→Int→Int→Int→Int→Int→Jq→Jj→Jz→Jz→Option (Bool×Jq×Jj×Jz)) (uX:Jq→(Option af)→Jq→(Option af)→Int→Int→Int→Int→Int→Int→Int→Jq→Jj→Jz→Jz→Jz→Option (Bool×Jq×Jj×Jz)) (x12:Jq) (eF:(Option af)) (x14:Jq) (x15:(Option af)) (x16:Int) (x19:Int) (aA:Jq) (aC:Jj) (aU:Int):Option (Bool×Jq×Jj×Jz):=(if((x14.length:Int)<x19) then(some (false,aA,aC,[])) else(if(aU=(3:Int)) then(if(x16<(0:Int)) then(if(x19<(x14.length:Int)) then(some (false,aA,aC,[])) else(q8.Vl k KR uU uV w_ uX x12 eF x14 x15 x16 x19 aA aC)) else(q8.Vl k KR uU uV w_ uX x12 eF x14 x15 x16 x19 aA aC)) else(q8.Vl k KR uU uV w_ uX x12 eF x14 x15 x16 x19 aA aC)))
def q8.Zo (k:Nat) (KR:af→af→Jq→Jj→Option (Bool×Jq×Jj×Jz)) (uU:Jq→(Option af)→Jq→(Option af)→Int→Jq→Int→Int→Jq→Jj→Int→Option (Bool×Jq×Jj×Jz)) (uV:Jq→(Option af)→Jq→(Option af)→Int→Int→Int→Int→Jq→Jj→Jz→Option (Bool×Jq×Jj×Jz)) (w_:Jq→(Option af)→Jq→(Option af)→Int→Int→Int→Int→Int→Jq→Jj→Jz→Jz→Option (Bool×Jq×Jj×Jz)) (uX:Jq→(Option af)→Jq→(Option af)→Int→Int→Int→Int→Int→Int→Int→Jq→Jj→Jz→Jz→Jz→Option (Bool×Jq×Jj×Jz)) (x12:Jq) (eF:(Option af)) (x14:Jq) (x15:(Option af)) (x16:Int) (x19:Int) (xe:Int) (vI:Int) (Xr:Int) (x29:Int) (Ru:Int) (Oc:Int) (aA:Jq) (aC:Jj) (a1:Jz) (a2:Jz) (a3:Jz):Option (Bool×Jq×Jj×Jz):=(if(0:Int)≤x29 then(if x29<(a2.length:Int) then(if(0:Int)≤x29 then(if x29<(a3.length:Int) then(if(a2.getD (x29.toNat) az).aP.length+ [(aV.mk (af.mk (0:Int) (ByteArray.mk #[]) [] (0:Int) []) (0:Int) (af.mk (0:Int) (ByteArray.mk #[]) [] (0:Int) []) [])].length≤733007751850 then(if(0:Int)≤((a2.getD (x29.toNat) az).aP.length:Int) then(if((a2.getD (x29.toNat) az).aP.length:Int)<(((a2.getD (x29.toNat) az).aP++ [(aV.mk (af.mk (0:Int) (ByteArray.mk #[]) [] (0:Int) []) (0:Int) (af.mk (0:Int) (ByteArray.mk #[]) [] (0:Int) []) [])]).length:Int) then(if(0:Int)≤x29 then(if x29<(a2.length:Int) then(if(x29.toNat)=(x29.toNat) then(uX x12 eF x14 x15 x16 x19 xe vI Xr Ru (i64.wrap (Oc+(1:Int))) aA aC a1 (a2.set (x29.toNat) (aV.mk (au (a2.getD (x29.toNat) az).aZ) (a2.getD (x29.toNat) az).bu (au (a2.getD (x29.toNat) az).bY) (((a2.getD (x29.toNat) az).aP++ [(aV.mk (af.mk (0:Int) (ByteArray.mk #[]) [] (0:Int) []) (0:Int) (af.mk (0:Int) (ByteArray.mk #[]) [] (0:Int) []) [])]).set (((a2.getD (x29.toNat) az).aP.length:Int).toNat) (aV.mk (au (a3.getD (x29.toNat) az).aZ) (a3.getD (x29.toNat) az).bu (au (a3.getD (x29.toNat) az).bY) (a3.getD (x29.toNat) az).aP)))) a3) else none) else none) else none) else none) else none) else none) else none) else none) else none) else none)
def q8.Xt (k:Nat) (KR:af→af→Jq→Jj→Option (Bool×Jq×Jj×Jz)) (uU:Jq→(Option af)→Jq→(Option af)→Int→Jq→Int→Int→Jq→Jj→Int→Option (Bool×Jq×Jj×Jz)) (uV:Jq→(Option af)→Jq→(Option af)→Int→Int→Int→Int→Jq→Jj→Jz→Option (Bool×Jq×Jj×Jz)) (w_:Jq→(Option af)→Jq→(Option af)→Int→Int→Int→Int→Int→Jq→Jj→Jz→Jz→Option (Bool×Jq×Jj×Jz)) (uX:Jq→(Option af)→Jq→(Option af)→Int→Int→Int→Int→Int→Int→Int→Jq→Jj→Jz→Jz→Jz→Option (Bool×Jq×Jj×Jz)) (eF:(Option af)) (aA:Jq) (aC:Jj) (a1:Jz) (aQ:Int) (a_:ByteArray) (bI:Jw) (bC:Int) (dH:Jq):Option (Bool×Jq×Jj×Jz):=((eF).bind fun y1=>((KR (au y1) (af.mk aQ a_ bI bC dH) aA aC).bind fun r2=>(if(¬r2.1=true) then(some (false,r2.2.1,r2.2.2.1,[])) else(if a1.length+r2.2.2.2.length≤733007751850 then(some (true,r2.2.1,r2.2.2.1,(a1++r2.2.2.2))) else none))))
mutual
def q8.f:Nat→af→af→Jq→Jj→Option (Bool×Jq×Jj×Jz)
 |0,_,_,_,_=>none
 |k+1,x1,x2,aA,aC=>(if(x1.ak=(1:Int)) then((q1n.f k aA (au x1)).bind fun r1=>(if r1=true then(if(¬x2.ak=(1:Int)) then(some (false,aA,aC,[])) else(q8.j8 k aA aC x1.ak x1.aG x1.aB x1.aI x1.aj x2.ak x2.aG x2.aB x2.aI x2.aj)) else(if(x1.aG.toList=(ByteArray.mk #[95]).toList) then(some (true,aA,aC,[])) else(q8.d13 k aA aC x1.ak x1.aG x1.aB x1.aI x1.aj x2.ak x2.aG x2.aB x2.aI x2.aj)))) else(if(x1.ak=(2:Int)) then(if(x2.ak=(2:Int)) then(some ((decide (x2.aG.toList=x1.aG.toList)),aA,aC,[])) else(some (false,aA,aC,[]))) else((BL.f k (au x1)).bind fun r2=>((BL.f k (au x2)).bind fun r3=>(if(x1.ak=(3:Int)) then(if(¬x2.ak=(3:Int)) then(some (false,aA,aC,[])) else(q8.zD k (q8.f k) (q8.EE k) (q8.BP k) (q8.l46 k) (q8.KT k) r2.1 r2.2 r3.1 r3.2 aA aC x1.ak)) else(q8.zD k (q8.f k) (q8.EE k) (q8.BP k) (q8.l46 k) (q8.KT k) r2.1 r2.2 r3.1 r3.2 aA aC x1.ak))))))
def q8.EE:Nat→Jq→(Option af)→Jq→(Option af)→Int→Jq→Int→Int→Jq→Jj→Int→Option (Bool×Jq×Jj×Jz)
 |0,_,_,_,_,_,_,_,_,_,_,_=>none
 |k+1,x12,eF,x14,x15,x16,EN,Zp,Oe,aA,aC,aU=>(if(Oe<Zp) then(if(0:Int)≤Oe then(if Oe<(EN.length:Int) then((Am.f k (au (aF ah EN Oe)) (ByteArray.mk #[46,46,46])).bind fun r1=>(if r1=true then(q8.EE k x12 eF x14 x15 (i64.wrap (Oe-(1:Int))) EN Zp (i64.wrap (Oe+(1:Int))) aA aC aU) else(q8.EE k x12 eF x14 x15 x16 EN Zp (i64.wrap (Oe+(1:Int))) aA aC aU))) else none) else none) else(if((0:Int)≤x16) then(q8.Xq k (q8.f k) (q8.EE k) (q8.BP k) (q8.l46 k) (q8.KT k) x12 eF x14 x15 x16 (i64.wrap ((x12.length:Int)-(2:Int))) aA aC aU) else(q8.Xq k (q8.f k) (q8.EE k) (q8.BP k) (q8.l46 k) (q8.KT k) x12 eF x14 x15 x16 (x12.length:Int) aA aC aU)))
def q8.BP:Nat→Jq→(Option af)→Jq→(Option af)→Int→Int→Int→Int→Jq→Jj→Jz→Option (Bool×Jq×Jj×Jz)
 |0,_,_,_,_,_,_,_,_,_,_,_=>none
 |k+1,x12,eF,x14,x15,x16,x19,xe,vI,aA,aC,a1=>(if(vI<(x12.length:Int)) then(if(¬vI=x16) then(if(0:Int)≤vI then(if vI<(x12.length:Int) then(if(0:Int)≤xe then(if xe<(x14.length:Int) then((q8.f k (au (aF ah x12 vI)) (au (aF ah x14 xe)) aA aC).bind fun r1=>(if(¬r1.1=true) then(some (false,r1.2.1,r1.2.2.1,[])) else(if a1.length+r1.2.2.2.length≤733007751850 then(q8.BP k x12 eF x14 x15 x16 x19 (i64.wrap (xe+(1:Int))) (i64.wrap (vI+(1:Int))) r1.2.1 r1.2.2.1 (a1++r1.2.2.2)) else none))) else none) else none) else none) else none) else(if(0:Int)≤x16 then(if x16<(x12.length:Int) then((qk.f k (au (aF ah x12 x16)) (1:Int) aA aC).bind fun r2=>(q8.l46 k x12 eF x14 x15 x16 x19 xe (i64.wrap (vI+(1:Int))) (i64.wrap ((x14.length:Int)-x19)) r2.1 r2.2.1 a1 r2.2.2)) else none) else none)) else(if(Option.isSome eF=false) then(some (true,aA,aC,a1)) else(if(0:Int)≤xe then(if xe≤(x14.length:Int) then(if(x14.length:Int)≤(x14.length:Int) then(if(Option.isSome x15=true) then(if(0:Int)≤xe then(if xe≤(x14.length:Int) then(if(x14.length:Int)≤(x14.length:Int) then((x15).bind fun y3=>((F5.f k ((x14.take (x14.length:Int).toNat).drop xe.toNat) (au y3)).bind fun r4=>(q8.Xt k (q8.f k) (q8.EE k) (q8.BP k) (q8.l46 k) (q8.KT k) eF aA aC a1 r4.ak r4.aG r4.aB r4.aI r4.aj))) else none) else none) else none) else(q8.Xt k (q8.f k) (q8.EE k) (q8.BP k) (q8.l46 k) (q8.KT k) eF aA aC a1 (3:Int) ByteArray.empty [] (0:Int) ((x14.take (x14.length:Int).toNat).drop xe.toNat))) else none) else none) else none)))
def q8.l46:Nat→Jq→(Option af)→Jq→(Option af)→Int→Int→Int→Int→Int→Jq→Jj→Jz→Jz→Option (Bool×Jq×Jj×Jz)
 |0,_,_,_,_,_,_,_,_,_,_,_,_,_=>none
 |k+1,x12,eF,x14,x15,x16,x19,xe,vI,Xr,aA,aC,a1,a2=>(if((0:Int)<Xr) then(if(0:Int)≤x16 then(if x16<(x12.length:Int) then(if(0:Int)≤xe then(if xe<(x14.length:Int) then((q8.f k (au (aF ah x12 x16)) (au (aF ah x14 xe)) aA aC).bind fun r1=>(if(¬r1.1=true) then(some (false,r1.2.1,r1.2.2.1,[])) else(q8.KT k x12 eF x14 x15 x16 x19 xe vI Xr (a2.length:Int) (0:Int) r1.2.1 r1.2.2.1 a1 a2 r1.2.2.2))) else none) else none) else none) else none) else(if a1.length+a2.length≤733007751850 then(q8.BP k x12 eF x14 x15 x16 x19 xe (i64.wrap (vI+(1:Int))) aA aC (a1++a2)) else none))
def q8.KT:Nat→Jq→(Option af)→Jq→(Option af)→Int→Int→Int→Int→Int→Int→Int→Jq→Jj→Jz→Jz→Jz→Option (Bool×Jq×Jj×Jz)
 |0,_,_,_,_,_,_,_,_,_,_,_,_,_,_,_,_=>none
 |k+1,x12,eF,x14,x15,x16,x19,xe,vI,Xr,Ru,Oc,aA,aC,a1,a2,a3=>(if(Oc<Ru) then(q8.Zo k (q8.f k) (q8.EE k) (q8.BP k) (q8.l46 k) (q8.KT k) x12 eF x14 x15 x16 x19 xe vI Xr Oc Ru Oc aA aC a1 a2 a3) else(q8.l46 k x12 eF x14 x15 x16 x19 (i64.wrap (xe+(1:Int))) vI (i64.wrap (Xr-(1:Int))) aA aC a1 a2))
end
def q8.j20 (k:Nat) (x12:Jq) (eF:(Option af)) (x14:Jq) (x15:(Option af)) (aA:Jq) (aC:Jj) (aU:Int):Option (Bool×Jq×Jj×Jz):=q8.zD k (q8.f k) (q8.EE k) (q8.BP k) (q8.l46 k) (q8.KT k) x12 eF x14 x15 aA aC aU
def q8.j30 (k:Nat) (x12:Jq) (eF:(Option af)) (x14:Jq) (x15:(Option af)) (x16:Int) (x19:Int) (aA:Jq) (aC:Jj) (aU:Int):Option (Bool×Jq×Jj×Jz):=q8.Xq k (q8.f k) (q8.EE k) (q8.BP k) (q8.l46 k) (q8.KT k) x12 eF x14 x15 x16 x19 aA aC aU
def q8.j32 (k:Nat) (x12:Jq) (eF:(Option af)) (x14:Jq) (x15:(Option af)) (x16:Int) (x19:Int) (aA:Jq) (aC:Jj):Option (Bool×Jq×Jj×Jz):=q8.Vl k (q8.f k) (q8.EE k) (q8.BP k) (q8.l46 k) (q8.KT k) x12 eF x14 x15 x16 x19 aA aC
def q8.d54 (k:Nat) (x12:Jq) (eF:(Option af)) (x14:Jq) (x15:(Option af)) (x16:Int) (x19:Int) (xe:Int) (vI:Int) (Xr:Int) (x29:Int) (Ru:Int) (Oc:Int) (aA:Jq) (aC:Jj) (a1:Jz) (a2:Jz) (a3:Jz):Option (Bool×Jq×Jj×Jz):=q8.Zo k (q8.f k) (q8.EE k) (q8.BP k) (q8.l46 k) (q8.KT k) x12 eF x14 x15 x16 x19 xe vI Xr x29 Ru Oc aA aC a1 a2 a3
def q8.j63 (k:Nat) (eF:(Option af)) (aA:Jq) (aC:Jj) (a1:Jz) (aQ:Int) (a_:ByteArray) (bI:Jw) (bC:Int) (dH:Jq):Option (Bool×Jq×Jj×Jz):=q8.Xt k (q8.f k) (q8.EE k) (q8.BP k) (q8.l46 k) (q8.KT k) eF aA aC a1 aQ a_ bI bC dH
noncomputable def Jd.l4:Nat→Jj→Jv→Int→Int→Jq→Int→ByteArray→Jw→Int→Jq→Option (af×Int)
 |0,_,_,_,_,_,_,_,_,_,_=>none
 |k+1,x2,xe,vI,Yh,aA,aU,bK,b_,bV,aX=>(if(Yh<vI) then(if(0:Int)≤Yh then(if Yh<(xe.length:Int) then((N_.f k (au (aF kH xe Yh).bz) aA).bind fun r1=>(if(¬r1=true) then(Jd.l4 k x2 xe vI (i64.wrap (Yh+(1:Int))) aA aU bK b_ bV aX) else((q8.f k (au (aF kH xe Yh).bz) (af.mk aU bK b_ bV aX) aA x2).bind fun r2=>(if(¬r2.1=true) then(Jd.l4 k x2 xe vI (i64.wrap (Yh+(1:Int))) aA aU bK b_ bV aX) else((EC.f k (au (aF kH xe Yh).f_) r2.2.2.2).bind fun r3=>(if(¬r3.2=true) then(some ((af.mk (0:Int) ByteArray.empty [] (0:Int) []),(6:Int))) else(some ((au r3.1),(0:Int))))))))) else none) else none) else(some ((af.mk (0:Int) ByteArray.empty [] (0:Int) []),(2:Int))))
noncomputable def Jd.f (k:Nat) (x0:dL) (x1:af) (x2:Jj):Option (af×Int):=((yX.f k (au x1)).bind fun r1=>(if(¬r1=true) then(some ((af.mk (0:Int) ByteArray.empty [] (0:Int) []),(2:Int))) else(Jd.l4 k x2 x0.fK (x0.fK.length:Int) (0:Int) x0.bF x1.ak x1.aG x1.aB x1.aI x1.aj)))
noncomputable def q32.f (k:Nat) (x0:dL) (x1:af) (x2:Jj):Option (af×Int):=((Jd.f k x0 (au x1) x2).bind fun r1=>(some ((au r1.1),r1.2)))
noncomputable def zG.uP (k:Nat) (Zq:Jj→Int→Jq→Jv→Int→ByteArray→Jw→Int→Jq→Jq→Jq→Option (af×Int×Jq×Jq)) (x2:Jj) (x12:Int) (aA:Jq) (aC:Jv) (aU:Int) (bK:ByteArray) (b_:Jw) (bV:Int) (aX:Jq) (a3:Jq) (a4:Jq):Option (af×Int×Jq×Jq):=(if(0:Int)≤x12 then(if x12<(aC.length:Int) then((qe.f k (au (aF kH aC x12).bz) (af.mk aU bK b_ bV aX) aA x2 [] []).bind fun r1=>(if a3.length+r1.2.2.2.2.1.length≤1759218604441 then(if a4.length+r1.2.2.2.2.2.length≤1759218604441 then(if(¬r1.1=true) then(Zq x2 (i64.wrap (x12+(1:Int))) aA aC aU bK b_ bV aX (a3++r1.2.2.2.2.1) (a4++r1.2.2.2.2.2)) else(if(0:Int)≤x12 then(if x12<(aC.length:Int) then((I9.f k (au (aF kH aC x12).f_) r1.2.2.2.1).bind fun r2=>(if(¬r2.2=true) then(some ((af.mk (0:Int) ByteArray.empty [] (0:Int) []),(6:Int),(a3++r1.2.2.2.2.1),(a4++r1.2.2.2.2.2))) else(some ((au r2.1),(0:Int),(a3++r1.2.2.2.2.1),(a4++r1.2.2.2.2.2))))) else none) else none)) else none) else none)) else none) else none)
noncomputable def zG.l4:Nat→Jj→Int→Jq→Jv→Int→ByteArray→Jw→Int→Jq→Jq→Jq→Option (af×Int×Jq×Jq)
 |0,_,_,_,_,_,_,_,_,_,_,_=>none
 |k+1,x2,x12,aA,aC,aU,bK,b_,bV,aX,a3,a4=>(if(x12<(aC.length:Int)) then(if(0:Int)≤x12 then(if x12<(aC.length:Int) then((yl.f k (au (aF kH aC x12).bz) aA).bind fun r1=>(if(¬r1=true) then(zG.l4 k x2 (i64.wrap (x12+(1:Int))) aA aC aU bK b_ bV aX a3 a4) else((q13.f k (af.mk aU bK b_ bV aX)).bind fun r2=>(if(¬r2=true) then(zG.l4 k x2 (i64.wrap (x12+(1:Int))) aA aC aU bK b_ bV aX a3 a4) else(zG.uP k (zG.l4 k) x2 x12 aA aC aU bK b_ bV aX a3 a4))))) else none) else none) else(some ((af.mk (0:Int) ByteArray.empty [] (0:Int) []),(2:Int),a3,a4)))
noncomputable def zG.j7 (k:Nat) (x2:Jj) (x12:Int) (aA:Jq) (aC:Jv) (aU:Int) (bK:ByteArray) (b_:Jw) (bV:Int) (aX:Jq) (a3:Jq) (a4:Jq):Option (af×Int×Jq×Jq):=zG.uP k (zG.l4 k) x2 x12 aA aC aU bK b_ bV aX a3 a4
noncomputable def zG.f (k:Nat) (x0:dL) (x1:af) (x2:Jj):Option (af×Int×Jq×Jq):=(zG.l4 k x2 (0:Int) x0.bF x0.fK x1.ak x1.aG x1.aB x1.aI x1.aj [] [])
noncomputable def q30.f (k:Nat) (x0:dL) (x1:af) (x2:Jj):Option (af×Int):=((zG.f k x0 (au x1) x2).bind fun r1=>(some ((au r1.1),r1.2.1)))
noncomputable def A8.j12 (k:Nat) (x1:Jw):Option (Bool):=((yt.f k x1).bind fun r1=>((q32.f k r1.1 (au r1.2.1) r1.2.2).bind fun r2=>((q30.f k r1.1 (au r1.2.1) r1.2.2).bind fun r3=>(if(r2.2=r3.2) then((Iz.f k (au r2.1) (au r3.1)).bind fun r4=>(if r4=true then(some (decide ((decide (r2.2=(0:Int)))=(decide (¬r2.1.ak=(0:Int)))))) else(some false))) else(some false)))))
noncomputable def A8.j8 (k:Nat) (x1:Jw):Option (Bool):=((Vf.f k x1).bind fun r1=>((EC.f k (au r1) []).bind fun r2=>((q13.f k (au r1)).bind fun r3=>(if(¬r2.2=r3) then(some false) else(if r2.2=true then((Iz.f k (au r2.1) (au r1)).bind fun r4=>(if(¬r4=true) then(some false) else(A8.j12 k x1))) else(A8.j12 k x1))))))
noncomputable def A8.j3 (k:Nat) (x0:Jw) (x1:Jw):Option (Bool):=((qz.f k x0).bind fun r1=>((EC.f k (au r1.1) r1.2).bind fun r2=>((I9.f k (au r1.1) r1.2).bind fun r3=>(if(¬r2.2=r3.2) then(some false) else((Iz.f k (au r2.1) (au r3.1)).bind fun r4=>(if(¬r4=true) then(some false) else(if r2.2=true then((yX.f k (au r2.1)).bind fun r5=>(if(¬r5=true) then(some false) else(A8.j8 k x1))) else(A8.j8 k x1))))))))
noncomputable def A8.f (k:Nat) (x0:Jw) (x1:Jw):Option (Bool):=(if((1048576:Int)<(x0.length:Int)) then(some true) else(if((1048576:Int)<(x1.length:Int)) then(some true) else(A8.j3 k x0 x1)))
end
section
open Go Go.RowKit
def jf.ow (G:jf) (o:Option (List TypeId)):jf:={G with own:=o}
section
variable {G:jf} {o:Option (List TypeId)} {Z:Nat→Nat→Prop} {w:World} {pl:Nat→Value} {nx:Nat}
theorem bP.cv {t:Ty} {x:G.D t} {cs:List Value} (h:bP G Z w t x cs):bP (G.ow o) Z w t x cs:=by
 refine bP.rec (G:=G) (Z:=Z) (w:=w) (motive_1:=fun t x cs _=>bP (G.ow o) Z w t x cs) (motive_2:=fun ts h cs _=>oV (G.ow o) Z w ts h cs) ?_ ?_ ?_ ?_ ?_ ?_ ?_ ?_ ?_ h
 ·exact fun k x=>bP.int (G:=G.ow o) k x
 ·exact fun b=>bP.bool (G:=G.ow o) b
 ·exact fun s=>bP.str (G:=G.ow o) s
 ·intro e t xs A c b i cs hc hA hl hz hr ih;exact bP.sl (G:=G.ow o) e t xs A c b i cs hc hA hl hz ih
 ·exact fun s x cs _ ih=>bP.st (G:=G.ow o) s x cs ih
 ·exact fun t=>bP.pn (G:=G.ow o) t
 ·exact fun t x b i cs hl hz _ ih=>bP.ps (G:=G.ow o) t x b i cs hl hz ih
 ·exact oV.nil (G:=G.ow o)
 ·exact fun t ts h cs cs' hl _ _ i1 i2=>oV.cons (G:=G.ow o) t ts h cs cs' hl i1 i2
theorem bP.vc {t:Ty} {x:G.D t} {cs:List Value} (h:bP (G.ow o) Z w t x cs):bP G Z w t x cs:=bP.cv (G:=G.ow o) (o:=G.own) h
def yu (o:Option (List TypeId)) (v:TV G):TV (G.ow o):=⟨v.t,v.x⟩
def Tz (o:Option (List TypeId)):bD G→bD (G.ow o)
 | .val t x=> .val t x
 | .kb b=> .kb b
 | .prop p d=> .prop p d
 | .lN=> .lN
 | .full e t x=> .full e t x
 | .h_ i=> .h_ i
 | .ptr i off=> .ptr i off
 | .oU t x=> .oU t x
 | .jG i j z off=> .jG i j z off
 | .oh=> .oh
 | .ji=> .ji
 | .fn f caps=> .fn f caps
 | .nS=> .nS
 | .kR i=> .kR i
 | .qU=> .qU
 | .raw n j=> .raw n j
 | .xH i k z=> .xH i k z
theorem mQ.cv {l:bD G} {v:Value}:mQ Z w pl nx (Tz o l) v↔mQ Z w pl nx l v:=by
 cases l with
 |val t x=>exact⟨bP.vc,bP.cv⟩
 |full e t x=>exact⟨fun h=>⟨bP.vc h.1,h.2⟩,fun h=>⟨bP.cv h.1,h.2⟩⟩
 |oU t x=>exact⟨fun⟨b,i,cs,h1,h2,h3,h4⟩=>⟨b,i,cs,h1,h2,h3,bP.vc h4⟩,fun⟨b,i,cs,h1,h2,h3,h4⟩=>⟨b,i,cs,h1,h2,h3,bP.cv h4⟩⟩
 |_=>exact Iff.rfl
theorem dS.cv: ∀{ls:List (bD G)} {vs:List Value},dS Z w pl nx (ls.map (Tz o)) vs↔dS Z w pl nx ls vs
 | [],vs=>Iff.rfl
 |l::ls,vs=>by
  constructor
  ·rintro⟨v,vs',e,⟨h1,h2⟩,h3⟩;exact⟨v,vs',e,⟨mQ.cv.1 h1,h2⟩,dS.cv.1 h3⟩
  ·rintro⟨v,vs',e,⟨h1,h2⟩,h3⟩;exact⟨v,vs',e,⟨mQ.cv.2 h1,h2⟩,dS.cv.2 h3⟩
def svC (o:Option (List TypeId)):SV G→SV (G.ow o)
 | .one l=> .one (Tz o l)
 | .agg ls=> .agg (ls.map (Tz o))
theorem lU.cv {s:SV G} {v:Value}:lU Z w pl nx (svC o s) v↔lU Z w pl nx s v:=by
 cases s with
 |one l=>exact⟨fun h=>⟨mQ.cv.1 h.1,h.2⟩,fun h=>⟨mQ.cv.2 h.1,h.2⟩⟩
 |agg ls=>exact⟨fun⟨cs,e,h⟩=>⟨cs,e,dS.cv.1 h⟩,fun⟨cs,e,h⟩=>⟨cs,e,dS.cv.2 h⟩⟩
theorem oW.cv: ∀{ls:List (SV G)} {vs:List Value},oW Z w pl nx (ls.map (svC o)) vs↔oW Z w pl nx ls vs
 | [],vs=>Iff.rfl
 |l::ls,vs=>by
  constructor
  ·rintro⟨v,vs',e,h1,h3⟩;exact⟨v,vs',e,lU.cv.1 h1,oW.cv.1 h3⟩
  ·rintro⟨v,vs',e,h1,h3⟩;exact⟨v,vs',e,lU.cv.2 h1,oW.cv.2 h3⟩
def dvC (o:Option (List TypeId)):DV G→DV (G.ow o)
 | .sv s=> .sv (svC o s)
 | .yZ l=> .yZ (l.map (svC o))
 | .und=> .und
 | .nS=> .nS
theorem eU.cv {d:DV G} {v:Value}:eU Z w pl nx (dvC o d) v↔eU Z w pl nx d v:=by
 cases d with
 |sv s=>exact lU.cv
 |yZ l=>exact⟨fun⟨vs,e,h⟩=>⟨vs,e,oW.cv.1 h⟩,fun⟨vs,e,h⟩=>⟨vs,e,oW.cv.2 h⟩⟩
 |und=>exact Iff.rfl
 |nS=>exact Iff.rfl
def obC (o:Option (List TypeId)):Ob G→Ob (G.ow o)
 | .cells ro ls=> .cells ro (ls.map (Tz o))
 |_=> .dead
theorem get_map {α β:Type} (f:α→β): ∀(l:List (Nat×α)) (n:Nat),get (l.map fun p=>(p.1,f p.2)) n=(get l n).map f
 | [],n=>rfl
 |(k,v)::r,n=>by
  rw[List.map_cons,bn,bn,get_map f r n]
  split<;>rfl
def Vars (objs:List (Nat×Ob G)):Prop:= ∀i b,get objs i=some b→ ∃ro ls,b= .cells ro ls
def Rw (o:Option (List TypeId)) (objs:List (Nat×Ob G)):List (Nat×Ob (G.ow o)):=objs.map fun p=>(p.1,obC o p.2)
theorem oH {objs:List (Nat×Ob G)} (hv:Vars objs) {i:Nat} {b:Ob (G.ow o)}:get (Rw o objs) i=some b↔ ∃ro ls,get objs i=some (.cells ro ls)∧b= .cells ro (ls.map (Tz o)):=by
 unfold Rw;rw[get_map];constructor
 ·intro h;cases hg:get objs i with
  |none=>rw[hg]at h;cases h
  |some c=>
   obtain⟨ro,ls,rfl⟩:=hv i c hg;rw[hg]at h;injection h with h
   exact⟨ro,ls,rfl,h.symm⟩
 ·rintro⟨ro,ls,h,rfl⟩;rw[h];rfl
theorem nT.cv {i:Nat} {ro:List Nat} {ls:List (bD G)}:nT Z w pl nx i (.cells ro (ls.map (Tz o)):Ob (G.ow o))↔nT Z w pl nx i (.cells ro ls:Ob G):=
 ⟨fun⟨b,T,cs,h1,h2,h3⟩=>⟨b,T,cs,h1,h2,dS.cv.1 h3⟩,fun⟨b,T,cs,h1,h2,h3⟩=>⟨b,T,cs,h1,h2,dS.cv.2 h3⟩⟩
theorem Mem.cv {W:fA} {w0:World} {objs:List (Nat×Ob G)} (hv:Vars objs):Mem W w0 Z pl (Rw o objs) nx w↔Mem W w0 Z pl objs nx w:=by
 constructor
 ·intro M;have up: ∀{i:Nat} {b:Ob G},get objs i=some b→ ∃ro ls,b= .cells ro ls∧get (Rw o objs) i=some (.cells ro (ls.map (Tz o))):=fun h=>by
   obtain⟨ro,ls,rfl⟩:=hv _ _ h;exact⟨ro,ls,rfl,(oH hv).2 ⟨ro,ls,h,rfl⟩⟩
  obtain⟨f,T⟩:=M.tr;refine⟨fun i b h=> ?_,fun i b h=> ?_,fun i i' b b' k h l h' l'=> ?_,fun i b k h l=> ?_,fun i b k h l=> ?_,M.qL,M.zn,M.z0,M.fx,M.fr,f,fun i b h=> ?_,T.nd,T.sep,fun i k i' b hk h l=> ?_,T.own,T.dU,T.lt⟩
  ·obtain⟨ro,ls,_,h'⟩:=up h;exact M.lt _ _ h'
  ·obtain⟨ro,ls,rfl,h'⟩:=up h;exact nT.cv.1 (M.ob _ _ h')
  ·obtain⟨ro,ls,rfl,h1⟩:=up h;obtain⟨ro',ls',rfl,h2⟩:=up h';exact M.sep _ _ _ _ _ h1 rfl h2 rfl
  ·obtain⟨ro,ls,rfl,h1⟩:=up h;exact fun hb=>by simpa [Own]using M.own _ _ _ h1 rfl hb
  ·obtain⟨ro,ls,rfl,h1⟩:=up h;exact M.dU _ _ _ h1 rfl
  ·obtain⟨ro,ls,rfl,h1⟩:=up h;trivial
  ·obtain⟨ro,ls,rfl,h1⟩:=up h;exact T.root _ _ _ _ hk h1 rfl
 ·intro M;obtain⟨f,T⟩:=M.tr;refine⟨fun i b h=> ?_,fun i b h=> ?_,fun i i' b b' k h l h' l'=> ?_,fun i b k h l=> ?_,fun i b k h l=> ?_,M.qL,M.zn,M.z0,M.fx,M.fr,f,fun i b h=> ?_,T.nd,T.sep,fun i k i' b hk h l=> ?_,T.own,T.dU,T.lt⟩
  ·obtain⟨ro,ls,h',_⟩:=(oH hv).1 h;exact M.lt _ _ h'
  ·obtain⟨ro,ls,h',rfl⟩:=(oH hv).1 h;exact nT.cv.2 (M.ob _ _ h')
  ·obtain⟨ro,ls,h1,rfl⟩:=(oH hv).1 h;obtain⟨ro',ls',h2,rfl⟩:=(oH hv).1 h';exact M.sep _ _ _ _ _ h1 rfl h2 rfl
  ·obtain⟨ro,ls,h1,rfl⟩:=(oH hv).1 h;exact fun hb=>by simpa [Own]using M.own _ _ _ h1 rfl hb
  ·obtain⟨ro,ls,h1,rfl⟩:=(oH hv).1 h;exact M.dU _ _ _ h1 rfl
  ·obtain⟨ro,ls,h1,rfl⟩:=(oH hv).1 h;trivial
  ·obtain⟨ro,ls,h1,rfl⟩:=(oH hv).1 h;exact T.root _ _ _ _ hk h1 rfl
theorem lS.cv (f:Nat→Nat) (p:iP) (vs:List (TV G)):lS f p (vs.map (yu o))=(Tz o (lS f p vs).1,(lS f p vs).2.map (yu o)):=by
 cases p with
 |val t=>cases vs<;>rfl
 |_=>rfl
theorem eG.cv (f:Nat→Nat): ∀(ps:List iP) (vs:List (TV G)),eG f ps (vs.map (yu o))=((eG f ps vs).1.map (Tz o),(eG f ps vs).2.map (yu o))
 | [],vs=>rfl
 |p::ps,vs=>by
  simp only[eG,lS.cv f p vs,eG.cv f ps,List.map_cons]
theorem kL.cv: ∀(ts:List Ty) (h:Fs G.S ts),kL (G:=G.ow o) ts h=(kL (G:=G) ts h).map (yu o)
 | [],h=>rfl
 |t::ts,h=>by
  have:=kL.cv ts h.2;simp only[kL,List.map_cons];rw[←this]
  rfl
theorem dJ.cv: ∀(n:Nat) (l:List (TV G)),dJ (G:=G.ow o) n (l.map (yu o))=(dJ n l).map (List.map (Tz o))
 |0,[]=>rfl
 |0,_::_=>rfl
 |_+1,[]=>rfl
 |n+1,⟨t,x⟩::r=>by
  have h2:=dJ.cv n r;have plain:(∀s,t≠ .st s)→dJ (G:=G.ow o) (n+1) (yu o ⟨t,x⟩::r.map (yu o))=(dJ (n+1) (⟨t,x⟩::r)).map (List.map (Tz o)):=by
   intro hn;have e1:dJ (n+1) ((⟨t,x⟩:TV G)::r)=match dJ n r with|some b=>some (.val t x::b)|none=>none:=by
    cases t with
    |st s=>exact absurd rfl (hn s)
    |_=>rfl
   have e2:dJ (G:=G.ow o) (n+1) (yu o ⟨t,x⟩::r.map (yu o))=match dJ (G:=G.ow o) n (r.map (yu o)) with|some b=>some (.val t x::b)|none=>none:=by
    cases t with
    |st s=>exact absurd rfl (hn s)
    |_=>simp only[yu,dJ];cases dJ (G:=G.ow o) n (r.map (yu o))<;>rfl
   rw[e1,e2,h2];cases dJ n r<;>rfl
  cases t with
  |st s=>
   have h1:=dJ.cv n (kL (G.fs s) (G.op s x));have hc:kL (G:=G.ow o) ((G.ow o).fs s) ((G.ow o).op s x)=(kL (G.fs s) (G.op s x)).map (yu o):=kL.cv (G:=G) (o:=o) (G.fs s) (G.op s x);simp only[List.map_cons,yu,dJ];rw[hc,h1,h2];cases dJ n (kL (G.fs s) (G.op s x)) with
   |none=>rfl
   |some a=>
    cases dJ n r with
    |none=>rfl
    |some b=>simp
  |_=>exact plain (by intro s h;cases h)
theorem ni.cv (v:TV G):ni (yu o v)=(ni v).map (svC o):=by
 obtain⟨t,x⟩:=v;cases t with
 |st s=>
  have h:=dJ.cv (o:=o) 99 (kL (G.fs s) (G.op s x));have hc:kL (G:=G.ow o) ((G.ow o).fs s) ((G.ow o).op s x)=(kL (G.fs s) (G.op s x)).map (yu o):=kL.cv (G:=G) (o:=o) (G.fs s) (G.op s x);simp only[yu,ni];rw[hc,h];cases dJ 99 (kL (G.fs s) (G.op s x))<;>rfl
 |_=>rfl
def yw:List jY→Bool
 | []=>true
 | .cells _ _::r=>yw r
 |_::_=>false
theorem fU.cv (f:Nat→Nat): ∀(ps:List (Nat×yT)) (vs:List (TV G)),fU f ps (vs.map (yu o))=((fU f ps vs).1.map (fun p=>(p.1,dvC o p.2)),(fU f ps vs).2.map (yu o))
 | [],vs=>rfl
 |(t,.one p)::ps,vs=>by
  simp only[fU,GY,lS.cv f p vs,fU.cv f ps _,List.map_cons]
  rfl
 |(t,.agg p)::ps,vs=>by
  simp only[fU,GY,eG.cv f p vs,fU.cv f ps _,List.map_cons]
  rfl
 |(t,.st s)::ps,[]=>by
  have:=fU.cv f ps ([]:List (TV G));rw[List.map_nil]at this⊢;simp only[fU,GY,this,List.map_cons]
  rfl
 |(t,.st s)::ps,v::vs=>by
  simp only[fU,GY,List.map_cons,ni.cv,fU.cv f ps vs];cases ni v<;>rfl
theorem gu.cv (f:Nat→Nat): ∀(j:Nat) (ps:List jY) (vs:List (TV G)),yw ps=true→(gu f j ps (vs.map (yu o))).1=Rw o (gu f j ps vs).1
 |j,[],vs,_=>rfl
 |j,.cells ro pl::ps,vs,h=>by
  have:=gu.cv f (j+1) ps (eG f pl vs).2 (show yw ps=true from h)
  simp only[gu,eG.cv f pl vs];rw[this]
  rfl
theorem gu.vars (f:Nat→Nat): ∀(j:Nat) (ps:List jY) (vs:List (TV G)),yw ps=true→Vars (gu f j ps vs).1
 |j,[],vs,_=>fun i b h=>by cases h
 |j,.cells ro pl::ps,vs,h=>by
  have ih:=gu.vars f (j+1) ps (eG f pl vs).2 (show yw ps=true from h)
  intro i b hb;simp only[gu]at hb;rw[bn]at hb
  split at hb
  ·injection hb with hb;exact⟨_,_,hb.symm⟩
  ·exact ih i b hb
theorem qV.cv: ∀(ts:List Ty) (t:Ty) (h:Yq G.S t ts),qV (G:=G.ow o) ts t h=(qV (G:=G) ts t h).map (yu o)
 | [],t,h=>rfl
 |t'::ts,t,h=>by
  have:=qV.cv ts t' h.2;simp only[qV,List.map_cons];rw[←this]
  rfl
theorem eY.cv (ts:List Ty) (h:HL G.S ts):eY (G:=G.ow o) ts h=(eY (G:=G) ts h).map (yu o):=by
 cases ts with
 |nil=>rfl
 |cons t ts=>exact qV.cv ts t h
theorem cZ.cvt (p:GX) (vs:List (TV G)):(cZ p (vs.map (yu o))).tmps=(cZ p vs).tmps.map fun q=>(q.1,dvC o q.2):=by
 simp only[cZ,fU.cv _ p.tmps vs]
theorem cZ.cvo (p:GX) (vs:List (TV G)) (h':yw p.objs=true):(cZ p (vs.map (yu o))).objs=Rw o (cZ p vs).objs:=by
 simp only[cZ,fU.cv _ p.tmps vs,gu.cv _ 0 p.objs _ h']
theorem cZ.vars (p:GX) (vs:List (TV G)) (h':yw p.objs=true):Vars (cZ p vs).objs:=gu.vars _ 0 p.objs _ h'
def Ct.ow (c:Ct G) (o:Option (List TypeId)):Ct (G.ow o):=⟨c.br,c.ip,c.rp,c.its,c.oq,c.F⟩
theorem Ct.Holds.cv {P:Program} {f:FuncId} {c:Ct G} (H:c.Holds P f) (hb:ZU (c.ow o)=true:=by kernel_rfl) (h2:yw c.ip.objs=true:=by kernel_rfl) (h4:yw c.rp.objs=true:=by kernel_rfl):(c.ow o).Holds P f where
 wf:=H.wf
 keys:=H.keys
 Pj:=fun h=>by
  unfold ZU at hb;rw[h]at hb;exact hb
 run:=fun Wr Z pl w args h r hF hs hA hM=>by
  have e1:eY (G:=G.ow o) (c.ow o).its h=(eY (G:=G) c.its h).map (yu o):=eY.cv (G:=G) (o:=o) c.its h;have e2:eY (G:=G.ow o) (c.ow o).oq r=(eY (G:=G) c.oq r).map (yu o):=eY.cv (G:=G) (o:=o) c.oq r;rw[e1]at hA hM;rw[e2];have t1:=cZ.cvt (o:=o) c.ip (eY (G:=G) c.its h);have t2:=cZ.cvo (o:=o) c.ip (eY (G:=G) c.its h) h2;have t3:=cZ.cvt (o:=o) c.rp (eY (G:=G) c.oq r);have t4:=cZ.cvo (o:=o) c.rp (eY (G:=G) c.oq r) h4
  refine(H.run Wr Z pl w args h r hF hs (fun t d hd=> ?_) ?_).mono fun v w' ⟨Z',pr,q1,q2,q3⟩=>⟨Z',pr,fun t d hd=> ?_,q2,?_⟩
  ·have:=hA t (dvC o d) (by
    show get (cZ c.ip ((eY (G:=G) c.its h).map (yu o))).tmps t=_;rw[t1,get_map,hd];rfl)
   exact eU.cv.1 this
  ·exact(Mem.cv (cZ.vars c.ip _ h2)).1 (by rw[←t2];exact hM)
  ·have hd:get (cZ c.rp ((eY (G:=G) c.oq r).map (yu o))).tmps t=some d:=hd;rw[t3,get_map]at hd;cases hg:get (cZ c.rp (eY (G:=G) c.oq r)).tmps t with
   |none=>rw[hg]at hd;cases hd
   |some d0=>
    rw[hg]at hd;injection hd with hd
    subst hd;exact eU.cv.2 (q1 t d0 hg)
  ·have:=(Mem.cv (o:=o) (cZ.vars c.rp (eY (G:=G) c.oq r) h4)).2 q3;rw[←t4]at this;exact this
theorem Cj.cv: ∀(ls:List Tm),(Cj (G:=G.ow o) ls=none↔Cj (G:=G) ls=none)
 | []=>⟨fun h=>(by cases h),fun h=>(by cases h)⟩
 |l::ls=>by
  have ih:=Cj.cv ls;have e:(zl (G:=G.ow o) l=none↔zl (G:=G) l=none):=by
   cases l with
   |t t=>cases t<;>exact⟨fun h=>(by first|rfl|cases h),fun h=>(by first|rfl|cases h)⟩
   |_=>exact⟨fun h=>(by first|rfl|cases h),fun h=>(by first|rfl|cases h)⟩
  unfold Cj;cases h1:zl (G:=G) l with
  |none=>rw[e.2 h1];exact⟨fun _=>rfl,fun _=>rfl⟩
  |some a=>
   cases h2:zl (G:=G.ow o) l with
   |none=>rw[e.1 h2]at h1;cases h1
   |some b=>
    cases h3:Cj (G:=G) ls with
    |none=>rw[ih.2 h3];exact⟨fun _=>rfl,fun _=>rfl⟩
    |some c=>
     cases h4:Cj (G:=G.ow o) ls with
     |none=>rw[ih.1 h4]at h3;cases h3
     |some d=>exact⟨fun h=>(by cases h),fun h=>(by cases h)⟩
theorem kV.cv: ∀l:List Ty,kV (G.ow o) l=kV G l
 | []=>rfl
 |t::l=>by simp only[kV,kV.cv l];rfl
theorem n_.cv {P:Program} {T:TypeId} {ti:TI} (h:n_ P G T ti):n_ P (G.ow o) T ti where
 size:=by
  obtain⟨i,h1,h2,h3⟩:=h.size;exact⟨i,h1,h2,fun hz=>h3 fun e=>hz ((Cj.cv ti.leaves).2 e)⟩
 agg:=h.agg
 one:=h.one
 lv:=h.lv
 sl:=h.sl
 int:=h.int
 str:=h.str
 bool:=h.bool
 ptr:=h.ptr
 mp:=h.mp
 fn:=h.fn
 vP:=h.vP
 Z5:=h.Z5
 Z7:=fun s hs f d n t h1 h2=>by rw[kV.cv];exact h.Z7 s hs f d n t h1 h2
theorem Kit.cv {P:Program} (h:Kit P G):Kit P (G.ow o):=⟨fun s=>(kV.cv _).trans (h.ok s),fun T ti e=>n_.cv (h.tab T ti e),h.mixed⟩
end
end
end Go.Proofs.YtmcbhnbemhfifaaGreatDoor.RX
