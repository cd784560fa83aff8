/- Part of the proof that FnExpMatch is true at every input; no condition. -/
import Derived.Test.YtmcbhnbemhfifaaGreatDoorMzPartD
set_option linter.unusedVariables false
set_option linter.unusedSimpArgs false
section
namespace Go.Proofs.YtmcbhnbemhfifaaGreatDoor.RX
open Go Go.RowKit
set_option autoImplicit false
noncomputable section
def q2c.ct (k : Nat) : Ct sg := ⟨false, ⟨[(0, .one (.val (.sl 5 (.int .u8))))], []⟩, ⟨[(0, .one (.ptr 0 0))], [.cells [] [.val (.sl 5 (.int .u8)), .val tI]]⟩, [(.sl 5 (.int .u8))], [(.sl 5 (.int .u8)), tI], fun h => q2c.f k h⟩
def q2c.d : FD sg (HL sg.S [(.sl 5 (.int .u8)), tI]) := ⟨fun _ => [],
 [],
 [],
 [], []⟩
theorem q2c.holds (k : Nat) : (q2c.ct k).Holds Tryz.prog 29 :=
 fnOk sg.kit Tryz.f29 _ q2c.d 0 k (fun _ _ => True.intro)
def qi.ct (k : Nat) : Ct sg := ⟨false, ⟨[(0, .one (.ptr 0 0)), (1, oI)], [.cells [] [.val (.sl 5 (.int .u8)), .val tI]]⟩, ⟨[(0, oI)], [.cells [] [.val (.sl 5 (.int .u8)), .val tI]]⟩, [tI, (.sl 5 (.int .u8)), tI], [tI, (.sl 5 (.int .u8)), tI], fun h => qi.f k h.1 h.2.1 h.2.2⟩
def qi.d : FD sg (HL sg.S [tI, (.sl 5 (.int .u8)), tI]) := ⟨fun _ => [],
 [],
 [(4, ⟨⟨[(0, .one (.ptr 0 0)), (1, oI)], [.cells [] [.val (.sl 5 (.int .u8)), .val tI]]⟩, [tI, (.sl 5 (.int .u8)), tI], fun k h => qi.j4 k h.1 h.2.1 h.2.2⟩)],
 [(7, [[0, 1, 2, 3, 4, 5, 6, 7, 8, 9, 10, 11, 12, 13, 14, 15, 16, 17, 18, 19, 20, 21, 22, 23, 24, 25, 26, 27, 28, 29, 30, 31, 32, 33, 34, 35, 36, 37, 38, 39, 40, 41, 42, 43, 44, 45]])], []⟩
theorem qi.holds (k : Nat) : (qi.ct k).Holds Tryz.prog 33 :=
 fnOk sg.kit Tryz.f33 _ qi.d 1 k (fun _ _ => True.intro)
def qu.ct (k : Nat) : Ct sg := ⟨true, ⟨[(0, oI)], []⟩, ⟨[(0, oS)], []⟩, [tI], [.str], fun h => qu.f k h⟩
def qu.d : FD sg (HL sg.S [.str]) := ⟨fun k => [(104, qu.ct k)],
 [],
 [(100003, ⟨⟨[(0, oI)], []⟩, [tI], fun k h => qu.d3 k h⟩)],
 [(3, [[0, 1, 3, 4, 5, 6, 2, 7, 8, 9, 10], [0, 1, 3, 4, 5, 6, 7, 2, 8, 9, 10], [0, 1, 3, 4, 5, 6, 7, 8, 2, 9, 10]])], []⟩
theorem qu.all : ∀ k : Nat, (qu.ct k).Holds Tryz.prog 104 :=
 recOk zeroOk fun k ih =>
 fnOk sg.kit Tryz.f104 _ qu.d 3 k (fun j hj => ⟨(ih j hj), True.intro⟩)
theorem qu.holds (k : Nat) : (qu.ct k).Holds Tryz.prog 104 := (qu.all k)
def q1e.ct (k : Nat) : Ct sg := ⟨false, ⟨[(0, .one (.val (.sl 26 (.st 1)))), (1, .st 1)], []⟩, ⟨[(0, .st 1)], []⟩, [(.sl 26 (.st 1)), (.st 1)], [(.st 1)], fun h => q1e.f k h.1 h.2⟩
def q1e.d : FD sg (HL sg.S [(.st 1)]) := ⟨fun _ => [],
 [],
 [(100006, ⟨⟨[(0, .one (.val (.sl 26 (.st 1)))), (3, .one (.ptr 0 0)), (4, .one (.ptr 1 0))], [.cells [] [.val tI, .any, .any, .any, .val (.sl 26 (.st 1))], .cells [] [.any, .any, .any, .any, .any]]⟩, [(.sl 26 (.st 1)), tI, (.sl 26 (.st 1))], fun k h => q1e.d6 k h.1 h.2.1 h.2.2⟩),
 (100007, ⟨⟨[(0, .one (.val (.sl 26 (.st 1)))), (3, .one (.ptr 0 0)), (4, .one (.ptr 1 0))], [.cells [] [.val tI, .val .str, .val (.sl 3 tI), .val tI, .val (.sl 26 (.st 1))], .cells [] [.any, .any, .any, .any, .any]]⟩, [(.sl 26 (.st 1)), tI, .str, (.sl 3 tI), tI, (.sl 26 (.st 1))], fun k h => q1e.d7 k h.1 h.2.1 h.2.2.1 h.2.2.2.1 h.2.2.2.2.1 h.2.2.2.2.2⟩)],
 [(6, [[0, 3, 5, 1, 2, 4, 6, 7, 8, 9], [0, 3, 5, 1, 2, 6, 4, 7, 8, 9], [0, 3, 5, 1, 6, 2, 4, 7, 8, 9], [0, 3, 5, 2, 1, 4, 6, 7, 8, 9], [0, 3, 5, 2, 1, 6, 4, 7, 8, 9], [0, 3, 5, 2, 4, 6, 1, 7, 8, 9], [0, 3, 5, 2, 4, 6, 7, 1, 8, 9], [0, 3, 5, 2, 6, 1, 4, 7, 8, 9], [0, 3, 5, 2, 6, 4, 1, 7, 8, 9], [0, 3, 5, 2, 6, 4, 7, 1, 8, 9], [0, 3, 5, 6, 1, 2, 4, 7, 8, 9], [0, 3, 5, 6, 2, 1, 4, 7, 8, 9], [0, 3, 5, 6, 2, 4, 1, 7, 8, 9], [0, 3, 5, 6, 2, 4, 7, 1, 8, 9]]), (7, [[1, 0, 2, 3, 4, 5, 6, 7], [1, 0, 3, 2, 4, 5, 6, 7], [1, 0, 3, 4, 2, 5, 6, 7], [1, 3, 0, 2, 4, 5, 6, 7], [1, 3, 0, 4, 2, 5, 6, 7], [1, 3, 4, 0, 2, 5, 6, 7]])], []⟩
theorem q1e.holds (k : Nat) : (q1e.ct k).Holds Tryz.prog 105 :=
 fnOk sg.kit Tryz.f105 _ q1e.d 20 k (fun _ _ => True.intro)
def qh.ct (k : Nat) : Ct sg := ⟨false, ⟨[(0, .one (.ptr 0 0)), (1, oI), (2, .one (.arr 1))], [.cells [] [.val (.sl 5 (.int .u8)), .val tI], .ow true false 3 tI]⟩, ⟨[(0, .st 1)], [.cells [] [.val (.sl 5 (.int .u8)), .val tI], .ow true false 3 tI]⟩, [tI, (.sl 5 (.int .u8)), tI, (.sl 3 tI)], [(.st 1), (.sl 5 (.int .u8)), tI, (.sl 3 tI)], fun h => qh.f k h.1 h.2.1 h.2.2.1 h.2.2.2⟩
def qh.d : FD sg (HL sg.S [(.st 1), (.sl 5 (.int .u8)), tI, (.sl 3 tI)]) := ⟨fun k => [(30, qh.ct k), (33, qi.ct k), (104, qu.ct k), (105, q1e.ct k)],
 [(14, ⟨⟨[(0, .one (.ptr 0 0)), (1, oI), (2, .one (.arr 1)), (6, .one (.ptr 2 0)), (7, .one (.ptr 3 0)), (8, oI), (9, oI)], [.cells [] [.val (.sl 5 (.int .u8)), .val tI], .ow true false 3 tI, .cells [] [.any, .any, .any, .any, .any], .cells [] [.val tI, .val .str, .val (.sl 3 tI), .val tI, .arr 4], .arr 26 (.st 1)]⟩, [tI, tI, tI, (.sl 5 (.int .u8)), tI, (.sl 3 tI), tI, .str, (.sl 3 tI), tI, (.sl 26 (.st 1))], fun k h => qh.l14 k h.1 h.2.1 h.2.2.1 h.2.2.2.1 h.2.2.2.2.1 h.2.2.2.2.2.1 h.2.2.2.2.2.2.1 h.2.2.2.2.2.2.2.1 h.2.2.2.2.2.2.2.2.1 h.2.2.2.2.2.2.2.2.2.1 h.2.2.2.2.2.2.2.2.2.2⟩)],
 [(100017, ⟨⟨[(0, .one (.ptr 0 0)), (1, oI), (2, .one (.arr 1)), (6, .one (.ptr 2 0)), (7, .one (.ptr 3 0)), (8, oI), (9, oI)], [.cells [] [.val (.sl 5 (.int .u8)), .val tI], .ow true false 3 tI, .cells [] [.any, .any, .any, .any, .any], .cells [] [.val tI, .val .str, .val (.sl 3 tI), .val tI, .arr 4], .arr 26 (.st 1)]⟩, [tI, tI, tI, (.sl 5 (.int .u8)), tI, (.sl 3 tI), tI, .str, (.sl 3 tI), tI, (.sl 26 (.st 1))], fun k h => qh.d17 k h.1 h.2.1 h.2.2.1 h.2.2.2.1 h.2.2.2.2.1 h.2.2.2.2.2.1 h.2.2.2.2.2.2.1 h.2.2.2.2.2.2.2.1 h.2.2.2.2.2.2.2.2.1 h.2.2.2.2.2.2.2.2.2.1 h.2.2.2.2.2.2.2.2.2.2⟩),
 (100021, ⟨⟨[(0, .one (.ptr 0 0)), (2, .one (.arr 1)), (6, .one (.ptr 2 0)), (7, .one (.ptr 3 0))], [.cells [] [.val (.sl 5 (.int .u8)), .val tI], .ow true false 3 tI, .cells [] [.any, .any, .any, .any, .any], .cells [] [.any, .any, .any, .any, .arr 4], .arr 26 (.st 1)]⟩, [(.sl 5 (.int .u8)), tI, (.sl 3 tI), (.sl 26 (.st 1))], fun k h => qh.d21 k h.1 h.2.1 h.2.2.1 h.2.2.2⟩),
 (3, ⟨⟨[(0, .one (.ptr 0 0)), (1, oI), (2, .one (.arr 1)), (6, .one (.ptr 2 0)), (22, oB)], [.cells [] [.val (.sl 5 (.int .u8)), .val tI], .ow true false 3 tI, .cells [] [.any, .any, .any, .any, .any]]⟩, [tI, .bool, (.sl 5 (.int .u8)), tI, (.sl 3 tI)], fun k h => qh.j3 k h.1 h.2.1 h.2.2.1 h.2.2.2.1 h.2.2.2.2⟩)],
 [(17, [[0, 2, 3, 4, 5, 1, 6, 7, 8, 9, 10], [0, 2, 3, 4, 5, 6, 1, 7, 8, 9, 10], [0, 2, 3, 4, 5, 6, 7, 1, 8, 9, 10]]), (21, [[0, 2, 3, 1, 4, 5, 6], [0, 2, 3, 4, 1, 5, 6]])], []⟩
theorem qh.all : ∀ k : Nat, (qh.ct k).Holds Tryz.prog 30 :=
 recOk zeroOk fun k ih =>
 fnOk sg.kit Tryz.f30 _ qh.d 7 k (fun j hj => ⟨(ih j hj), qi.holds j, qu.holds j, q1e.holds j, True.intro⟩)
theorem qh.holds (k : Nat) : (qh.ct k).Holds Tryz.prog 30 := (qh.all k)
def q2i.ct (k : Nat) : Ct sg := ⟨true, ⟨[(0, oI), (1, oI)], []⟩, ⟨[(0, oI)], []⟩, [tI, tI], [tI], fun h => q2i.f k h.1 h.2⟩
def q2i.d : FD sg (HL sg.S [tI]) := ⟨fun _ => [],
 [],
 [],
 [], []⟩
theorem q2i.holds (k : Nat) : (q2i.ct k).Holds Tryz.prog 160 :=
 fnOk sg.kit Tryz.f160 _ q2i.d 0 k (fun _ _ => True.intro)
def q27.ct (k : Nat) : Ct sg := ⟨false, ⟨[(0, .one (.ptr 0 0)), (1, .one (.val (.sl 9 .str)))], [.cells [] [.val (.sl 5 (.int .u8)), .val tI]]⟩, ⟨[(0, oS)], [.cells [] [.val (.sl 5 (.int .u8)), .val tI]]⟩, [(.sl 9 .str), (.sl 5 (.int .u8)), tI], [.str, (.sl 5 (.int .u8)), tI], fun h => q27.f k h.1 h.2.1 h.2.2⟩
def q27.d : FD sg (HL sg.S [.str, (.sl 5 (.int .u8)), tI]) := ⟨fun k => [(33, qi.ct k)],
 [],
 [],
 [], []⟩
theorem q27.holds (k : Nat) : (q27.ct k).Holds Tryz.prog 109 :=
 fnOk sg.kit Tryz.f109 _ q27.d 0 k (fun j _ => ⟨qi.holds j, True.intro⟩)
def q18.ct (k : Nat) : Ct sg := ⟨false, ⟨[(0, .one (.ptr 0 0))], [.cells [] [.val (.sl 5 (.int .u8)), .val tI]]⟩, ⟨[(0, .st 1)], [.cells [] [.val (.sl 5 (.int .u8)), .val tI]]⟩, [(.sl 5 (.int .u8)), tI], [(.st 1), (.sl 5 (.int .u8)), tI], fun h => q18.f k h.1 h.2⟩
def q18.d : FD sg (HL sg.S [(.st 1), (.sl 5 (.int .u8)), tI]) := ⟨fun k => [(33, qi.ct k), (109, q27.ct k)],
 [(3, ⟨⟨[(0, .one (.ptr 0 0)), (2, .one (.ptr 1 0)), (3, .one (.ptr 2 0)), (4, oI)], [.cells [] [.val (.sl 5 (.int .u8)), .val tI], .cells [] [.any, .any, .any, .any, .any], .cells [] [.val tI, .val .str, .arr 3, .val tI, .val (.sl 26 (.st 1))], .arr 3 tI]⟩, [tI, (.sl 5 (.int .u8)), tI, tI, .str, tI, (.sl 26 (.st 1)), (.sl 3 tI)], fun k h => q18.l3 k h.1 h.2.1 h.2.2.1 h.2.2.2.1 h.2.2.2.2.1 h.2.2.2.2.2.1 h.2.2.2.2.2.2.1 h.2.2.2.2.2.2.2⟩)],
 [],
 [], []⟩
theorem q18.holds (k : Nat) : (q18.ct k).Holds Tryz.prog 101 :=
 fnOk sg.kit Tryz.f101 _ q18.d 1 k (fun j _ => ⟨qi.holds j, q27.holds j, True.intro⟩)
def qa.ct (k : Nat) : Ct sg := ⟨false, ⟨[(0, .one (.ptr 0 0)), (1, oI)], [.cells [] [.val (.sl 5 (.int .u8)), .val tI]]⟩, ⟨[(0, .st 1)], [.cells [] [.val (.sl 5 (.int .u8)), .val tI]]⟩, [tI, (.sl 5 (.int .u8)), tI], [(.st 1), (.sl 5 (.int .u8)), tI], fun h => qa.f k h.1 h.2.1 h.2.2⟩
def qa.d : FD sg (HL sg.S [(.st 1), (.sl 5 (.int .u8)), tI]) := ⟨fun k => [(33, qi.ct k), (92, qa.ct k), (101, q18.ct k), (109, q27.ct k), (160, q2i.ct k)],
 [(12, ⟨⟨[(0, .one (.ptr 0 0)), (1, oI), (4, .one (.ptr 1 0)), (5, .one (.ptr 2 0)), (6, oI)], [.cells [] [.val (.sl 5 (.int .u8)), .val tI], .cells [] [.any, .any, .any, .any, .any], .cells [] [.val tI, .val .str, .val (.sl 3 tI), .val tI, .arr 3], .arr 26 (.st 1)]⟩, [tI, tI, (.sl 5 (.int .u8)), tI, tI, .str, (.sl 3 tI), tI, (.sl 26 (.st 1))], fun k h => qa.l12 k h.1 h.2.1 h.2.2.1 h.2.2.2.1 h.2.2.2.2.1 h.2.2.2.2.2.1 h.2.2.2.2.2.2.1 h.2.2.2.2.2.2.2.1 h.2.2.2.2.2.2.2.2⟩),
 (19, ⟨⟨[(0, .one (.ptr 0 0)), (1, oI), (4, .one (.ptr 1 0)), (7, .one (.ptr 2 0)), (8, oI)], [.cells [] [.val (.sl 5 (.int .u8)), .val tI], .cells [] [.any, .any, .any, .any, .any], .cells [] [.val tI, .val .str, .val (.sl 3 tI), .val tI, .arr 3], .arr 26 (.st 1)]⟩, [tI, tI, (.sl 5 (.int .u8)), tI, tI, .str, (.sl 3 tI), tI, (.sl 26 (.st 1))], fun k h => qa.l19 k h.1 h.2.1 h.2.2.1 h.2.2.2.1 h.2.2.2.2.1 h.2.2.2.2.2.1 h.2.2.2.2.2.2.1 h.2.2.2.2.2.2.2.1 h.2.2.2.2.2.2.2.2⟩)],
 [(100014, ⟨⟨[(0, .one (.ptr 0 0)), (1, oI), (4, .one (.ptr 1 0)), (5, .one (.ptr 2 0)), (6, oI)], [.cells [] [.val (.sl 5 (.int .u8)), .val tI], .cells [] [.any, .any, .any, .any, .any], .cells [] [.val tI, .val .str, .val (.sl 3 tI), .val tI, .arr 3], .arr 26 (.st 1)]⟩, [tI, tI, (.sl 5 (.int .u8)), tI, tI, .str, (.sl 3 tI), tI, (.sl 26 (.st 1))], fun k h => qa.d14 k h.1 h.2.1 h.2.2.1 h.2.2.2.1 h.2.2.2.2.1 h.2.2.2.2.2.1 h.2.2.2.2.2.2.1 h.2.2.2.2.2.2.2.1 h.2.2.2.2.2.2.2.2⟩),
 (100015, ⟨⟨[(0, .one (.ptr 0 0)), (4, .one (.ptr 1 0)), (5, .one (.ptr 2 0))], [.cells [] [.val (.sl 5 (.int .u8)), .val tI], .cells [] [.any, .any, .any, .any, .any], .cells [] [.val tI, .val .str, .val (.sl 3 tI), .val tI, .arr 3], .arr 26 (.st 1)]⟩, [(.sl 5 (.int .u8)), tI, tI, .str, (.sl 3 tI), tI, (.sl 26 (.st 1))], fun k h => qa.d15 k h.1 h.2.1 h.2.2.1 h.2.2.2.1 h.2.2.2.2.1 h.2.2.2.2.2.1 h.2.2.2.2.2.2⟩),
 (100021, ⟨⟨[(0, .one (.ptr 0 0)), (1, oI), (4, .one (.ptr 1 0)), (7, .one (.ptr 2 0)), (8, oI)], [.cells [] [.val (.sl 5 (.int .u8)), .val tI], .cells [] [.any, .any, .any, .any, .any], .cells [] [.val tI, .val .str, .val (.sl 3 tI), .val tI, .arr 3], .arr 26 (.st 1)]⟩, [tI, tI, (.sl 5 (.int .u8)), tI, tI, .str, (.sl 3 tI), tI, (.sl 26 (.st 1))], fun k h => qa.d21 k h.1 h.2.1 h.2.2.1 h.2.2.2.1 h.2.2.2.2.1 h.2.2.2.2.2.1 h.2.2.2.2.2.2.1 h.2.2.2.2.2.2.2.1 h.2.2.2.2.2.2.2.2⟩),
 (4, ⟨⟨[(0, .one (.ptr 0 0)), (1, oI), (4, .one (.ptr 1 0)), (14, oI), (15, oB)], [.cells [] [.val (.sl 5 (.int .u8)), .val tI], .cells [] [.any, .any, .any, .any, .any]]⟩, [tI, tI, .bool, (.sl 5 (.int .u8)), tI], fun k h => qa.j4 k h.1 h.2.1 h.2.2.1 h.2.2.2.1 h.2.2.2.2⟩)],
 [(14, [[0, 2, 3, 4, 1, 5, 6, 7, 8, 9], [0, 2, 3, 4, 5, 1, 6, 7, 8, 9], [0, 2, 3, 4, 5, 6, 1, 7, 8, 9]]), (15, [[0, 2, 1, 3, 4, 5, 6, 7], [0, 2, 3, 1, 4, 5, 6, 7], [0, 2, 3, 4, 1, 5, 6, 7]]), (21, [[0, 2, 3, 4, 1, 5, 6, 7, 8, 9], [0, 2, 3, 4, 5, 1, 6, 7, 8, 9], [0, 2, 3, 4, 5, 6, 1, 7, 8, 9]])], []⟩
theorem qa.all : ∀ k : Nat, (qa.ct k).Holds Tryz.prog 92 :=
 recOk zeroOk fun k ih =>
 fnOk sg.kit Tryz.f92 _ qa.d 12 k (fun j hj => ⟨qi.holds j, (ih j hj), q18.holds j, q27.holds j, q2i.holds j, True.intro⟩)
theorem qa.holds (k : Nat) : (qa.ct k).Holds Tryz.prog 92 := (qa.all k)
def qx.ct (k : Nat) : Ct sg := ⟨false, ⟨[(0, .st 1)], []⟩, ⟨[(0, .agg [.val tI, .val .str, .arr 0, .val tI, .arr 1])], [.arr 3 tI, .arr 26 (.st 1)]⟩, [(.st 1)], [tI, .str, tI, (.sl 3 tI), (.sl 26 (.st 1))], fun h => qx.f k h⟩
def q1h.ct (k : Nat) : Ct sg := ⟨false, ⟨[(0, .one (.val (.sl 26 (.st 1))))], []⟩, ⟨[(0, .one (.arr 0))], [.arr 26 (.st 1)]⟩, [(.sl 26 (.st 1))], [(.sl 26 (.st 1))], fun h => q1h.f k h⟩
def qx.d : FD sg (HL sg.S [tI, .str, tI, (.sl 3 tI), (.sl 26 (.st 1))]) := ⟨fun k => [(171, q1h.ct k)],
 [],
 [],
 [], []⟩
def q1h.d : FD sg (HL sg.S [(.sl 26 (.st 1))]) := ⟨fun k => [(106, qx.ct k)],
 [(3, ⟨⟨[(0, .one (.val (.sl 26 (.st 1)))), (3, .one (.arr 0)), (4, oI)], [.arr 26 (.st 1)]⟩, [(.sl 26 (.st 1)), tI, (.sl 26 (.st 1))], fun k h => q1h.l3 k h.1 h.2.1 h.2.2⟩)],
 [],
 [], []⟩
theorem qx.all : ∀ k : Nat, (qx.ct k).Holds Tryz.prog 106 ∧ (q1h.ct k).Holds Tryz.prog 171 :=
 recOk ⟨zeroOk, zeroOk⟩ fun k ih =>
 ⟨fnOk sg.kit Tryz.f106 _ qx.d 0 k (fun j hj => ⟨(ih j hj).2, True.intro⟩), fnOk sg.kit Tryz.f171 _ q1h.d 1 k (fun j hj => ⟨(ih j hj).1, True.intro⟩)⟩
theorem qx.holds (k : Nat) : (qx.ct k).Holds Tryz.prog 106 := (qx.all k).1
theorem q1h.holds (k : Nat) : (q1h.ct k).Holds Tryz.prog 171 := (qx.all k).2
def qz.ct (k : Nat) : Ct sg := ⟨false, ⟨[(0, .st 1)], []⟩, ⟨[(0, .one (.val (.sl 26 (.st 1))))], []⟩, [(.st 1)], [(.sl 26 (.st 1))], fun h => qz.f k h⟩
def qz.d : FD sg (HL sg.S [(.sl 26 (.st 1))]) := ⟨fun _ => [],
 [],
 [],
 [], []⟩
theorem qz.holds (k : Nat) : (qz.ct k).Holds Tryz.prog 107 :=
 fnOk sg.kit Tryz.f107 _ qz.d 0 k (fun _ _ => True.intro)
def qw.ct (k : Nat) : Ct sg := ⟨true, ⟨[(0, .st 1)], []⟩, ⟨[(0, oB)], []⟩, [(.st 1)], [.bool], fun h => qw.f k h⟩
def qw.d : FD sg (HL sg.S [.bool]) := ⟨fun _ => [],
 [],
 [],
 [], []⟩
theorem qw.holds (k : Nat) : (qw.ct k).Holds Tryz.prog 108 :=
 fnOk sg.kit Tryz.f108 _ qw.d 0 k (fun _ _ => True.intro)
def qc.ct (k : Nat) : Ct sg := ⟨false, ⟨[(0, .one (.ptr 0 0)), (1, .st 1)], [.cells [] [.val (.sl 5 (.int .u8)), .val tI]]⟩, ⟨[(0, .st 1)], [.cells [] [.val (.sl 5 (.int .u8)), .val tI]]⟩, [(.st 1), (.sl 5 (.int .u8)), tI], [(.st 1), (.sl 5 (.int .u8)), tI], fun h => qc.f k h.1 h.2.1 h.2.2⟩
def qc.d : FD sg (HL sg.S [(.st 1), (.sl 5 (.int .u8)), tI]) := ⟨fun k => [(31, qc.ct k), (33, qi.ct k), (92, qa.ct k), (105, q1e.ct k), (106, qx.ct k), (107, qz.ct k), (108, qw.ct k)],
 [(12, ⟨⟨[(0, .one (.ptr 0 0)), (3, .one (.ptr 1 0)), (4, .one (.ptr 2 0)), (5, .one (.ptr 3 0)), (6, .one (.val (.sl 26 (.st 1)))), (7, oI)], [.cells [] [.val (.sl 5 (.int .u8)), .val tI], .cells [] [.val tI, .any, .any, .any, .val (.sl 26 (.st 1))], .cells [] [.any, .any, .any, .any, .any], .cells [] [.val tI, .val .str, .val (.sl 3 tI), .val tI, .arr 4], .arr 26 (.st 1)]⟩, [(.sl 26 (.st 1)), tI, (.sl 5 (.int .u8)), tI, tI, (.sl 26 (.st 1)), tI, .str, (.sl 3 tI), tI, (.sl 26 (.st 1))], fun k h => qc.l12 k h.1 h.2.1 h.2.2.1 h.2.2.2.1 h.2.2.2.2.1 h.2.2.2.2.2.1 h.2.2.2.2.2.2.1 h.2.2.2.2.2.2.2.1 h.2.2.2.2.2.2.2.2.1 h.2.2.2.2.2.2.2.2.2.1 h.2.2.2.2.2.2.2.2.2.2⟩),
 (18, ⟨⟨[(0, .one (.ptr 0 0)), (3, .one (.ptr 1 0)), (4, .one (.ptr 2 0)), (5, .one (.ptr 3 0)), (6, .one (.val (.sl 26 (.st 1)))), (7, oI), (8, oI)], [.cells [] [.val (.sl 5 (.int .u8)), .val tI], .cells [] [.val tI, .any, .any, .any, .val (.sl 26 (.st 1))], .cells [] [.any, .any, .any, .any, .any], .cells [] [.val tI, .val .str, .val (.sl 3 tI), .val tI, .arr 4], .arr 26 (.st 1)]⟩, [(.sl 26 (.st 1)), tI, tI, (.sl 5 (.int .u8)), tI, tI, (.sl 26 (.st 1)), tI, .str, (.sl 3 tI), tI, (.sl 26 (.st 1))], fun k h => qc.l18 k h.1 h.2.1 h.2.2.1 h.2.2.2.1 h.2.2.2.2.1 h.2.2.2.2.2.1 h.2.2.2.2.2.2.1 h.2.2.2.2.2.2.2.1 h.2.2.2.2.2.2.2.2.1 h.2.2.2.2.2.2.2.2.2.1 h.2.2.2.2.2.2.2.2.2.2.1 h.2.2.2.2.2.2.2.2.2.2.2⟩)],
 [(100020, ⟨⟨[(0, .one (.ptr 0 0)), (3, .one (.ptr 1 0)), (4, .one (.ptr 2 0)), (5, .one (.ptr 3 0)), (6, .one (.val (.sl 26 (.st 1)))), (7, oI), (8, oI)], [.cells [] [.val (.sl 5 (.int .u8)), .val tI], .cells [] [.val tI, .any, .any, .any, .val (.sl 26 (.st 1))], .cells [] [.any, .any, .any, .any, .any], .cells [] [.val tI, .val .str, .val (.sl 3 tI), .val tI, .arr 4], .arr 26 (.st 1)]⟩, [(.sl 26 (.st 1)), tI, tI, (.sl 5 (.int .u8)), tI, tI, (.sl 26 (.st 1)), tI, .str, (.sl 3 tI), tI, (.sl 26 (.st 1))], fun k h => qc.d20 k h.1 h.2.1 h.2.2.1 h.2.2.2.1 h.2.2.2.2.1 h.2.2.2.2.2.1 h.2.2.2.2.2.2.1 h.2.2.2.2.2.2.2.1 h.2.2.2.2.2.2.2.2.1 h.2.2.2.2.2.2.2.2.2.1 h.2.2.2.2.2.2.2.2.2.2.1 h.2.2.2.2.2.2.2.2.2.2.2⟩),
 (100022, ⟨⟨[(0, .one (.ptr 0 0)), (3, .one (.ptr 1 0)), (4, .one (.ptr 2 0)), (5, .one (.ptr 3 0))], [.cells [] [.val (.sl 5 (.int .u8)), .val tI], .cells [] [.any, .any, .any, .any, .val (.sl 26 (.st 1))], .cells [] [.any, .any, .any, .any, .any], .cells [] [.any, .any, .any, .any, .arr 4], .arr 26 (.st 1)]⟩, [(.sl 5 (.int .u8)), tI, (.sl 26 (.st 1)), (.sl 26 (.st 1))], fun k h => qc.d22 k h.1 h.2.1 h.2.2.1 h.2.2.2⟩),
 (4, ⟨⟨[(0, .one (.ptr 0 0)), (3, .one (.ptr 1 0)), (4, .one (.ptr 2 0)), (14, oB)], [.cells [] [.val (.sl 5 (.int .u8)), .val tI], .cells [] [.val tI, .val .str, .val (.sl 3 tI), .val tI, .val (.sl 26 (.st 1))], .cells [] [.any, .any, .any, .any, .any]]⟩, [.bool, (.sl 5 (.int .u8)), tI, tI, .str, (.sl 3 tI), tI, (.sl 26 (.st 1))], fun k h => qc.j4 k h.1 h.2.1 h.2.2.1 h.2.2.2.1 h.2.2.2.2.1 h.2.2.2.2.2.1 h.2.2.2.2.2.2.1 h.2.2.2.2.2.2.2⟩),
 (18, ⟨⟨[(0, .one (.ptr 0 0)), (3, .one (.ptr 1 0)), (4, .one (.ptr 2 0)), (5, .one (.ptr 3 0)), (6, .one (.val (.sl 26 (.st 1)))), (7, oI), (8, oI)], [.cells [] [.val (.sl 5 (.int .u8)), .val tI], .cells [] [.val tI, .any, .any, .any, .val (.sl 26 (.st 1))], .cells [] [.any, .any, .any, .any, .any], .cells [] [.val tI, .val .str, .val (.sl 3 tI), .val tI, .arr 4], .arr 26 (.st 1)]⟩, [(.sl 26 (.st 1)), tI, tI, (.sl 5 (.int .u8)), tI, tI, (.sl 26 (.st 1)), tI, .str, (.sl 3 tI), tI, (.sl 26 (.st 1))], fun k h => qc.j18 k h.1 h.2.1 h.2.2.1 h.2.2.2.1 h.2.2.2.2.1 h.2.2.2.2.2.1 h.2.2.2.2.2.2.1 h.2.2.2.2.2.2.2.1 h.2.2.2.2.2.2.2.2.1 h.2.2.2.2.2.2.2.2.2.1 h.2.2.2.2.2.2.2.2.2.2.1 h.2.2.2.2.2.2.2.2.2.2.2⟩)],
 [(20, [[0, 2, 3, 4, 5, 6, 1, 7, 8, 9, 10, 11], [0, 2, 3, 4, 5, 6, 7, 1, 8, 9, 10, 11], [0, 2, 3, 4, 5, 6, 7, 8, 1, 9, 10, 11]]), (22, [[0, 2, 3, 4, 5, 6, 7, 8, 9, 10, 1, 11, 12, 13], [0, 2, 3, 4, 5, 6, 7, 8, 9, 10, 11, 1, 12, 13]])], []⟩
theorem qc.all : ∀ k : Nat, (qc.ct k).Holds Tryz.prog 31 :=
 recOk zeroOk fun k ih =>
 fnOk sg.kit Tryz.f31 _ qc.d 9 k (fun j hj => ⟨(ih j hj), qi.holds j, qa.holds j, q1e.holds j, qx.holds j, qz.holds j, qw.holds j, True.intro⟩)
theorem qc.holds (k : Nat) : (qc.ct k).Holds Tryz.prog 31 := (qc.all k)
def q2d.ct (k : Nat) : Ct sg := ⟨false, ⟨[(0, .one (.ptr 0 0))], [.cells [] [.val (.sl 5 (.int .u8)), .val tI]]⟩, ⟨[(0, .one (.arr 1))], [.cells [] [.val (.sl 5 (.int .u8)), .val tI], .arr 26 (.st 1)]⟩, [(.sl 5 (.int .u8)), tI], [(.sl 5 (.int .u8)), tI, (.sl 26 (.st 1))], fun h => q2d.f k h.1 h.2⟩
def q2d.d : FD sg (HL sg.S [(.sl 5 (.int .u8)), tI, (.sl 26 (.st 1))]) := ⟨fun k => [(33, qi.ct k)],
 [],
 [],
 [], []⟩
theorem q2d.holds (k : Nat) : (q2d.ct k).Holds Tryz.prog 32 :=
 fnOk sg.kit Tryz.f32 _ q2d.d 0 k (fun j _ => ⟨qi.holds j, True.intro⟩)
def q1b.ct (k : Nat) : Ct sg := ⟨false, ⟨[(0, .one (.ptr 0 0)), (1, .st 1)], [.cells [] [.val (.sl 5 (.int .u8)), .val tI]]⟩, ⟨[(0, .st 1)], [.cells [] [.val (.sl 5 (.int .u8)), .val tI]]⟩, [(.st 1), (.sl 5 (.int .u8)), tI], [(.st 1), (.sl 5 (.int .u8)), tI], fun h => q1b.f k h.1 h.2.1 h.2.2⟩
def q1b.d : FD sg (HL sg.S [(.st 1), (.sl 5 (.int .u8)), tI]) := ⟨fun k => [(33, qi.ct k), (106, qx.ct k), (109, q27.ct k)],
 [(4, ⟨⟨[(4, .one (.ptr 1 0)), (5, .one (.ptr 2 0)), (6, oI)], [.cells [] [.val (.sl 5 (.int .u8)), .val tI], .cells [] [.any, .any, .any, .any, .any], .cells [] [.val tI, .val .str, .arr 3, .val tI, .arr 4], .arr 3 tI, .arr 26 (.st 1)]⟩, [tI, (.sl 5 (.int .u8)), tI, tI, .str, tI, (.sl 3 tI), (.sl 26 (.st 1))], fun k h => q1b.l4 k h.1 h.2.1 h.2.2.1 h.2.2.2.1 h.2.2.2.2.1 h.2.2.2.2.2.1 h.2.2.2.2.2.2.1 h.2.2.2.2.2.2.2⟩)],
 [(100012, ⟨⟨[(0, .one (.ptr 0 0)), (4, .one (.ptr 1 0)), (5, .one (.ptr 2 0))], [.cells [] [.val (.sl 5 (.int .u8)), .val tI], .cells [] [.any, .any, .any, .any, .any], .cells [] [.val tI, .val .str, .arr 3, .val tI, .arr 4], .arr 3 tI, .arr 26 (.st 1)]⟩, [(.sl 5 (.int .u8)), tI, tI, .str, tI, (.sl 3 tI), (.sl 26 (.st 1))], fun k h => q1b.d12 k h.1 h.2.1 h.2.2.1 h.2.2.2.1 h.2.2.2.2.1 h.2.2.2.2.2.1 h.2.2.2.2.2.2⟩)],
 [(12, [[0, 3, 1, 2, 4, 5, 6, 7, 8, 9, 10], [0, 3, 1, 4, 2, 5, 6, 7, 8, 9, 10], [0, 3, 2, 1, 4, 5, 6, 7, 8, 9, 10], [0, 3, 2, 4, 5, 6, 1, 7, 8, 9, 10], [0, 3, 2, 4, 5, 6, 7, 1, 8, 9, 10], [0, 3, 4, 1, 2, 5, 6, 7, 8, 9, 10], [0, 3, 4, 2, 5, 6, 1, 7, 8, 9, 10], [0, 3, 4, 2, 5, 6, 7, 1, 8, 9, 10]])], []⟩
theorem q1b.holds (k : Nat) : (q1b.ct k).Holds Tryz.prog 34 :=
 fnOk sg.kit Tryz.f34 _ q1b.d 9 k (fun j _ => ⟨qi.holds j, qx.holds j, q27.holds j, True.intro⟩)
def qy.ct (k : Nat) : Ct sg := ⟨false, ⟨[(0, .one (.ptr 0 0))], [.cells [] [.val (.sl 5 (.int .u8)), .val tI]]⟩, ⟨[(0, .one (.arr 1))], [.cells [] [.val (.sl 5 (.int .u8)), .val tI], .arr 197 (.st 2)]⟩, [(.sl 5 (.int .u8)), tI], [(.sl 5 (.int .u8)), tI, (.sl 197 (.st 2))], fun h => qy.f k h.1 h.2⟩
def qy.d : FD sg (HL sg.S [(.sl 5 (.int .u8)), tI, (.sl 197 (.st 2))]) := ⟨fun k => [(33, qi.ct k), (101, q18.ct k), (104, qu.ct k)],
 [(3, ⟨⟨[(0, .one (.ptr 0 0)), (3, .one (.arr 1)), (4, oI)], [.cells [] [.val (.sl 5 (.int .u8)), .val tI], .arr 197 (.st 2)]⟩, [tI, (.sl 5 (.int .u8)), tI, (.sl 197 (.st 2))], fun k h => qy.l3 k h.1 h.2.1 h.2.2.1 h.2.2.2⟩)],
 [(100006, ⟨⟨[(0, .one (.ptr 0 0)), (3, .one (.arr 1)), (4, oI), (5, .one (.ptr 2 0))], [.cells [] [.val (.sl 5 (.int .u8)), .val tI], .arr 197 (.st 2), .cells [] [.any, .val .str, .val (.sl 3 tI), .any, .any]]⟩, [tI, (.sl 5 (.int .u8)), tI, (.sl 197 (.st 2)), .str, (.sl 3 tI)], fun k h => qy.d6 k h.1 h.2.1 h.2.2.1 h.2.2.2.1 h.2.2.2.2.1 h.2.2.2.2.2⟩)],
 [(6, [[0, 1, 3, 5, 2, 4, 6, 7, 8, 9, 10, 11], [0, 1, 3, 5, 2, 6, 4, 7, 8, 9, 10, 11], [0, 1, 3, 5, 4, 2, 6, 7, 8, 9, 10, 11], [0, 1, 3, 5, 4, 6, 2, 7, 8, 9, 10, 11], [0, 1, 3, 5, 6, 2, 4, 7, 8, 9, 10, 11]])], []⟩
theorem qy.holds (k : Nat) : (qy.ct k).Holds Tryz.prog 35 :=
 fnOk sg.kit Tryz.f35 _ qy.d 6 k (fun j _ => ⟨qi.holds j, q18.holds j, qu.holds j, True.intro⟩)
def q1f.ct (k : Nat) : Ct sg := ⟨false, ⟨[(0, .one (.val (.sl 5 (.int .u8))))], []⟩, ⟨[(0, .st 1), (1, .one (.arr 0)), (2, .st 1), (3, .one (.arr 1))], [.arr 26 (.st 1), .arr 197 (.st 2)]⟩, [(.sl 5 (.int .u8))], [(.st 1), (.st 1), (.sl 26 (.st 1)), (.sl 197 (.st 2))], fun h => q1f.f k h⟩
def q1f.d : FD sg (HL sg.S [(.st 1), (.st 1), (.sl 26 (.st 1)), (.sl 197 (.st 2))]) := ⟨fun k => [(29, q2c.ct k), (30, qh.ct k), (31, qc.ct k), (32, q2d.ct k), (33, qi.ct k), (34, q1b.ct k), (35, qy.ct k)],
 [],
 [(100009, ⟨⟨[(2, .one (.ptr 0 0)), (4, .one (.ptr 1 0)), (6, .one (.ptr 2 0)), (7, .one (.ptr 3 0)), (8, .one (.ptr 4 0)), (9, .one (.arr 5))], [.cells [] [.any, .any, .any, .any, .any], .cells [] [.any, .any, .any, .any, .any], .cells [] [.val (.sl 5 (.int .u8)), .val tI], .cells [] [.val tI, .val .str, .val (.sl 3 tI), .val tI, .val (.sl 26 (.st 1))], .cells [] [.val tI, .val .str, .val (.sl 3 tI), .val tI, .val (.sl 26 (.st 1))], .arr 26 (.st 1)]⟩, [(.sl 5 (.int .u8)), tI, tI, .str, (.sl 3 tI), tI, (.sl 26 (.st 1)), tI, .str, (.sl 3 tI), tI, (.sl 26 (.st 1)), (.sl 26 (.st 1))], fun k h => q1f.d9 k h.1 h.2.1 h.2.2.1 h.2.2.2.1 h.2.2.2.2.1 h.2.2.2.2.2.1 h.2.2.2.2.2.2.1 h.2.2.2.2.2.2.2.1 h.2.2.2.2.2.2.2.2.1 h.2.2.2.2.2.2.2.2.2.1 h.2.2.2.2.2.2.2.2.2.2.1 h.2.2.2.2.2.2.2.2.2.2.2.1 h.2.2.2.2.2.2.2.2.2.2.2.2⟩),
 (7, ⟨⟨[(2, .one (.ptr 0 0)), (4, .one (.ptr 1 0)), (6, .one (.ptr 2 0)), (7, .one (.ptr 3 0)), (8, .one (.ptr 4 0)), (9, .one (.arr 5))], [.cells [] [.any, .any, .any, .any, .any], .cells [] [.any, .any, .any, .any, .any], .cells [] [.val (.sl 5 (.int .u8)), .val tI], .cells [] [.val tI, .val .str, .val (.sl 3 tI), .val tI, .val (.sl 26 (.st 1))], .cells [] [.val tI, .val .str, .val (.sl 3 tI), .val tI, .val (.sl 26 (.st 1))], .arr 26 (.st 1)]⟩, [(.sl 5 (.int .u8)), tI, tI, .str, (.sl 3 tI), tI, (.sl 26 (.st 1)), tI, .str, (.sl 3 tI), tI, (.sl 26 (.st 1)), (.sl 26 (.st 1))], fun k h => q1f.j7 k h.1 h.2.1 h.2.2.1 h.2.2.2.1 h.2.2.2.2.1 h.2.2.2.2.2.1 h.2.2.2.2.2.2.1 h.2.2.2.2.2.2.2.1 h.2.2.2.2.2.2.2.2.1 h.2.2.2.2.2.2.2.2.2.1 h.2.2.2.2.2.2.2.2.2.2.1 h.2.2.2.2.2.2.2.2.2.2.2.1 h.2.2.2.2.2.2.2.2.2.2.2.2⟩)],
 [(9, [[1, 3, 0, 2, 4, 5, 6, 7, 8], [1, 3, 0, 4, 2, 5, 6, 7, 8], [1, 3, 0, 4, 5, 2, 6, 7, 8], [1, 3, 2, 0, 4, 5, 6, 7, 8], [1, 3, 2, 4, 0, 5, 6, 7, 8], [1, 3, 4, 0, 2, 5, 6, 7, 8], [1, 3, 4, 0, 5, 2, 6, 7, 8]])], []⟩
theorem q1f.holds (k : Nat) : (q1f.ct k).Holds Tryz.prog 6 :=
 fnOk sg.kit Tryz.f6 _ q1f.d 8 k (fun j _ => ⟨q2c.holds j, qh.holds j, qc.holds j, q2d.holds j, qi.holds j, q1b.holds j, qy.holds j, True.intro⟩)
def q2k.ct (k : Nat) : Ct sg := ⟨true, ⟨[(0, oS), (1, oS)], []⟩, ⟨[(0, oB)], []⟩, [.str, .str], [.bool], fun h => q2k.f k h.1 h.2⟩
def q2k.d : FD sg (HL sg.S [.bool]) := ⟨fun _ => [],
 [],
 [],
 [], []⟩
theorem q2k.holds (k : Nat) : (q2k.ct k).Holds Tryz.prog 234 :=
 fnOk sg.kit Tryz.f234 _ q2k.d 0 k (fun _ _ => True.intro)
def q2m.ct (k : Nat) : Ct sg := ⟨true, ⟨[(0, oS), (1, oS)], []⟩, ⟨[(0, oS)], []⟩, [.str, .str], [.str], fun h => q2m.f k h.1 h.2⟩
def q2m.d : FD sg (HL sg.S [.str]) := ⟨fun k => [(234, q2k.ct k)],
 [],
 [],
 [], []⟩
theorem q2m.holds (k : Nat) : (q2m.ct k).Holds Tryz.prog 214 :=
 fnOk sg.kit Tryz.f214 _ q2m.d 0 k (fun j _ => ⟨q2k.holds j, True.intro⟩)
def q2h.ct (k : Nat) : Ct sg := ⟨true, ⟨[(0, oS), (1, oS)], []⟩, ⟨[(0, oS)], []⟩, [.str, .str], [.str], fun h => q2h.f k h.1 h.2⟩
def q2h.d : FD sg (HL sg.S [.str]) := ⟨fun k => [(214, q2m.ct k)],
 [],
 [],
 [], []⟩
theorem q2h.holds (k : Nat) : (q2h.ct k).Holds Tryz.prog 197 :=
 fnOk sg.kit Tryz.f197 _ q2h.d 0 k (fun j _ => ⟨q2m.holds j, True.intro⟩)
def qq.ct (k : Nat) : Ct sg := ⟨true, ⟨[(0, oS)], []⟩, ⟨[(0, oB)], []⟩, [.str], [.bool], fun h => qq.f k h⟩
def qq.d : FD sg (HL sg.S [.bool]) := ⟨fun k => [(197, q2h.ct k), (198, LTrim.ct)],
 [(6, ⟨⟨[(33, .one (.val (.sl 5 (.int .u8)))), (34, oI), (35, oI)], []⟩, [(.sl 5 (.int .u8)), tI, tI], fun k h => qq.l6 k h.1 h.2.1 h.2.2⟩)],
 [(3, ⟨⟨[(0, oS)], []⟩, [.str], fun k h => qq.j3 k h⟩),
 (5, ⟨⟨[(0, oS), (3, oI), (28, oB)], []⟩, [.str, tI, .bool], fun k h => qq.j5 k h.1 h.2.1 h.2.2⟩)],
 [], []⟩
theorem qq.holds (k : Nat) : (qq.ct k).Holds Tryz.prog 167 :=
 fnOk sg.kit Tryz.f167 _ qq.d 3 k (fun j _ => ⟨q2h.holds j, LTrim.holds, True.intro⟩)
def q1q.ct (k : Nat) : Ct sg := ⟨true, ⟨[(0, oS)], []⟩, ⟨[(0, oB)], []⟩, [.str], [.bool], fun h => q1q.f k h⟩
def q1q.d : FD sg (HL sg.S [.bool]) := ⟨fun k => [(167, qq.ct k), (196, LIndexByte.ct)],
 [(2, ⟨⟨[(0, oS), (6, .one (.val (.sl 5 (.int .u8)))), (7, oI), (8, oI)], []⟩, [.str, (.sl 5 (.int .u8)), tI, tI], fun k h => q1q.l2 k h.1 h.2.1 h.2.2.1 h.2.2.2⟩)],
 [],
 [], []⟩
theorem q1q.holds (k : Nat) : (q1q.ct k).Holds Tryz.prog 166 :=
 fnOk sg.kit Tryz.f166 _ q1q.d 1 k (fun j _ => ⟨qq.holds j, LIndexByte.holds, True.intro⟩)
def qe.ct (k : Nat) : Ct sg := ⟨true, ⟨[(0, .st 1), (1, oI)], []⟩, ⟨[(0, oI)], []⟩, [(.st 1), tI], [tI], fun h => qe.f k h.1 h.2⟩
def qe.d : FD sg (HL sg.S [tI]) := ⟨fun k => [(95, qe.ct k), (166, q1q.ct k), (167, qq.ct k)],
 [(10, ⟨⟨[(2, .one (.ptr 0 0)), (5, oI), (40, .one (.val (.sl 3 tI))), (41, oI), (42, oI)], [.cells [] [.any, .any, .val (.sl 3 tI), .any, .any]]⟩, [tI, (.sl 3 tI), tI, tI, (.sl 3 tI)], fun k h => qe.l10 k h.1 h.2.1 h.2.2.1 h.2.2.2.1 h.2.2.2.2⟩),
 (27, ⟨⟨[(1, oI), (5, oI), (139, .one (.val (.sl 26 (.st 1)))), (140, oI), (141, oI)], []⟩, [tI, tI, (.sl 26 (.st 1)), tI, tI], fun k h => qe.l27 k h.1 h.2.1 h.2.2.1 h.2.2.2.1 h.2.2.2.2⟩)],
 [(9, ⟨⟨[(2, .one (.ptr 0 0)), (5, oI)], [.cells [] [.any, .any, .val (.sl 3 tI), .any, .any]]⟩, [tI, (.sl 3 tI)], fun k h => qe.j9 k h.1 h.2⟩),
 (20, ⟨⟨[(1, oI), (2, .one (.ptr 0 0)), (5, oI), (93, oB)], [.cells [] [.val tI, .val .str, .val (.sl 3 tI), .val tI, .val (.sl 26 (.st 1))]]⟩, [tI, tI, .bool, tI, .str, (.sl 3 tI), tI, (.sl 26 (.st 1))], fun k h => qe.j20 k h.1 h.2.1 h.2.2.1 h.2.2.2.1 h.2.2.2.2.1 h.2.2.2.2.2.1 h.2.2.2.2.2.2.1 h.2.2.2.2.2.2.2⟩),
 (22, ⟨⟨[(1, oI), (2, .one (.ptr 0 0)), (5, oI)], [.cells [] [.val tI, .any, .any, .any, .val (.sl 26 (.st 1))]]⟩, [tI, tI, tI, (.sl 26 (.st 1))], fun k h => qe.j22 k h.1 h.2.1 h.2.2.1 h.2.2.2⟩),
 (26, ⟨⟨[(1, oI), (2, .one (.ptr 0 0)), (5, oI)], [.cells [] [.any, .any, .any, .any, .val (.sl 26 (.st 1))]]⟩, [tI, tI, (.sl 26 (.st 1))], fun k h => qe.j26 k h.1 h.2.1 h.2.2⟩)],
 [], []⟩
theorem qe.all : ∀ k : Nat, (qe.ct k).Holds Tryz.prog 95 :=
 recOk zeroOk fun k ih =>
 fnOk sg.kit Tryz.f95 _ qe.d 6 k (fun j hj => ⟨(ih j hj), q1q.holds j, qq.holds j, True.intro⟩)
theorem qe.holds (k : Nat) : (qe.ct k).Holds Tryz.prog 95 := (qe.all k)
def q15.ct (k : Nat) : Ct sg := ⟨true, ⟨[(0, .st 1)], []⟩, ⟨[(0, oB)], []⟩, [(.st 1)], [.bool], fun h => q15.f k h⟩
def q15.d : FD sg (HL sg.S [.bool]) := ⟨fun k => [(95, qe.ct k)],
 [],
 [],
 [], []⟩
theorem q15.holds (k : Nat) : (q15.ct k).Holds Tryz.prog 23 :=
 fnOk sg.kit Tryz.f23 _ q15.d 0 k (fun j _ => ⟨qe.holds j, True.intro⟩)
def q21.ct (k : Nat) : Ct sg := ⟨true, ⟨[(0, .one (.val (.sl 26 (.st 1))))], []⟩, ⟨[(0, oB)], []⟩, [(.sl 26 (.st 1))], [.bool], fun h => q21.f k h⟩
def q21.d : FD sg (HL sg.S [.bool]) := ⟨fun k => [(23, q15.ct k)],
 [(2, ⟨⟨[(5, .one (.val (.sl 26 (.st 1)))), (6, oI), (7, oI)], []⟩, [(.sl 26 (.st 1)), tI, tI], fun k h => q21.l2 k h.1 h.2.1 h.2.2⟩)],
 [],
 [], []⟩
theorem q21.holds (k : Nat) : (q21.ct k).Holds Tryz.prog 38 :=
 fnOk sg.kit Tryz.f38 _ q21.d 1 k (fun j _ => ⟨q15.holds j, True.intro⟩)
def q13.ct (k : Nat) : Ct sg := ⟨true, ⟨[(0, .st 1), (1, oS)], []⟩, ⟨[(0, oB)], []⟩, [(.st 1), .str], [.bool], fun h => q13.f k h.1 h.2⟩
def q13.d : FD sg (HL sg.S [.bool]) := ⟨fun _ => [],
 [],
 [],
 [], []⟩
theorem q13.holds (k : Nat) : (q13.ct k).Holds Tryz.prog 39 :=
 fnOk sg.kit Tryz.f39 _ q13.d 0 k (fun _ _ => True.intro)
def q1p.ct (k : Nat) : Ct sg := ⟨true, ⟨[(0, .one (.val (.sl 3 tI))), (1, .one (.val (.sl 3 tI)))], []⟩, ⟨[(0, oB)], []⟩, [(.sl 3 tI), (.sl 3 tI)], [.bool], fun h => q1p.f k h.1 h.2⟩
def q1p.d : FD sg (HL sg.S [.bool]) := ⟨fun _ => [],
 [(4, ⟨⟨[(0, .one (.val (.sl 3 tI))), (1, .one (.val (.sl 3 tI))), (12, oI), (13, oI)], []⟩, [(.sl 3 tI), (.sl 3 tI), tI, tI], fun k h => q1p.l4 k h.1 h.2.1 h.2.2.1 h.2.2.2⟩)],
 [],
 [(6, [[0, 1, 2, 3, 4, 5, 6, 7, 8]])], []⟩
theorem q1p.holds (k : Nat) : (q1p.ct k).Holds Tryz.prog 203 :=
 fnOk sg.kit Tryz.f203 _ q1p.d 1 k (fun _ _ => True.intro)
def q29.ct (k : Nat) : Ct sg := ⟨true, ⟨[(0, .st 1), (1, .st 1)], []⟩, ⟨[(0, oB)], []⟩, [(.st 1), (.st 1)], [.bool], fun h => q29.f k h.1 h.2⟩
def q29.d : FD sg (HL sg.S [.bool]) := ⟨fun k => [(203, q1p.ct k)],
 [],
 [],
 [], []⟩
theorem q29.holds (k : Nat) : (q29.ct k).Holds Tryz.prog 175 :=
 fnOk sg.kit Tryz.f175 _ q29.d 0 k (fun j _ => ⟨q1p.holds j, True.intro⟩)
def q17.ct (k : Nat) : Ct sg := ⟨true, ⟨[(0, .one (.val (.sl 26 (.st 1)))), (1, .st 1)], []⟩, ⟨[(0, oB)], []⟩, [(.sl 26 (.st 1)), (.st 1)], [.bool], fun h => q17.f k h.1 h.2⟩
def q17.d : FD sg (HL sg.S [.bool]) := ⟨fun k => [(175, q29.ct k)],
 [(2, ⟨⟨[(3, .one (.ptr 0 0)), (7, .one (.val (.sl 26 (.st 1)))), (8, oI), (9, oI)], [.cells [] [.val tI, .val .str, .val (.sl 3 tI), .val tI, .val (.sl 26 (.st 1))]]⟩, [(.sl 26 (.st 1)), tI, tI, tI, .str, (.sl 3 tI), tI, (.sl 26 (.st 1))], fun k h => q17.l2 k h.1 h.2.1 h.2.2.1 h.2.2.2.1 h.2.2.2.2.1 h.2.2.2.2.2.1 h.2.2.2.2.2.2.1 h.2.2.2.2.2.2.2⟩)],
 [],
 [], []⟩
theorem q17.holds (k : Nat) : (q17.ct k).Holds Tryz.prog 110 :=
 fnOk sg.kit Tryz.f110 _ q17.d 1 k (fun j _ => ⟨q29.holds j, True.intro⟩)
def q1a.ct (k : Nat) : Ct sg := ⟨false, ⟨[(0, .st 1)], []⟩, ⟨[(0, .one (.val (.sl 26 (.st 1)))), (1, .one (.val (.po (.st 1))))], []⟩, [(.st 1)], [(.sl 26 (.st 1)), (.po (.st 1))], fun h => q1a.f k h⟩
def q1a.d : FD sg (HL sg.S [(.sl 26 (.st 1)), (.po (.st 1))]) := ⟨fun _ => [],
 [],
 [],
 [], [3, 5, 6]⟩
theorem q1a.holds (k : Nat) : (q1a.ct k).Holds Tryz.prog 113 :=
 fnOk sg.kit Tryz.f113 _ q1a.d 0 k (fun _ _ => True.intro)
def qf.ct (k : Nat) : Ct sg := ⟨false, ⟨[(0, .one (.ptr 0 0)), (1, .st 1)], [.cells [] [.val (.sl 26 (.st 1)), .arr 1, .val .bool], .arr 26 (.st 1)]⟩, ⟨[], [.cells [] [.val (.sl 26 (.st 1)), .arr 1, .val .bool], .arr 26 (.st 1)]⟩, [(.st 1), (.sl 26 (.st 1)), .bool, (.sl 26 (.st 1))], [(.sl 26 (.st 1)), .bool, (.sl 26 (.st 1))], fun h => qf.f k h.1 h.2.1 h.2.2.1 h.2.2.2⟩
def qf.d : FD sg (HL sg.S [(.sl 26 (.st 1)), .bool, (.sl 26 (.st 1))]) := ⟨fun k => [(39, q13.ct k), (40, qf.ct k), (110, q17.ct k), (113, q1a.ct k)],
 [(11, ⟨⟨[(0, .one (.ptr 0 0)), (5, .one (.val (.po (.st 1)))), (6, oI), (63, .one (.val (.sl 26 (.st 1)))), (64, oI), (65, oI)], [.cells [] [.val (.sl 26 (.st 1)), .arr 1, .val .bool], .arr 26 (.st 1)]⟩, [(.po (.st 1)), tI, (.sl 26 (.st 1)), tI, tI, (.sl 26 (.st 1)), .bool, (.sl 26 (.st 1))], fun k h => qf.l11 k h.1 h.2.1 h.2.2.1 h.2.2.2.1 h.2.2.2.2.1 h.2.2.2.2.2.1 h.2.2.2.2.2.2.1 h.2.2.2.2.2.2.2⟩)],
 [(100005, ⟨⟨[(0, .one (.ptr 0 0)), (3, .one (.ptr 1 0))], [.cells [] [.val (.sl 26 (.st 1)), .arr 2, .val .bool], .cells [] [.val tI, .val .str, .val (.sl 3 tI), .val tI, .val (.sl 26 (.st 1))], .arr 26 (.st 1)]⟩, [(.sl 26 (.st 1)), .bool, tI, .str, (.sl 3 tI), tI, (.sl 26 (.st 1)), (.sl 26 (.st 1))], fun k h => qf.d5 k h.1 h.2.1 h.2.2.1 h.2.2.2.1 h.2.2.2.2.1 h.2.2.2.2.2.1 h.2.2.2.2.2.2.1 h.2.2.2.2.2.2.2⟩),
 (4, ⟨⟨[(0, .one (.ptr 0 0)), (3, .one (.ptr 1 0))], [.cells [] [.val (.sl 26 (.st 1)), .arr 2, .val .bool], .cells [] [.val tI, .val .str, .val (.sl 3 tI), .val tI, .val (.sl 26 (.st 1))], .arr 26 (.st 1)]⟩, [(.sl 26 (.st 1)), .bool, tI, .str, (.sl 3 tI), tI, (.sl 26 (.st 1)), (.sl 26 (.st 1))], fun k h => qf.j4 k h.1 h.2.1 h.2.2.1 h.2.2.2.1 h.2.2.2.2.1 h.2.2.2.2.2.1 h.2.2.2.2.2.2.1 h.2.2.2.2.2.2.2⟩),
 (8, ⟨⟨[(0, .one (.ptr 0 0)), (3, .one (.ptr 1 0)), (55, oB)], [.cells [] [.val (.sl 26 (.st 1)), .arr 2, .val .bool], .cells [] [.val tI, .val .str, .val (.sl 3 tI), .val tI, .val (.sl 26 (.st 1))], .arr 26 (.st 1)]⟩, [.bool, (.sl 26 (.st 1)), .bool, tI, .str, (.sl 3 tI), tI, (.sl 26 (.st 1)), (.sl 26 (.st 1))], fun k h => qf.j8 k h.1 h.2.1 h.2.2.1 h.2.2.2.1 h.2.2.2.2.1 h.2.2.2.2.2.1 h.2.2.2.2.2.2.1 h.2.2.2.2.2.2.2.1 h.2.2.2.2.2.2.2.2⟩),
 (19, ⟨⟨[(0, .one (.ptr 0 0)), (5, .one (.val (.po (.st 1))))], [.cells [] [.val (.sl 26 (.st 1)), .arr 1, .val .bool], .arr 26 (.st 1)]⟩, [(.po (.st 1)), (.sl 26 (.st 1)), .bool, (.sl 26 (.st 1))], fun k h => qf.j19 k h.1 h.2.1 h.2.2.1 h.2.2.2⟩)],
 [(3, [[0, 1, 2, 3, 4, 5, 6, 7, 8, 9, 10, 11, 12, 13, 14, 15]]), (4, [[0, 1, 2, 3, 4, 5, 6, 7, 8, 9, 10, 11, 12, 13, 14, 15]]), (5, [[0, 1, 2, 3, 5, 4, 6, 7, 8, 10, 11, 9, 12], [0, 1, 2, 3, 5, 4, 6, 7, 8, 10, 11, 12, 9], [0, 1, 2, 3, 5, 6, 4, 7, 8, 10, 11, 9, 12], [0, 1, 2, 3, 5, 6, 4, 7, 8, 10, 11, 12, 9], [0, 1, 2, 4, 3, 5, 6, 7, 8, 10, 11, 9, 12], [0, 1, 2, 4, 3, 5, 6, 7, 8, 10, 11, 12, 9], [0, 1, 2, 4, 6, 3, 5, 7, 8, 10, 11, 9, 12], [0, 1, 2, 4, 6, 3, 5, 7, 8, 10, 11, 12, 9], [0, 1, 2, 6, 3, 4, 5, 7, 8, 10, 11, 9, 12], [0, 1, 2, 6, 3, 4, 5, 7, 8, 10, 11, 12, 9]])], []⟩
theorem qf.all : ∀ k : Nat, (qf.ct k).Holds Tryz.prog 40 :=
 recOk zeroOk fun k ih =>
 fnOk sg.kit Tryz.f40 _ qf.d 14 k (fun j hj => ⟨q13.holds j, (ih j hj), q17.holds j, q1a.holds j, True.intro⟩)
theorem qf.holds (k : Nat) : (qf.ct k).Holds Tryz.prog 40 := (qf.all k)
def q1t.ct (k : Nat) : Ct sg := ⟨true, ⟨[(0, .st 1), (1, .one (.val (.sl 26 (.st 1))))], []⟩, ⟨[(0, oB)], []⟩, [(.st 1), (.sl 26 (.st 1))], [.bool], fun h => q1t.f k h.1 h.2⟩
def q1t.d : FD sg (HL sg.S [.bool]) := ⟨fun k => [(23, q15.ct k), (38, q21.ct k), (39, q13.ct k), (40, qf.ct k)],
 [],
 [(3, ⟨⟨[(1, .one (.val (.sl 26 (.st 1)))), (2, .one (.ptr 0 0))], [.cells [] [.val tI, .val .str, .val (.sl 3 tI), .val tI, .val (.sl 26 (.st 1))]]⟩, [(.sl 26 (.st 1)), tI, .str, (.sl 3 tI), tI, (.sl 26 (.st 1))], fun k h => q1t.j3 k h.1 h.2.1 h.2.2.1 h.2.2.2.1 h.2.2.2.2.1 h.2.2.2.2.2⟩)],
 [], []⟩
theorem q1t.holds (k : Nat) : (q1t.ct k).Holds Tryz.prog 10 :=
 fnOk sg.kit Tryz.f10 _ q1t.d 1 k (fun j _ => ⟨q15.holds j, q21.holds j, q13.holds j, qf.holds j, True.intro⟩)
def q20.ct (k : Nat) : Ct sg := ⟨true, ⟨[(0, .one (.val (.sl 3 tI))), (1, oI)], []⟩, ⟨[(0, oB)], []⟩, [(.sl 3 tI), tI], [.bool], fun h => q20.f k h.1 h.2⟩
def q20.d : FD sg (HL sg.S [.bool]) := ⟨fun _ => [],
 [(2, ⟨⟨[(1, oI), (7, .one (.val (.sl 3 tI))), (8, oI), (9, oI)], []⟩, [tI, (.sl 3 tI), tI, tI], fun k h => q20.l2 k h.1 h.2.1 h.2.2.1 h.2.2.2⟩)],
 [],
 [], []⟩
theorem q20.holds (k : Nat) : (q20.ct k).Holds Tryz.prog 204 :=
 fnOk sg.kit Tryz.f204 _ q20.d 1 k (fun _ _ => True.intro)
def q1w.ct (k : Nat) : Ct sg := ⟨true, ⟨[(0, .one (.val (.sl 3 tI))), (1, .one (.val (.sl 3 tI)))], []⟩, ⟨[(0, oB)], []⟩, [(.sl 3 tI), (.sl 3 tI)], [.bool], fun h => q1w.f k h.1 h.2⟩
def q1w.d : FD sg (HL sg.S [.bool]) := ⟨fun k => [(204, q20.ct k)],
 [(2, ⟨⟨[(1, .one (.val (.sl 3 tI))), (7, .one (.val (.sl 3 tI))), (8, oI), (9, oI)], []⟩, [(.sl 3 tI), (.sl 3 tI), tI, tI], fun k h => q1w.l2 k h.1 h.2.1 h.2.2.1 h.2.2.2⟩)],
 [],
 [], []⟩
theorem q1w.holds (k : Nat) : (q1w.ct k).Holds Tryz.prog 176 :=
 fnOk sg.kit Tryz.f176 _ q1w.d 1 k (fun j _ => ⟨q20.holds j, True.intro⟩)
def qn.ct (k : Nat) : Ct sg := ⟨true, ⟨[(0, .one (.val (.sl 197 (.st 2)))), (1, .st 1)], []⟩, ⟨[(0, oS), (1, oI)], []⟩, [(.sl 197 (.st 2)), (.st 1)], [.str, tI], fun h => qn.f k h.1 h.2⟩
def qn.d : FD sg (HL sg.S [.str, tI]) := ⟨fun k => [(176, q1w.ct k)],
 [(5, ⟨⟨[(3, .one (.ptr 0 0)), (6, .one (.arr 1)), (16, .one (.val (.sl 197 (.st 2)))), (17, oI), (18, oI)], [.cells [] [.any, .val .str, .val (.sl 3 tI), .any, .any], .arr 197 (.st 2)]⟩, [(.sl 197 (.st 2)), tI, tI, .str, (.sl 3 tI), (.sl 197 (.st 2))], fun k h => qn.l5 k h.1 h.2.1 h.2.2.1 h.2.2.2.1 h.2.2.2.2.1 h.2.2.2.2.2⟩),
 (13, ⟨⟨[(6, .one (.arr 0)), (9, oI)], [.arr 197 (.st 2)]⟩, [tI, (.sl 197 (.st 2))], fun k h => qn.l13 k h.1 h.2⟩),
 (17, ⟨⟨[(6, .one (.arr 0)), (9, oI), (10, oB), (49, .one (.arr 0)), (50, oI), (51, oI)], [.arr 197 (.st 2)]⟩, [tI, .bool, tI, tI, (.sl 197 (.st 2))], fun k h => qn.l17 k h.1 h.2.1 h.2.2.1 h.2.2.2.1 h.2.2.2.2⟩)],
 [],
 [(19, [[0, 1, 2, 3, 4, 5, 6, 7, 8, 9, 10, 11]])], []⟩
theorem qn.holds (k : Nat) : (qn.ct k).Holds Tryz.prog 111 :=
 fnOk sg.kit Tryz.f111 _ qn.d 3 k (fun j _ => ⟨q1w.holds j, True.intro⟩)
def qt.ct (k : Nat) : Ct sg := ⟨false, ⟨[(0, .st 1)], []⟩, ⟨[(0, .st 1)], []⟩, [(.st 1)], [(.st 1)], fun h => qt.f k h⟩
def qt.d : FD sg (HL sg.S [(.st 1)]) := ⟨fun k => [(112, qt.ct k)],
 [(4, ⟨⟨[(1, .one (.ptr 0 0)), (2, .one (.ptr 1 0)), (3, .one (.arr 2)), (11, .one (.val (.sl 26 (.st 1)))), (12, oI), (13, oI)], [.cells [] [.val tI, .val .str, .arr 3, .val tI, .any], .cells [] [.any, .any, .any, .any, .any], .arr 26 (.st 1), .arr 3 tI]⟩, [(.sl 26 (.st 1)), tI, tI, tI, .str, tI, (.sl 26 (.st 1)), (.sl 3 tI)], fun k h => qt.l4 k h.1 h.2.1 h.2.2.1 h.2.2.2.1 h.2.2.2.2.1 h.2.2.2.2.2.1 h.2.2.2.2.2.2.1 h.2.2.2.2.2.2.2⟩)],
 [],
 [], []⟩
theorem qt.all : ∀ k : Nat, (qt.ct k).Holds Tryz.prog 112 :=
 recOk zeroOk fun k ih =>
 fnOk sg.kit Tryz.f112 _ qt.d 1 k (fun j hj => ⟨(ih j hj), True.intro⟩)
theorem qt.holds (k : Nat) : (qt.ct k).Holds Tryz.prog 112 := (qt.all k)
def qg.ct (k : Nat) : Ct sg := ⟨false, ⟨[(0, .one (.ptr 0 0)), (1, .st 1), (2, oI)], [.cells [] [.val (.sl 26 (.st 1)), .val (.sl 197 (.st 2)), .nilf]]⟩, ⟨[(0, .one (.arr 1))], [.cells [] [.val (.sl 26 (.st 1)), .val (.sl 197 (.st 2)), .nilf], .ow false true 96 (.st 0)]⟩, [(.st 1), tI, (.sl 26 (.st 1)), (.sl 197 (.st 2))], [(.sl 26 (.st 1)), (.sl 197 (.st 2)), (.sl 96 (.st 0))], fun h => qg.f k h.1 h.2.1 h.2.2.1 h.2.2.2⟩
def qg.d : FD sg (HL sg.S [(.sl 26 (.st 1)), (.sl 197 (.st 2)), (.sl 96 (.st 0))]) := ⟨fun k => [(39, q13.ct k), (110, q17.ct k), (112, qt.ct k), (113, q1a.ct k), (114, qg.ct k)],
 [(10, ⟨⟨[(0, .one (.ptr 0 0)), (2, oI), (7, .one (.arr 1)), (8, .one (.val (.sl 26 (.st 1)))), (9, .one (.val (.po (.st 1)))), (49, .one (.val (.sl 26 (.st 1)))), (50, oI), (51, oI)], [.cells [] [.val (.sl 26 (.st 1)), .val (.sl 197 (.st 2)), .nilf], .ow false true 96 (.st 0)]⟩, [tI, (.sl 26 (.st 1)), (.po (.st 1)), (.sl 26 (.st 1)), tI, tI, (.sl 26 (.st 1)), (.sl 197 (.st 2)), (.sl 96 (.st 0))], fun k h => qg.l10 k h.1 h.2.1 h.2.2.1 h.2.2.2.1 h.2.2.2.2.1 h.2.2.2.2.2.1 h.2.2.2.2.2.2.1 h.2.2.2.2.2.2.2.1 h.2.2.2.2.2.2.2.2⟩)],
 [(5, ⟨⟨[(2, oI), (4, .one (.ptr 1 0)), (7, .one (.arr 2)), (33, oB)], [.cells [] [.val (.sl 26 (.st 1)), .val (.sl 197 (.st 2)), .nilf], .cells [] [.val tI, .val .str, .val (.sl 3 tI), .val tI, .val (.sl 26 (.st 1))], .ow false true 96 (.st 0)]⟩, [tI, .bool, (.sl 26 (.st 1)), (.sl 197 (.st 2)), tI, .str, (.sl 3 tI), tI, (.sl 26 (.st 1)), (.sl 96 (.st 0))], fun k h => qg.j5 k h.1 h.2.1 h.2.2.1 h.2.2.2.1 h.2.2.2.2.1 h.2.2.2.2.2.1 h.2.2.2.2.2.2.1 h.2.2.2.2.2.2.2.1 h.2.2.2.2.2.2.2.2.1 h.2.2.2.2.2.2.2.2.2⟩),
 (8, ⟨⟨[(0, .one (.ptr 0 0)), (2, oI), (4, .one (.ptr 1 0)), (7, .one (.arr 2)), (41, oB)], [.cells [] [.val (.sl 26 (.st 1)), .val (.sl 197 (.st 2)), .nilf], .cells [] [.val tI, .val .str, .val (.sl 3 tI), .val tI, .val (.sl 26 (.st 1))], .ow false true 96 (.st 0)]⟩, [tI, .bool, (.sl 26 (.st 1)), (.sl 197 (.st 2)), tI, .str, (.sl 3 tI), tI, (.sl 26 (.st 1)), (.sl 96 (.st 0))], fun k h => qg.j8 k h.1 h.2.1 h.2.2.1 h.2.2.2.1 h.2.2.2.2.1 h.2.2.2.2.2.1 h.2.2.2.2.2.2.1 h.2.2.2.2.2.2.2.1 h.2.2.2.2.2.2.2.2.1 h.2.2.2.2.2.2.2.2.2⟩),
 (15, ⟨⟨[(0, .one (.ptr 0 0)), (2, oI), (7, .one (.arr 1)), (8, .one (.val (.sl 26 (.st 1)))), (9, .one (.val (.po (.st 1)))), (11, .one (.ptr 2 0)), (12, oI), (49, .one (.val (.sl 26 (.st 1)))), (50, oI), (51, oI)], [.cells [] [.val (.sl 26 (.st 1)), .val (.sl 197 (.st 2)), .nilf], .ow false true 96 (.st 0), .cells [] [.val tI, .val .str, .val (.sl 3 tI), .val tI, .val (.sl 26 (.st 1))]]⟩, [tI, (.sl 26 (.st 1)), (.po (.st 1)), tI, (.sl 26 (.st 1)), tI, tI, (.sl 26 (.st 1)), (.sl 197 (.st 2)), (.sl 96 (.st 0)), tI, .str, (.sl 3 tI), tI, (.sl 26 (.st 1))], fun k h => qg.j15 k h.1 h.2.1 h.2.2.1 h.2.2.2.1 h.2.2.2.2.1 h.2.2.2.2.2.1 h.2.2.2.2.2.2.1 h.2.2.2.2.2.2.2.1 h.2.2.2.2.2.2.2.2.1 h.2.2.2.2.2.2.2.2.2.1 h.2.2.2.2.2.2.2.2.2.2.1 h.2.2.2.2.2.2.2.2.2.2.2.1 h.2.2.2.2.2.2.2.2.2.2.2.2.1 h.2.2.2.2.2.2.2.2.2.2.2.2.2.1 h.2.2.2.2.2.2.2.2.2.2.2.2.2.2⟩)],
 [(4, [[0, 1, 2, 3, 4, 5, 6, 7, 8, 9, 10, 11, 12, 13, 14, 15, 16]])], [39, 40, 77, 88]⟩
theorem qg.all : ∀ k : Nat, (qg.ct k).Holds Tryz.prog 114 :=
 recOk zeroOk fun k ih =>
 fnOk sg.kit Tryz.f114 _ qg.d 4 k (fun j hj => ⟨q13.holds j, q17.holds j, qt.holds j, q1a.holds j, (ih j hj), True.intro⟩)
theorem qg.holds (k : Nat) : (qg.ct k).Holds Tryz.prog 114 := (qg.all k)
def q1o.ct (k : Nat) : Ct sg := ⟨false, ⟨[(0, .one (.val (.sl 26 (.st 1)))), (1, .st 1)], []⟩, ⟨[(0, .st 1)], []⟩, [(.sl 26 (.st 1)), (.st 1)], [(.st 1)], fun h => q1o.f k h.1 h.2⟩
def q1o.d : FD sg (HL sg.S [(.st 1)]) := ⟨fun _ => [],
 [],
 [(100005, ⟨⟨[(3, .one (.ptr 0 0)), (4, .one (.ptr 1 0)), (5, .one (.arr 2))], [.cells [] [.val tI, .any, .any, .any, .val (.sl 26 (.st 1))], .cells [] [.any, .any, .any, .any, .any], .arr 26 (.st 1)]⟩, [tI, (.sl 26 (.st 1)), (.sl 26 (.st 1))], fun k h => q1o.d5 k h.1 h.2.1 h.2.2⟩)],
 [(5, [[0, 2, 3, 4, 1, 5, 6, 7], [0, 2, 3, 4, 5, 1, 6, 7]])], []⟩
theorem q1o.holds (k : Nat) : (q1o.ct k).Holds Tryz.prog 115 :=
 fnOk sg.kit Tryz.f115 _ q1o.d 2 k (fun _ _ => True.intro)
def q7.ct (k : Nat) : Ct sg := ⟨false, ⟨[(0, .one (.ptr 0 0)), (1, .st 1), (2, .st 1)], [.cells [] [.val (.sl 26 (.st 1)), .val (.sl 197 (.st 2)), .nilf]]⟩, ⟨[(0, .one (.arr 1)), (1, oB)], [.cells [] [.val (.sl 26 (.st 1)), .val (.sl 197 (.st 2)), .nilf], .arr 96 (.st 0)]⟩, [(.st 1), (.st 1), (.sl 26 (.st 1)), (.sl 197 (.st 2))], [.bool, (.sl 26 (.st 1)), (.sl 197 (.st 2)), (.sl 96 (.st 0))], fun h => q7.f k h.1 h.2.1 h.2.2.1 h.2.2.2⟩
def q7.d : FD sg (HL sg.S [.bool, (.sl 26 (.st 1)), (.sl 197 (.st 2)), (.sl 96 (.st 0))]) := ⟨fun k => [(36, q7.ct k), (39, q13.ct k), (110, q17.ct k), (111, qn.ct k), (112, qt.ct k), (113, q1a.ct k), (114, qg.ct k), (115, q1o.ct k)],
 [(22, ⟨⟨[(0, .one (.ptr 0 0)), (4, .one (.ptr 1 0)), (12, .one (.val (.sl 26 (.st 1)))), (13, .one (.val (.po (.st 1)))), (14, .one (.val (.sl 26 (.st 1)))), (15, .one (.val (.po (.st 1)))), (16, oI), (141, .one (.val (.sl 26 (.st 1)))), (142, oI), (143, oI)], [.cells [] [.val (.sl 26 (.st 1)), .val (.sl 197 (.st 2)), .nilf], .cells [] [.val tI, .any, .any, .any, .any]]⟩, [(.sl 26 (.st 1)), (.po (.st 1)), (.sl 26 (.st 1)), (.po (.st 1)), tI, (.sl 26 (.st 1)), tI, tI, (.sl 26 (.st 1)), (.sl 197 (.st 2)), tI], fun k h => q7.l22 k h.1 h.2.1 h.2.2.1 h.2.2.2.1 h.2.2.2.2.1 h.2.2.2.2.2.1 h.2.2.2.2.2.2.1 h.2.2.2.2.2.2.2.1 h.2.2.2.2.2.2.2.2.1 h.2.2.2.2.2.2.2.2.2.1 h.2.2.2.2.2.2.2.2.2.2⟩),
 (35, ⟨⟨[(0, .one (.ptr 0 0)), (12, .one (.val (.sl 26 (.st 1)))), (13, .one (.val (.po (.st 1)))), (14, .one (.val (.sl 26 (.st 1)))), (15, .one (.val (.po (.st 1)))), (16, oI), (19, oI), (20, .one (.arr 1)), (21, oI), (22, oI)], [.cells [] [.val (.sl 26 (.st 1)), .val (.sl 197 (.st 2)), .nilf], .arr 96 (.st 0)]⟩, [(.sl 26 (.st 1)), (.po (.st 1)), (.sl 26 (.st 1)), (.po (.st 1)), tI, tI, tI, tI, (.sl 26 (.st 1)), (.sl 197 (.st 2)), (.sl 96 (.st 0))], fun k h => q7.l35 k h.1 h.2.1 h.2.2.1 h.2.2.2.1 h.2.2.2.2.1 h.2.2.2.2.2.1 h.2.2.2.2.2.2.1 h.2.2.2.2.2.2.2.1 h.2.2.2.2.2.2.2.2.1 h.2.2.2.2.2.2.2.2.2.1 h.2.2.2.2.2.2.2.2.2.2⟩),
 (46, ⟨⟨[(0, .one (.ptr 0 0)), (12, .one (.val (.sl 26 (.st 1)))), (13, .one (.val (.po (.st 1)))), (14, .one (.val (.sl 26 (.st 1)))), (15, .one (.val (.po (.st 1)))), (16, oI), (19, oI), (20, .one (.arr 1)), (21, oI), (22, oI), (25, .one (.arr 2)), (26, oI)], [.cells [] [.val (.sl 26 (.st 1)), .val (.sl 197 (.st 2)), .nilf], .arr 96 (.st 0), .ow false true 96 (.st 0)]⟩, [(.sl 26 (.st 1)), (.po (.st 1)), (.sl 26 (.st 1)), (.po (.st 1)), tI, tI, tI, tI, tI, (.sl 26 (.st 1)), (.sl 197 (.st 2)), (.sl 96 (.st 0)), (.sl 96 (.st 0))], fun k h => q7.l46 k h.1 h.2.1 h.2.2.1 h.2.2.2.1 h.2.2.2.2.1 h.2.2.2.2.2.1 h.2.2.2.2.2.2.1 h.2.2.2.2.2.2.2.1 h.2.2.2.2.2.2.2.2.1 h.2.2.2.2.2.2.2.2.2.1 h.2.2.2.2.2.2.2.2.2.2.1 h.2.2.2.2.2.2.2.2.2.2.2.1 h.2.2.2.2.2.2.2.2.2.2.2.2⟩),
 (52, ⟨⟨[(0, .one (.ptr 0 0)), (12, .one (.val (.sl 26 (.st 1)))), (13, .one (.val (.po (.st 1)))), (14, .one (.val (.sl 26 (.st 1)))), (15, .one (.val (.po (.st 1)))), (16, oI), (19, oI), (20, .one (.arr 1)), (21, oI), (22, oI), (25, .one (.arr 2)), (26, oI), (27, .one (.arr 3)), (239, oI), (240, oI)], [.cells [] [.val (.sl 26 (.st 1)), .val (.sl 197 (.st 2)), .nilf], .arr 96 (.st 0), .ow false true 96 (.st 0), .arr 96 (.st 0)]⟩, [(.sl 26 (.st 1)), (.po (.st 1)), (.sl 26 (.st 1)), (.po (.st 1)), tI, tI, tI, tI, tI, tI, tI, (.sl 26 (.st 1)), (.sl 197 (.st 2)), (.sl 96 (.st 0)), (.sl 96 (.st 0)), (.sl 96 (.st 0))], fun k h => q7.l52 k h.1 h.2.1 h.2.2.1 h.2.2.2.1 h.2.2.2.2.1 h.2.2.2.2.2.1 h.2.2.2.2.2.2.1 h.2.2.2.2.2.2.2.1 h.2.2.2.2.2.2.2.2.1 h.2.2.2.2.2.2.2.2.2.1 h.2.2.2.2.2.2.2.2.2.2.1 h.2.2.2.2.2.2.2.2.2.2.2.1 h.2.2.2.2.2.2.2.2.2.2.2.2.1 h.2.2.2.2.2.2.2.2.2.2.2.2.2.1 h.2.2.2.2.2.2.2.2.2.2.2.2.2.2.1 h.2.2.2.2.2.2.2.2.2.2.2.2.2.2.2⟩)],
 [(100013, ⟨⟨[(4, .one (.ptr 1 0)), (5, .one (.ptr 2 0))], [.cells [] [.val (.sl 26 (.st 1)), .val (.sl 197 (.st 2)), .nilf], .cells [] [.val tI, .val .str, .val (.sl 3 tI), .val tI, .val (.sl 26 (.st 1))], .cells [] [.val tI, .val .str, .val (.sl 3 tI), .val tI, .val (.sl 26 (.st 1))]]⟩, [(.sl 26 (.st 1)), (.sl 197 (.st 2)), tI, .str, (.sl 3 tI), tI, (.sl 26 (.st 1)), tI, .str, (.sl 3 tI), tI, (.sl 26 (.st 1))], fun k h => q7.d13 k h.1 h.2.1 h.2.2.1 h.2.2.2.1 h.2.2.2.2.1 h.2.2.2.2.2.1 h.2.2.2.2.2.2.1 h.2.2.2.2.2.2.2.1 h.2.2.2.2.2.2.2.2.1 h.2.2.2.2.2.2.2.2.2.1 h.2.2.2.2.2.2.2.2.2.2.1 h.2.2.2.2.2.2.2.2.2.2.2⟩),
 (100054, ⟨⟨[(0, .one (.ptr 0 0)), (12, .one (.val (.sl 26 (.st 1)))), (13, .one (.val (.po (.st 1)))), (14, .one (.val (.sl 26 (.st 1)))), (15, .one (.val (.po (.st 1)))), (16, oI), (19, oI), (20, .one (.arr 1)), (21, oI), (22, oI), (25, .one (.arr 2)), (26, oI), (27, .one (.arr 3)), (29, oI), (239, oI), (240, oI)], [.cells [] [.val (.sl 26 (.st 1)), .val (.sl 197 (.st 2)), .nilf], .arr 96 (.st 0), .ow false true 96 (.st 0), .arr 96 (.st 0)]⟩, [(.sl 26 (.st 1)), (.po (.st 1)), (.sl 26 (.st 1)), (.po (.st 1)), tI, tI, tI, tI, tI, tI, tI, tI, (.sl 26 (.st 1)), (.sl 197 (.st 2)), (.sl 96 (.st 0)), (.sl 96 (.st 0)), (.sl 96 (.st 0))], fun k h => q7.d54 k h.1 h.2.1 h.2.2.1 h.2.2.2.1 h.2.2.2.2.1 h.2.2.2.2.2.1 h.2.2.2.2.2.2.1 h.2.2.2.2.2.2.2.1 h.2.2.2.2.2.2.2.2.1 h.2.2.2.2.2.2.2.2.2.1 h.2.2.2.2.2.2.2.2.2.2.1 h.2.2.2.2.2.2.2.2.2.2.2.1 h.2.2.2.2.2.2.2.2.2.2.2.2.1 h.2.2.2.2.2.2.2.2.2.2.2.2.2.1 h.2.2.2.2.2.2.2.2.2.2.2.2.2.2.1 h.2.2.2.2.2.2.2.2.2.2.2.2.2.2.2.1 h.2.2.2.2.2.2.2.2.2.2.2.2.2.2.2.2⟩),
 (8, ⟨⟨[(0, .one (.ptr 0 0)), (4, .one (.ptr 1 0)), (5, .one (.ptr 2 0))], [.cells [] [.val (.sl 26 (.st 1)), .val (.sl 197 (.st 2)), .nilf], .cells [] [.val tI, .val .str, .val (.sl 3 tI), .val tI, .val (.sl 26 (.st 1))], .cells [] [.val tI, .val .str, .val (.sl 3 tI), .val tI, .val (.sl 26 (.st 1))]]⟩, [(.sl 26 (.st 1)), (.sl 197 (.st 2)), tI, .str, (.sl 3 tI), tI, (.sl 26 (.st 1)), tI, .str, (.sl 3 tI), tI, (.sl 26 (.st 1))], fun k h => q7.j8 k h.1 h.2.1 h.2.2.1 h.2.2.2.1 h.2.2.2.2.1 h.2.2.2.2.2.1 h.2.2.2.2.2.2.1 h.2.2.2.2.2.2.2.1 h.2.2.2.2.2.2.2.2.1 h.2.2.2.2.2.2.2.2.2.1 h.2.2.2.2.2.2.2.2.2.2.1 h.2.2.2.2.2.2.2.2.2.2.2⟩),
 (20, ⟨⟨[(0, .one (.ptr 0 0)), (4, .one (.ptr 1 0)), (12, .one (.val (.sl 26 (.st 1)))), (13, .one (.val (.po (.st 1)))), (14, .one (.val (.sl 26 (.st 1)))), (15, .one (.val (.po (.st 1))))], [.cells [] [.val (.sl 26 (.st 1)), .val (.sl 197 (.st 2)), .nilf], .cells [] [.val tI, .any, .any, .any, .any]]⟩, [(.sl 26 (.st 1)), (.po (.st 1)), (.sl 26 (.st 1)), (.po (.st 1)), (.sl 26 (.st 1)), (.sl 197 (.st 2)), tI], fun k h => q7.j20 k h.1 h.2.1 h.2.2.1 h.2.2.2.1 h.2.2.2.2.1 h.2.2.2.2.2.1 h.2.2.2.2.2.2⟩),
 (30, ⟨⟨[(0, .one (.ptr 0 0)), (4, .one (.ptr 1 0)), (12, .one (.val (.sl 26 (.st 1)))), (13, .one (.val (.po (.st 1)))), (14, .one (.val (.sl 26 (.st 1)))), (15, .one (.val (.po (.st 1)))), (16, oI), (19, oI)], [.cells [] [.val (.sl 26 (.st 1)), .val (.sl 197 (.st 2)), .nilf], .cells [] [.val tI, .any, .any, .any, .any]]⟩, [(.sl 26 (.st 1)), (.po (.st 1)), (.sl 26 (.st 1)), (.po (.st 1)), tI, tI, (.sl 26 (.st 1)), (.sl 197 (.st 2)), tI], fun k h => q7.j30 k h.1 h.2.1 h.2.2.1 h.2.2.2.1 h.2.2.2.2.1 h.2.2.2.2.2.1 h.2.2.2.2.2.2.1 h.2.2.2.2.2.2.2.1 h.2.2.2.2.2.2.2.2⟩),
 (32, ⟨⟨[(0, .one (.ptr 0 0)), (12, .one (.val (.sl 26 (.st 1)))), (13, .one (.val (.po (.st 1)))), (14, .one (.val (.sl 26 (.st 1)))), (15, .one (.val (.po (.st 1)))), (16, oI), (19, oI)], [.cells [] [.val (.sl 26 (.st 1)), .val (.sl 197 (.st 2)), .nilf]]⟩, [(.sl 26 (.st 1)), (.po (.st 1)), (.sl 26 (.st 1)), (.po (.st 1)), tI, tI, (.sl 26 (.st 1)), (.sl 197 (.st 2))], fun k h => q7.j32 k h.1 h.2.1 h.2.2.1 h.2.2.2.1 h.2.2.2.2.1 h.2.2.2.2.2.1 h.2.2.2.2.2.2.1 h.2.2.2.2.2.2.2⟩),
 (63, ⟨⟨[(0, .one (.ptr 0 0)), (13, .one (.val (.po (.st 1)))), (20, .one (.arr 1)), (30, .one (.ptr 2 0))], [.cells [] [.val (.sl 26 (.st 1)), .val (.sl 197 (.st 2)), .nilf], .arr 96 (.st 0), .cells [] [.val tI, .val .str, .val (.sl 3 tI), .val tI, .val (.sl 26 (.st 1))]]⟩, [(.po (.st 1)), (.sl 26 (.st 1)), (.sl 197 (.st 2)), (.sl 96 (.st 0)), tI, .str, (.sl 3 tI), tI, (.sl 26 (.st 1))], fun k h => q7.j63 k h.1 h.2.1 h.2.2.1 h.2.2.2.1 h.2.2.2.2.1 h.2.2.2.2.2.1 h.2.2.2.2.2.2.1 h.2.2.2.2.2.2.2.1 h.2.2.2.2.2.2.2.2⟩)],
 [(3, [[0, 1, 2, 3, 4, 5]]), (7, [[0, 1, 2, 3, 4, 5, 6]]), (8, [[0, 1, 2, 3, 4, 5, 6, 7, 8, 9, 10]]), (9, [[0, 1, 2, 3, 4, 5, 6, 7, 8, 9, 10]]), (10, [[0, 1, 2, 3, 4, 5, 6, 7, 8, 9, 10, 11, 12, 13, 14, 15, 16, 17, 18, 19, 20, 21, 22, 23, 24, 25, 26, 27]]), (13, [[0, 1, 2, 3, 4, 5, 6, 7], [0, 2, 1, 3, 4, 5, 6, 7]]), (15, [[0, 1, 2, 3, 4, 5, 6, 7, 8, 9, 10, 11]]), (38, [[0, 1, 2, 3, 4, 5, 6, 7, 8, 9, 10, 11, 12, 13, 14]]), (48, [[0, 1, 2, 3, 4, 5, 6, 7, 8, 9, 10, 11, 12, 13, 14]]), (54, [[0, 1, 2, 3, 5, 6, 7, 4, 9, 8, 10, 11, 12, 14, 15, 13, 16], [0, 1, 2, 3, 5, 6, 7, 4, 9, 8, 10, 11, 12, 14, 15, 16, 13], [0, 1, 2, 3, 5, 6, 7, 4, 9, 10, 8, 11, 12, 14, 15, 13, 16], [0, 1, 2, 3, 5, 6, 7, 4, 9, 10, 8, 11, 12, 14, 15, 16, 13], [0, 1, 2, 3, 5, 6, 7, 8, 4, 9, 10, 11, 12, 14, 15, 13, 16], [0, 1, 2, 3, 5, 6, 7, 8, 4, 9, 10, 11, 12, 14, 15, 16, 13], [0, 1, 2, 3, 5, 6, 7, 8, 10, 4, 9, 11, 12, 14, 15, 13, 16], [0, 1, 2, 3, 5, 6, 7, 8, 10, 4, 9, 11, 12, 14, 15, 16, 13], [0, 1, 2, 3, 5, 6, 7, 10, 4, 8, 9, 11, 12, 14, 15, 13, 16], [0, 1, 2, 3, 5, 6, 7, 10, 4, 8, 9, 11, 12, 14, 15, 16, 13]]), (62, [[0, 1, 2, 3, 4, 5, 6, 7]]), (63, [[0, 1, 2, 3, 4, 5, 6, 7, 8, 9, 10]])], []⟩
theorem q7.all : ∀ k : Nat, (q7.ct k).Holds Tryz.prog 36 :=
 recOk zeroOk fun k ih =>
 fnOk sg.kit Tryz.f36 _ q7.d 21 k (fun j hj => ⟨(ih j hj), q13.holds j, q17.holds j, qn.holds j, qt.holds j, q1a.holds j, qg.holds j, q1o.holds j, True.intro⟩)
theorem q7.holds (k : Nat) : (q7.ct k).Holds Tryz.prog 36 := (q7.all k)
def q2b.ct (k : Nat) : Ct sg := ⟨false, ⟨[(0, .st 1), (1, .one (.val (.sl 26 (.st 1)))), (2, .st 1), (3, .one (.val (.sl 197 (.st 2))))], []⟩, ⟨[(0, .one (.arr 0)), (1, oB)], [.arr 96 (.st 0)]⟩, [(.st 1), (.sl 26 (.st 1)), (.st 1), (.sl 197 (.st 2))], [.bool, (.sl 96 (.st 0))], fun h => q2b.f k h.1 h.2.1 h.2.2.1 h.2.2.2⟩
def q2b.d : FD sg (HL sg.S [.bool, (.sl 96 (.st 0))]) := ⟨fun k => [(10, q1t.ct k), (23, q15.ct k), (36, q7.ct k)],
 [],
 [],
 [], []⟩
theorem q2b.holds (k : Nat) : (q2b.ct k).Holds Tryz.prog 7 :=
 fnOk sg.kit Tryz.f7 _ q2b.d 0 k (fun j _ => ⟨q1t.holds j, q15.holds j, q7.holds j, True.intro⟩)
def q1m.ct (k : Nat) : Ct sg := ⟨true, ⟨[(0, oS)], []⟩, ⟨[(0, oB)], []⟩, [.str], [.bool], fun h => q1m.f k h⟩
def q1m.d : FD sg (HL sg.S [.bool]) := ⟨fun _ => [],
 [(2, ⟨⟨[(0, oS), (3, oI)], []⟩, [.str, tI], fun k h => q1m.l2 k h.1 h.2⟩)],
 [],
 [], []⟩
theorem q1m.holds (k : Nat) : (q1m.ct k).Holds Tryz.prog 200 :=
 fnOk sg.kit Tryz.f200 _ q1m.d 1 k (fun _ _ => True.intro)
def qs.ct (k : Nat) : Ct sg := ⟨true, ⟨[(0, oS)], []⟩, ⟨[(0, oB)], []⟩, [.str], [.bool], fun h => qs.f k h⟩
def qs.d : FD sg (HL sg.S [.bool]) := ⟨fun k => [(200, q1m.ct k)],
 [(6, ⟨⟨[(0, oS), (3, oI)], []⟩, [.str, tI], fun k h => qs.l6 k h.1 h.2⟩)],
 [(3, ⟨⟨[(0, oS)], []⟩, [.str], fun k h => qs.j3 k h⟩),
 (5, ⟨⟨[(0, oS)], []⟩, [.str], fun k h => qs.j5 k h⟩)],
 [], []⟩
theorem qs.holds (k : Nat) : (qs.ct k).Holds Tryz.prog 170 :=
 fnOk sg.kit Tryz.f170 _ qs.d 3 k (fun j _ => ⟨q1m.holds j, True.intro⟩)
def q2j.ct (k : Nat) : Ct sg := ⟨true, ⟨[(0, .one (.val (.int .u8)))], []⟩, ⟨[(0, oB)], []⟩, [(.int .u8)], [.bool], fun h => q2j.f k h⟩
def q2j.d : FD sg (HL sg.S [.bool]) := ⟨fun _ => [],
 [],
 [],
 [], []⟩
theorem q2j.holds (k : Nat) : (q2j.ct k).Holds Tryz.prog 222 :=
 fnOk sg.kit Tryz.f222 _ q2j.d 0 k (fun _ _ => True.intro)
def q2e.ct (k : Nat) : Ct sg := ⟨true, ⟨[(0, .one (.val (.int .u8)))], []⟩, ⟨[(0, oB)], []⟩, [(.int .u8)], [.bool], fun h => q2e.f k h⟩
def q2e.d : FD sg (HL sg.S [.bool]) := ⟨fun k => [(222, q2j.ct k)],
 [],
 [],
 [], []⟩
theorem q2e.holds (k : Nat) : (q2e.ct k).Holds Tryz.prog 199 :=
 fnOk sg.kit Tryz.f199 _ q2e.d 0 k (fun j _ => ⟨q2j.holds j, True.intro⟩)
def q1g.ct (k : Nat) : Ct sg := ⟨true, ⟨[(0, oS)], []⟩, ⟨[(0, oB)], []⟩, [.str], [.bool], fun h => q1g.f k h⟩
def q1g.d : FD sg (HL sg.S [.bool]) := ⟨fun k => [(170, qs.ct k), (199, q2e.ct k)],
 [(4, ⟨⟨[(0, oS), (3, oI)], []⟩, [.str, tI], fun k h => q1g.l4 k h.1 h.2⟩)],
 [(3, ⟨⟨[(0, oS)], []⟩, [.str], fun k h => q1g.j3 k h⟩)],
 [], []⟩
theorem q1g.holds (k : Nat) : (q1g.ct k).Holds Tryz.prog 168 :=
 fnOk sg.kit Tryz.f168 _ q1g.d 2 k (fun j _ => ⟨qs.holds j, q2e.holds j, True.intro⟩)
def q1v.ct (k : Nat) : Ct sg := ⟨true, ⟨[(0, .one (.val (.sl 3 tI)))], []⟩, ⟨[(0, oB)], []⟩, [(.sl 3 tI)], [.bool], fun h => q1v.f k h⟩
def q1v.d : FD sg (HL sg.S [.bool]) := ⟨fun _ => [],
 [(2, ⟨⟨[(0, .one (.val (.sl 3 tI))), (3, oI)], []⟩, [(.sl 3 tI), tI], fun k h => q1v.l2 k h.1 h.2⟩)],
 [],
 [(4, [[0, 1, 2, 3, 4, 5, 6, 7, 8, 9, 10, 11, 12, 13, 14, 15, 16, 17, 18, 19, 20]])], []⟩
theorem q1v.holds (k : Nat) : (q1v.ct k).Holds Tryz.prog 169 :=
 fnOk sg.kit Tryz.f169 _ q1v.d 1 k (fun _ _ => True.intro)
def qj.ct (k : Nat) : Ct sg := ⟨true, ⟨[(0, .st 1), (1, oI)], []⟩, ⟨[(0, oB)], []⟩, [(.st 1), tI], [.bool], fun h => qj.f k h.1 h.2⟩
def qj.d : FD sg (HL sg.S [.bool]) := ⟨fun k => [(97, qj.ct k), (168, q1g.ct k), (169, q1v.ct k), (170, qs.ct k)],
 [(14, ⟨⟨[(1, oI), (2, .one (.ptr 0 0)), (5, oI)], [.cells [] [.val tI, .any, .any, .any, .val (.sl 26 (.st 1))]]⟩, [tI, tI, tI, (.sl 26 (.st 1))], fun k h => qj.l14 k h.1 h.2.1 h.2.2.1 h.2.2.2⟩)],
 [(11, ⟨⟨[(1, oI), (2, .one (.ptr 0 0)), (64, oB)], [.cells [] [.val tI, .val .str, .val (.sl 3 tI), .val tI, .val (.sl 26 (.st 1))]]⟩, [tI, .bool, tI, .str, (.sl 3 tI), tI, (.sl 26 (.st 1))], fun k h => qj.j11 k h.1 h.2.1 h.2.2.1 h.2.2.2.1 h.2.2.2.2.1 h.2.2.2.2.2.1 h.2.2.2.2.2.2⟩),
 (13, ⟨⟨[(1, oI), (2, .one (.ptr 0 0))], [.cells [] [.val tI, .any, .any, .any, .val (.sl 26 (.st 1))]]⟩, [tI, tI, (.sl 26 (.st 1))], fun k h => qj.j13 k h.1 h.2.1 h.2.2⟩)],
 [], []⟩
theorem qj.all : ∀ k : Nat, (qj.ct k).Holds Tryz.prog 97 :=
 recOk zeroOk fun k ih =>
 fnOk sg.kit Tryz.f97 _ qj.d 3 k (fun j hj => ⟨(ih j hj), q1g.holds j, q1v.holds j, qs.holds j, True.intro⟩)
theorem qj.holds (k : Nat) : (qj.ct k).Holds Tryz.prog 97 := (qj.all k)
def q1c.ct (k : Nat) : Ct sg := ⟨true, ⟨[(0, .st 1)], []⟩, ⟨[(0, oI)], []⟩, [(.st 1)], [tI], fun h => q1c.f k h⟩
def q1c.d : FD sg (HL sg.S [tI]) := ⟨fun k => [(98, q1c.ct k)],
 [(3, ⟨⟨[(1, .one (.ptr 0 0)), (3, oI), (4, oI)], [.cells [] [.any, .any, .any, .any, .val (.sl 26 (.st 1))]]⟩, [tI, tI, (.sl 26 (.st 1))], fun k h => q1c.l3 k h.1 h.2.1 h.2.2⟩)],
 [],
 [], []⟩
theorem q1c.all : ∀ k : Nat, (q1c.ct k).Holds Tryz.prog 98 :=
 recOk zeroOk fun k ih =>
 fnOk sg.kit Tryz.f98 _ q1c.d 1 k (fun j hj => ⟨(ih j hj), True.intro⟩)
theorem q1c.holds (k : Nat) : (q1c.ct k).Holds Tryz.prog 98 := (q1c.all k)
def q25.ct (k : Nat) : Ct sg := ⟨true, ⟨[(0, .st 1)], []⟩, ⟨[(0, oB)], []⟩, [(.st 1)], [.bool], fun h => q25.f k h⟩
def q25.d : FD sg (HL sg.S [.bool]) := ⟨fun k => [(97, qj.ct k), (98, q1c.ct k)],
 [],
 [],
 [], []⟩
theorem q25.holds (k : Nat) : (q25.ct k).Holds Tryz.prog 25 :=
 fnOk sg.kit Tryz.f25 _ q25.d 0 k (fun j _ => ⟨qj.holds j, q1c.holds j, True.intro⟩)
def q1y.ct (k : Nat) : Ct sg := ⟨true, ⟨[(0, .st 1)], []⟩, ⟨[(0, oB)], []⟩, [(.st 1)], [.bool], fun h => q1y.f k h⟩
def q1y.d : FD sg (HL sg.S [.bool]) := ⟨fun _ => [],
 [],
 [],
 [], []⟩
theorem q1y.holds (k : Nat) : (q1y.ct k).Holds Tryz.prog 117 :=
 fnOk sg.kit Tryz.f117 _ q1y.d 0 k (fun _ _ => True.intro)
def q1x.ct (k : Nat) : Ct sg := ⟨true, ⟨[(0, .one (.val (.sl 26 (.st 1))))], []⟩, ⟨[(0, oB)], []⟩, [(.sl 26 (.st 1))], [.bool], fun h => q1x.f k h⟩
def q1x.d : FD sg (HL sg.S [.bool]) := ⟨fun k => [(25, q25.ct k), (108, qw.ct k), (117, q1y.ct k)],
 [(2, ⟨⟨[(0, .one (.val (.sl 26 (.st 1)))), (3, oI)], []⟩, [(.sl 26 (.st 1)), tI], fun k h => q1x.l2 k h.1 h.2⟩)],
 [],
 [], []⟩
theorem q1x.holds (k : Nat) : (q1x.ct k).Holds Tryz.prog 41 :=
 fnOk sg.kit Tryz.f41 _ q1x.d 1 k (fun j _ => ⟨q25.holds j, qw.holds j, q1y.holds j, True.intro⟩)
def qr.ct (k : Nat) : Ct sg := ⟨true, ⟨[(0, .st 1)], []⟩, ⟨[(0, oI)], []⟩, [(.st 1)], [tI], fun h => qr.f k h⟩
def qr.d : FD sg (HL sg.S [tI]) := ⟨fun k => [(107, qz.ct k), (108, qw.ct k)],
 [(4, ⟨⟨[(3, oI), (4, .one (.val (.sl 26 (.st 1)))), (5, oI)], []⟩, [tI, (.sl 26 (.st 1)), tI], fun k h => qr.l4 k h.1 h.2.1 h.2.2⟩)],
 [],
 [], []⟩
theorem qr.holds (k : Nat) : (qr.ct k).Holds Tryz.prog 119 :=
 fnOk sg.kit Tryz.f119 _ qr.d 1 k (fun j _ => ⟨qz.holds j, qw.holds j, True.intro⟩)
def ql.ct (k : Nat) : Ct sg := ⟨true, ⟨[(0, .st 1)], []⟩, ⟨[(0, oB)], []⟩, [(.st 1)], [.bool], fun h => ql.f k h⟩
def ql.d : FD sg (HL sg.S [.bool]) := ⟨fun k => [(42, ql.ct k), (108, qw.ct k), (119, qr.ct k)],
 [(8, ⟨⟨[(1, .one (.ptr 0 0)), (3, oI)], [.cells [] [.any, .any, .any, .any, .val (.sl 26 (.st 1))]]⟩, [tI, (.sl 26 (.st 1))], fun k h => ql.l8 k h.1 h.2⟩)],
 [(7, ⟨⟨[(1, .one (.ptr 0 0))], [.cells [] [.any, .any, .any, .any, .val (.sl 26 (.st 1))]]⟩, [(.sl 26 (.st 1))], fun k h => ql.j7 k h⟩)],
 [], []⟩
theorem ql.all : ∀ k : Nat, (ql.ct k).Holds Tryz.prog 42 :=
 recOk zeroOk fun k ih =>
 fnOk sg.kit Tryz.f42 _ ql.d 2 k (fun j hj => ⟨(ih j hj), qw.holds j, qr.holds j, True.intro⟩)
theorem ql.holds (k : Nat) : (ql.ct k).Holds Tryz.prog 42 := (ql.all k)
def q1u.ct (k : Nat) : Ct sg := ⟨true, ⟨[(0, .one (.val (.sl 3 tI))), (1, .one (.val (.sl 3 tI)))], []⟩, ⟨[(0, oB)], []⟩, [(.sl 3 tI), (.sl 3 tI)], [.bool], fun h => q1u.f k h.1 h.2⟩
def q1u.d : FD sg (HL sg.S [.bool]) := ⟨fun _ => [],
 [(4, ⟨⟨[(0, .one (.val (.sl 3 tI))), (1, .one (.val (.sl 3 tI))), (5, oI)], []⟩, [(.sl 3 tI), (.sl 3 tI), tI], fun k h => q1u.l4 k h.1 h.2.1 h.2.2⟩)],
 [],
 [(6, [[0, 1, 2, 3, 4, 5, 6, 7, 8]])], []⟩
theorem q1u.holds (k : Nat) : (q1u.ct k).Holds Tryz.prog 180 :=
 fnOk sg.kit Tryz.f180 _ q1u.d 1 k (fun _ _ => True.intro)
def q2g.ct (k : Nat) : Ct sg := ⟨true, ⟨[(0, .st 1), (1, .st 1)], []⟩, ⟨[(0, oB)], []⟩, [(.st 1), (.st 1)], [.bool], fun h => q2g.f k h.1 h.2⟩
def q2g.d : FD sg (HL sg.S [.bool]) := ⟨fun k => [(180, q1u.ct k)],
 [],
 [],
 [], []⟩
theorem q2g.holds (k : Nat) : (q2g.ct k).Holds Tryz.prog 120 :=
 fnOk sg.kit Tryz.f120 _ q2g.d 0 k (fun j _ => ⟨q1u.holds j, True.intro⟩)
def q10.ct (k : Nat) : Ct sg := ⟨true, ⟨[(0, .one (.val (.sl 26 (.st 1)))), (1, .st 1)], []⟩, ⟨[(0, oB)], []⟩, [(.sl 26 (.st 1)), (.st 1)], [.bool], fun h => q10.f k h.1 h.2⟩
def q10.d : FD sg (HL sg.S [.bool]) := ⟨fun k => [(120, q2g.ct k)],
 [(2, ⟨⟨[(0, .one (.val (.sl 26 (.st 1)))), (3, .one (.ptr 0 0)), (5, oI)], [.cells [] [.val tI, .val .str, .val (.sl 3 tI), .val tI, .val (.sl 26 (.st 1))]]⟩, [(.sl 26 (.st 1)), tI, tI, .str, (.sl 3 tI), tI, (.sl 26 (.st 1))], fun k h => q10.l2 k h.1 h.2.1 h.2.2.1 h.2.2.2.1 h.2.2.2.2.1 h.2.2.2.2.2.1 h.2.2.2.2.2.2⟩)],
 [],
 [(4, [[0, 1, 2, 3, 4, 5]])], []⟩
theorem q10.holds (k : Nat) : (q10.ct k).Holds Tryz.prog 44 :=
 fnOk sg.kit Tryz.f44 _ q10.d 1 k (fun j _ => ⟨q2g.holds j, True.intro⟩)
def qv.ct (k : Nat) : Ct sg := ⟨false, ⟨[(0, .st 1), (1, .one (.val (.sl 26 (.st 1))))], []⟩, ⟨[(0, .one (.arr 0))], [.arr 26 (.st 1)]⟩, [(.st 1), (.sl 26 (.st 1))], [(.sl 26 (.st 1))], fun h => qv.f k h.1 h.2⟩
def qv.d : FD sg (HL sg.S [(.sl 26 (.st 1))]) := ⟨fun k => [(43, qv.ct k), (44, q10.ct k), (108, qw.ct k), (117, q1y.ct k)],
 [(7, ⟨⟨[(1, .one (.val (.sl 26 (.st 1)))), (2, .one (.ptr 0 0)), (5, .one (.arr 1)), (6, oI)], [.cells [] [.any, .any, .any, .any, .val (.sl 26 (.st 1))], .arr 26 (.st 1)]⟩, [(.sl 26 (.st 1)), tI, (.sl 26 (.st 1)), (.sl 26 (.st 1))], fun k h => qv.l7 k h.1 h.2.1 h.2.2.1 h.2.2.2⟩)],
 [],
 [], []⟩
theorem qv.all : ∀ k : Nat, (qv.ct k).Holds Tryz.prog 43 :=
 recOk zeroOk fun k ih =>
 fnOk sg.kit Tryz.f43 _ qv.d 1 k (fun j hj => ⟨(ih j hj), q10.holds j, qw.holds j, q1y.holds j, True.intro⟩)
theorem qv.holds (k : Nat) : (qv.ct k).Holds Tryz.prog 43 := (qv.all k)
def q14.ct (k : Nat) : Ct sg := ⟨true, ⟨[(0, .st 1), (1, .one (.val (.sl 26 (.st 1))))], []⟩, ⟨[(0, oB)], []⟩, [(.st 1), (.sl 26 (.st 1))], [.bool], fun h => q14.f k h.1 h.2⟩
def q14.d : FD sg (HL sg.S [.bool]) := ⟨fun k => [(25, q25.ct k), (41, q1x.ct k), (42, ql.ct k), (43, qv.ct k), (44, q10.ct k)],
 [(5, ⟨⟨[(5, .one (.val (.sl 26 (.st 1)))), (6, oI)], []⟩, [(.sl 26 (.st 1)), tI], fun k h => q14.l5 k h.1 h.2⟩)],
 [(3, ⟨⟨[(1, .one (.val (.sl 26 (.st 1)))), (2, .one (.ptr 0 0))], [.cells [] [.val tI, .val .str, .val (.sl 3 tI), .val tI, .val (.sl 26 (.st 1))]]⟩, [(.sl 26 (.st 1)), tI, .str, (.sl 3 tI), tI, (.sl 26 (.st 1))], fun k h => q14.j3 k h.1 h.2.1 h.2.2.1 h.2.2.2.1 h.2.2.2.2.1 h.2.2.2.2.2⟩)],
 [(7, [[0, 1, 2, 3, 4, 5, 6, 7]])], []⟩
theorem q14.holds (k : Nat) : (q14.ct k).Holds Tryz.prog 11 :=
 fnOk sg.kit Tryz.f11 _ q14.d 2 k (fun j _ => ⟨q25.holds j, q1x.holds j, ql.holds j, qv.holds j, q10.holds j, True.intro⟩)
def qp.ct (k : Nat) : Ct sg := ⟨true, ⟨[(0, .st 1), (1, .st 1)], []⟩, ⟨[(0, oI)], []⟩, [(.st 1), (.st 1)], [tI], fun h => qp.f k h.1 h.2⟩
def qp.d : FD sg (HL sg.S [tI]) := ⟨fun k => [(43, qv.ct k), (44, q10.ct k), (107, qz.ct k), (119, qr.ct k), (159, qp.ct k)],
 [(4, ⟨⟨[(2, .one (.ptr 0 0)), (3, .one (.ptr 1 0)), (5, .one (.val (.sl 26 (.st 1)))), (6, oI), (7, oI)], [.cells [] [.any, .any, .any, .any, .val (.sl 26 (.st 1))], .cells [] [.val tI, .val .str, .val (.sl 3 tI), .val tI, .val (.sl 26 (.st 1))]]⟩, [(.sl 26 (.st 1)), tI, tI, (.sl 26 (.st 1)), tI, .str, (.sl 3 tI), tI, (.sl 26 (.st 1))], fun k h => qp.l4 k h.1 h.2.1 h.2.2.1 h.2.2.2.1 h.2.2.2.2.1 h.2.2.2.2.2.1 h.2.2.2.2.2.2.1 h.2.2.2.2.2.2.2.1 h.2.2.2.2.2.2.2.2⟩)],
 [(100006, ⟨⟨[(2, .one (.ptr 0 0)), (3, .one (.ptr 1 0)), (5, .one (.val (.sl 26 (.st 1)))), (6, oI), (7, oI)], [.cells [] [.any, .any, .any, .any, .val (.sl 26 (.st 1))], .cells [] [.val tI, .val .str, .val (.sl 3 tI), .val tI, .val (.sl 26 (.st 1))]]⟩, [(.sl 26 (.st 1)), tI, tI, (.sl 26 (.st 1)), tI, .str, (.sl 3 tI), tI, (.sl 26 (.st 1))], fun k h => qp.d6 k h.1 h.2.1 h.2.2.1 h.2.2.2.1 h.2.2.2.2.1 h.2.2.2.2.2.1 h.2.2.2.2.2.2.1 h.2.2.2.2.2.2.2.1 h.2.2.2.2.2.2.2.2⟩)],
 [(6, [[0, 2, 1, 3, 4, 5, 6, 7, 8], [0, 2, 1, 3, 4, 5, 7, 6, 8], [0, 2, 1, 3, 4, 7, 5, 6, 8], [0, 2, 1, 3, 5, 4, 6, 7, 8], [0, 2, 1, 3, 5, 4, 7, 6, 8], [0, 2, 1, 3, 7, 4, 5, 6, 8], [0, 2, 1, 3, 7, 5, 4, 6, 8], [0, 2, 5, 1, 3, 4, 6, 7, 8], [0, 2, 5, 1, 3, 4, 7, 6, 8], [0, 2, 7, 1, 3, 4, 5, 6, 8], [0, 2, 7, 1, 3, 5, 4, 6, 8], [0, 2, 7, 5, 1, 3, 4, 6, 8]]), (7, [[0, 1, 2, 3, 4, 5, 6, 7]])], []⟩
theorem qp.all : ∀ k : Nat, (qp.ct k).Holds Tryz.prog 159 :=
 recOk zeroOk fun k ih =>
 fnOk sg.kit Tryz.f159 _ qp.d 13 k (fun j hj => ⟨qv.holds j, q10.holds j, qz.holds j, qr.holds j, (ih j hj), True.intro⟩)
theorem qp.holds (k : Nat) : (qp.ct k).Holds Tryz.prog 159 := (qp.all k)
def q1k.ct (k : Nat) : Ct sg := ⟨false, ⟨[(0, .st 1), (1, oI)], []⟩, ⟨[(0, .st 1)], []⟩, [(.st 1), tI], [(.st 1)], fun h => q1k.f k h.1 h.2⟩
def q1k.d : FD sg (HL sg.S [(.st 1)]) := ⟨fun _ => [],
 [],
 [(100003, ⟨⟨[(1, oI), (2, .one (.ptr 0 0)), (4, .one (.ptr 1 0))], [.cells [] [.val tI, .any, .any, .any, .val (.sl 26 (.st 1))], .cells [] [.any, .any, .any, .any, .any]]⟩, [tI, tI, (.sl 26 (.st 1))], fun k h => q1k.d3 k h.1 h.2.1 h.2.2⟩)],
 [(3, [[0, 3, 5, 1, 2, 4, 6, 7, 8, 9], [0, 3, 5, 1, 4, 6, 2, 7, 8, 9], [0, 3, 5, 2, 4, 6, 1, 7, 8, 9], [0, 3, 5, 2, 4, 6, 7, 1, 8, 9], [0, 3, 5, 4, 6, 1, 2, 7, 8, 9], [0, 3, 5, 4, 6, 2, 1, 7, 8, 9], [0, 3, 5, 4, 6, 2, 7, 1, 8, 9]])], []⟩
theorem q1k.holds (k : Nat) : (q1k.ct k).Holds Tryz.prog 179 :=
 fnOk sg.kit Tryz.f179 _ q1k.d 7 k (fun _ _ => True.intro)
def q23.ct (k : Nat) : Ct sg := ⟨true, ⟨[(0, .one (.val (.sl 3 tI))), (1, oI)], []⟩, ⟨[(0, oB)], []⟩, [(.sl 3 tI), tI], [.bool], fun h => q23.f k h.1 h.2⟩
def q23.d : FD sg (HL sg.S [.bool]) := ⟨fun _ => [],
 [(2, ⟨⟨[(0, .one (.val (.sl 3 tI))), (1, oI), (5, oI)], []⟩, [(.sl 3 tI), tI, tI], fun k h => q23.l2 k h.1 h.2.1 h.2.2⟩)],
 [],
 [], []⟩
theorem q23.holds (k : Nat) : (q23.ct k).Holds Tryz.prog 240 :=
 fnOk sg.kit Tryz.f240 _ q23.d 1 k (fun _ _ => True.intro)
def q1i.ct (k : Nat) : Ct sg := ⟨true, ⟨[(0, .one (.val (.sl 3 tI))), (1, .one (.val (.sl 3 tI)))], []⟩, ⟨[(0, oB)], []⟩, [(.sl 3 tI), (.sl 3 tI)], [.bool], fun h => q1i.f k h.1 h.2⟩
def q1i.d : FD sg (HL sg.S [.bool]) := ⟨fun k => [(240, q23.ct k)],
 [(2, ⟨⟨[(0, .one (.val (.sl 3 tI))), (1, .one (.val (.sl 3 tI))), (5, oI)], []⟩, [(.sl 3 tI), (.sl 3 tI), tI], fun k h => q1i.l2 k h.1 h.2.1 h.2.2⟩)],
 [],
 [], []⟩
theorem q1i.holds (k : Nat) : (q1i.ct k).Holds Tryz.prog 225 :=
 fnOk sg.kit Tryz.f225 _ q1i.d 1 k (fun j _ => ⟨q23.holds j, True.intro⟩)
def q2a.ct (k : Nat) : Ct sg := ⟨true, ⟨[(0, .st 2), (1, .st 1)], []⟩, ⟨[(0, oB)], []⟩, [(.st 2), (.st 1)], [.bool], fun h => q2a.f k h.1 h.2⟩
def q2a.d : FD sg (HL sg.S [.bool]) := ⟨fun k => [(225, q1i.ct k)],
 [],
 [],
 [], []⟩
theorem q2a.holds (k : Nat) : (q2a.ct k).Holds Tryz.prog 205 :=
 fnOk sg.kit Tryz.f205 _ q2a.d 0 k (fun j _ => ⟨q1i.holds j, True.intro⟩)
def q1s.ct (k : Nat) : Ct sg := ⟨true, ⟨[(0, .one (.val (.sl 197 (.st 2)))), (1, .st 1), (2, .one (.val (.sl 3 tI)))], []⟩, ⟨[(0, oB)], []⟩, [(.sl 197 (.st 2)), (.st 1), (.sl 3 tI)], [.bool], fun h => q1s.f k h.1 h.2.1 h.2.2⟩
def q1s.d : FD sg (HL sg.S [.bool]) := ⟨fun k => [(205, q2a.ct k), (225, q1i.ct k)],
 [(2, ⟨⟨[(0, .one (.val (.sl 197 (.st 2)))), (2, .one (.val (.sl 3 tI))), (4, .one (.ptr 0 0)), (7, oI)], [.cells [] [.val tI, .val .str, .val (.sl 3 tI), .val tI, .val (.sl 26 (.st 1))]]⟩, [(.sl 197 (.st 2)), (.sl 3 tI), tI, tI, .str, (.sl 3 tI), tI, (.sl 26 (.st 1))], fun k h => q1s.l2 k h.1 h.2.1 h.2.2.1 h.2.2.2.1 h.2.2.2.2.1 h.2.2.2.2.2.1 h.2.2.2.2.2.2.1 h.2.2.2.2.2.2.2⟩)],
 [],
 [(4, [[0, 1, 2, 3, 4, 5, 6, 7, 8, 9, 10, 11, 12, 13, 14, 15]])], []⟩
theorem q1s.holds (k : Nat) : (q1s.ct k).Holds Tryz.prog 206 :=
 fnOk sg.kit Tryz.f206 _ q1s.d 1 k (fun j _ => ⟨q2a.holds j, q1i.holds j, True.intro⟩)
def q1n.ct (k : Nat) : Ct sg := ⟨true, ⟨[(0, .one (.val (.sl 197 (.st 2)))), (1, .st 1)], []⟩, ⟨[(0, oS), (1, oI)], []⟩, [(.sl 197 (.st 2)), (.st 1)], [.str, tI], fun h => q1n.f k h.1 h.2⟩
def q1n.d : FD sg (HL sg.S [.str, tI]) := ⟨fun k => [(205, q2a.ct k), (206, q1s.ct k)],
 [(5, ⟨⟨[(0, .one (.val (.sl 197 (.st 2)))), (3, .one (.ptr 0 0)), (6, oI), (7, oI)], [.cells [] [.val tI, .val .str, .val (.sl 3 tI), .val tI, .val (.sl 26 (.st 1))]]⟩, [(.sl 197 (.st 2)), tI, tI, tI, .str, (.sl 3 tI), tI, (.sl 26 (.st 1))], fun k h => q1n.l5 k h.1 h.2.1 h.2.2.1 h.2.2.2.1 h.2.2.2.2.1 h.2.2.2.2.2.1 h.2.2.2.2.2.2.1 h.2.2.2.2.2.2.2⟩)],
 [],
 [(7, [[0, 1, 2, 3, 4, 5, 6]]), (9, [[0, 1, 2, 3, 4, 5, 6, 7]])], []⟩
theorem q1n.holds (k : Nat) : (q1n.ct k).Holds Tryz.prog 177 :=
 fnOk sg.kit Tryz.f177 _ q1n.d 1 k (fun j _ => ⟨q2a.holds j, q1s.holds j, True.intro⟩)
def q28.ct (k : Nat) : Ct sg := ⟨true, ⟨[(0, .one (.val (.sl 197 (.st 2)))), (1, .st 1), (2, .st 1)], []⟩, ⟨[(0, oB)], []⟩, [(.sl 197 (.st 2)), (.st 1), (.st 1)], [.bool], fun h => q28.f k h.1 h.2.1 h.2.2⟩
def q28.d : FD sg (HL sg.S [.bool]) := ⟨fun k => [(177, q1n.ct k)],
 [],
 [(5, ⟨⟨[(4, .one (.ptr 0 0)), (5, .one (.ptr 1 0)), (7, oS), (8, oI), (9, oS)], [.cells [] [.any, .val .str, .any, .any, .any], .cells [] [.any, .val .str, .any, .any, .any]]⟩, [.str, tI, .str, .str, .str], fun k h => q28.j5 k h.1 h.2.1 h.2.2.1 h.2.2.2.1 h.2.2.2.2⟩)],
 [], []⟩
theorem q28.holds (k : Nat) : (q28.ct k).Holds Tryz.prog 116 :=
 fnOk sg.kit Tryz.f116 _ q28.d 1 k (fun j _ => ⟨q1n.holds j, True.intro⟩)
def qd.ct (k : Nat) : Ct sg := ⟨false, ⟨[(0, .one (.ptr 0 0)), (1, .st 1), (2, .st 1)], [.cells [] [.val (.sl 26 (.st 1)), .val (.sl 197 (.st 2)), .arr 1, .arr 2], .arr 26 (.st 1), .arr 26 (.st 1)]⟩, ⟨[(0, .one (.arr 1)), (1, oB)], [.cells [] [.val (.sl 26 (.st 1)), .val (.sl 197 (.st 2)), .arr 2, .arr 3], .arr 96 (.st 0), .arr 26 (.st 1), .arr 26 (.st 1)]⟩, [(.st 1), (.st 1), (.sl 26 (.st 1)), (.sl 197 (.st 2)), (.sl 26 (.st 1)), (.sl 26 (.st 1))], [.bool, (.sl 26 (.st 1)), (.sl 197 (.st 2)), (.sl 96 (.st 0)), (.sl 26 (.st 1)), (.sl 26 (.st 1))], fun h => qd.f k h.1 h.2.1 h.2.2.1 h.2.2.2.1 h.2.2.2.2.1 h.2.2.2.2.2⟩
def q8.ct (k : Nat) : Ct sg := ⟨false, ⟨[(0, .one (.ptr 0 0)), (1, .st 1), (2, .one (.val (.sl 26 (.st 1))))], [.cells [] [.val (.sl 26 (.st 1)), .val (.sl 197 (.st 2)), .arr 1, .arr 2], .arr 26 (.st 1), .arr 26 (.st 1)]⟩, ⟨[(0, .one (.val (.sl 96 (.st 0)))), (1, oB)], [.cells [] [.val (.sl 26 (.st 1)), .val (.sl 197 (.st 2)), .arr 1, .arr 2], .arr 26 (.st 1), .arr 26 (.st 1)]⟩, [(.st 1), (.sl 26 (.st 1)), (.sl 26 (.st 1)), (.sl 197 (.st 2)), (.sl 26 (.st 1)), (.sl 26 (.st 1))], [(.sl 96 (.st 0)), .bool, (.sl 26 (.st 1)), (.sl 197 (.st 2)), (.sl 26 (.st 1)), (.sl 26 (.st 1))], fun h => q8.f k h.1 h.2.1 h.2.2.1 h.2.2.2.1 h.2.2.2.2.1 h.2.2.2.2.2⟩
def q6.p_d29 : Pat := ⟨[(0, .one (.ptr 0 0)), (4, .one (.ptr 1 0)), (5, .one (.ptr 2 0)), (12, .one (.arr 3)), (13, oI)], [.cells [] [.val (.sl 26 (.st 1)), .val (.sl 197 (.st 2)), .arr 4, .arr 5], .cells [] [.any, .any, .any, .any, .val (.sl 26 (.st 1))], .cells [] [.val tI, .val .str, .val (.sl 3 tI), .val tI, .val (.sl 26 (.st 1))], .arr 96 (.st 0), .arr 26 (.st 1), .arr 26 (.st 1)]⟩
def q6.c_d29 : Cut sg (HL sg.S [.bool, (.sl 26 (.st 1)), (.sl 197 (.st 2)), (.sl 96 (.st 0)), (.sl 26 (.st 1)), (.sl 26 (.st 1))]) := ⟨q6.p_d29, [tI, (.sl 26 (.st 1)), (.sl 197 (.st 2)), (.sl 26 (.st 1)), tI, .str, (.sl 3 tI), tI, (.sl 26 (.st 1)), (.sl 96 (.st 0)), (.sl 26 (.st 1)), (.sl 26 (.st 1))], fun k h => q6.d29 k h.1 h.2.1 h.2.2.1 h.2.2.2.1 h.2.2.2.2.1 h.2.2.2.2.2.1 h.2.2.2.2.2.2.1 h.2.2.2.2.2.2.2.1 h.2.2.2.2.2.2.2.2.1 h.2.2.2.2.2.2.2.2.2.1 h.2.2.2.2.2.2.2.2.2.2.1 h.2.2.2.2.2.2.2.2.2.2.2⟩
def q6.p_j10 : Pat := ⟨[(0, .one (.ptr 0 0)), (4, .one (.ptr 1 0)), (5, .one (.ptr 2 0)), (8, .one (.val (.sl 26 (.st 1)))), (9, .one (.val (.sl 26 (.st 1)))), (10, oI), (11, oI), (77, oB)], [.cells [] [.val (.sl 26 (.st 1)), .val (.sl 197 (.st 2)), .arr 3, .arr 4], .cells [] [.val tI, .any, .any, .any, .val (.sl 26 (.st 1))], .cells [] [.val tI, .val .str, .val (.sl 3 tI), .val tI, .val (.sl 26 (.st 1))], .arr 26 (.st 1), .arr 26 (.st 1)]⟩
def q6.c_j10 : Cut sg (HL sg.S [.bool, (.sl 26 (.st 1)), (.sl 197 (.st 2)), (.sl 96 (.st 0)), (.sl 26 (.st 1)), (.sl 26 (.st 1))]) := ⟨q6.p_j10, [(.sl 26 (.st 1)), (.sl 26 (.st 1)), tI, tI, .bool, (.sl 26 (.st 1)), (.sl 197 (.st 2)), tI, (.sl 26 (.st 1)), tI, .str, (.sl 3 tI), tI, (.sl 26 (.st 1)), (.sl 26 (.st 1)), (.sl 26 (.st 1))], fun k h => q6.j10 k h.1 h.2.1 h.2.2.1 h.2.2.2.1 h.2.2.2.2.1 h.2.2.2.2.2.1 h.2.2.2.2.2.2.1 h.2.2.2.2.2.2.2.1 h.2.2.2.2.2.2.2.2.1 h.2.2.2.2.2.2.2.2.2.1 h.2.2.2.2.2.2.2.2.2.2.1 h.2.2.2.2.2.2.2.2.2.2.2.1 h.2.2.2.2.2.2.2.2.2.2.2.2.1 h.2.2.2.2.2.2.2.2.2.2.2.2.2.1 h.2.2.2.2.2.2.2.2.2.2.2.2.2.2.1 h.2.2.2.2.2.2.2.2.2.2.2.2.2.2.2⟩
def q6.p_j3 : Pat := ⟨[(0, .one (.ptr 0 0)), (4, .one (.ptr 1 0)), (5, .one (.ptr 2 0))], [.cells [] [.val (.sl 26 (.st 1)), .val (.sl 197 (.st 2)), .arr 3, .arr 4], .cells [] [.val tI, .val .str, .val (.sl 3 tI), .val tI, .val (.sl 26 (.st 1))], .cells [] [.val tI, .val .str, .val (.sl 3 tI), .val tI, .val (.sl 26 (.st 1))], .arr 26 (.st 1), .arr 26 (.st 1)]⟩
def q6.c_j3 : Cut sg (HL sg.S [.bool, (.sl 26 (.st 1)), (.sl 197 (.st 2)), (.sl 96 (.st 0)), (.sl 26 (.st 1)), (.sl 26 (.st 1))]) := ⟨q6.p_j3, [(.sl 26 (.st 1)), (.sl 197 (.st 2)), tI, .str, (.sl 3 tI), tI, (.sl 26 (.st 1)), tI, .str, (.sl 3 tI), tI, (.sl 26 (.st 1)), (.sl 26 (.st 1)), (.sl 26 (.st 1))], fun k h => q6.j3 k h.1 h.2.1 h.2.2.1 h.2.2.2.1 h.2.2.2.2.1 h.2.2.2.2.2.1 h.2.2.2.2.2.2.1 h.2.2.2.2.2.2.2.1 h.2.2.2.2.2.2.2.2.1 h.2.2.2.2.2.2.2.2.2.1 h.2.2.2.2.2.2.2.2.2.2.1 h.2.2.2.2.2.2.2.2.2.2.2.1 h.2.2.2.2.2.2.2.2.2.2.2.2.1 h.2.2.2.2.2.2.2.2.2.2.2.2.2⟩
def q6.p_j9 : Pat := ⟨[(0, .one (.ptr 0 0)), (4, .one (.ptr 1 0)), (5, .one (.ptr 2 0)), (8, .one (.val (.sl 26 (.st 1)))), (9, .one (.val (.sl 26 (.st 1)))), (10, oI), (11, oI)], [.cells [] [.val (.sl 26 (.st 1)), .val (.sl 197 (.st 2)), .arr 3, .arr 4], .cells [] [.val tI, .any, .any, .any, .val (.sl 26 (.st 1))], .cells [] [.val tI, .val .str, .val (.sl 3 tI), .val tI, .val (.sl 26 (.st 1))], .arr 26 (.st 1), .arr 26 (.st 1)]⟩
def q6.c_j9 : Cut sg (HL sg.S [.bool, (.sl 26 (.st 1)), (.sl 197 (.st 2)), (.sl 96 (.st 0)), (.sl 26 (.st 1)), (.sl 26 (.st 1))]) := ⟨q6.p_j9, [(.sl 26 (.st 1)), (.sl 26 (.st 1)), tI, tI, (.sl 26 (.st 1)), (.sl 197 (.st 2)), tI, (.sl 26 (.st 1)), tI, .str, (.sl 3 tI), tI, (.sl 26 (.st 1)), (.sl 26 (.st 1)), (.sl 26 (.st 1))], fun k h => q6.j9 k h.1 h.2.1 h.2.2.1 h.2.2.2.1 h.2.2.2.2.1 h.2.2.2.2.2.1 h.2.2.2.2.2.2.1 h.2.2.2.2.2.2.2.1 h.2.2.2.2.2.2.2.2.1 h.2.2.2.2.2.2.2.2.2.1 h.2.2.2.2.2.2.2.2.2.2.1 h.2.2.2.2.2.2.2.2.2.2.2.1 h.2.2.2.2.2.2.2.2.2.2.2.2.1 h.2.2.2.2.2.2.2.2.2.2.2.2.2.1 h.2.2.2.2.2.2.2.2.2.2.2.2.2.2⟩
def q6.p_l14 : Pat := ⟨[(0, .one (.ptr 0 0)), (4, .one (.ptr 1 0)), (5, .one (.ptr 2 0)), (8, .one (.val (.sl 26 (.st 1)))), (9, .one (.val (.sl 26 (.st 1)))), (10, oI), (11, oI), (12, .one (.arr 3)), (13, oI), (14, oI)], [.cells [] [.val (.sl 26 (.st 1)), .val (.sl 197 (.st 2)), .arr 4, .arr 5], .cells [] [.val tI, .any, .any, .any, .val (.sl 26 (.st 1))], .cells [] [.val tI, .val .str, .val (.sl 3 tI), .val tI, .val (.sl 26 (.st 1))], .arr 96 (.st 0), .arr 26 (.st 1), .arr 26 (.st 1)]⟩
def q6.c_l14 : Cut sg (HL sg.S [.bool, (.sl 26 (.st 1)), (.sl 197 (.st 2)), (.sl 96 (.st 0)), (.sl 26 (.st 1)), (.sl 26 (.st 1))]) := ⟨q6.p_l14, [(.sl 26 (.st 1)), (.sl 26 (.st 1)), tI, tI, tI, tI, (.sl 26 (.st 1)), (.sl 197 (.st 2)), tI, (.sl 26 (.st 1)), tI, .str, (.sl 3 tI), tI, (.sl 26 (.st 1)), (.sl 96 (.st 0)), (.sl 26 (.st 1)), (.sl 26 (.st 1))], fun k h => q6.l14 k h.1 h.2.1 h.2.2.1 h.2.2.2.1 h.2.2.2.2.1 h.2.2.2.2.2.1 h.2.2.2.2.2.2.1 h.2.2.2.2.2.2.2.1 h.2.2.2.2.2.2.2.2.1 h.2.2.2.2.2.2.2.2.2.1 h.2.2.2.2.2.2.2.2.2.2.1 h.2.2.2.2.2.2.2.2.2.2.2.1 h.2.2.2.2.2.2.2.2.2.2.2.2.1 h.2.2.2.2.2.2.2.2.2.2.2.2.2.1 h.2.2.2.2.2.2.2.2.2.2.2.2.2.2.1 h.2.2.2.2.2.2.2.2.2.2.2.2.2.2.2.1 h.2.2.2.2.2.2.2.2.2.2.2.2.2.2.2.2.1 h.2.2.2.2.2.2.2.2.2.2.2.2.2.2.2.2.2⟩
def q6.ct (k : Nat) : Ct sg := ⟨false, ⟨[(0, .one (.ptr 0 0)), (1, .st 1), (2, .st 1)], [.cells [] [.val (.sl 26 (.st 1)), .val (.sl 197 (.st 2)), .arr 1, .arr 2], .arr 26 (.st 1), .arr 26 (.st 1)]⟩, ⟨[(0, .one (.arr 1)), (1, oB)], [.cells [] [.val (.sl 26 (.st 1)), .val (.sl 197 (.st 2)), .arr 2, .arr 3], .arr 96 (.st 0), .arr 26 (.st 1), .arr 26 (.st 1)]⟩, [(.st 1), (.st 1), (.sl 26 (.st 1)), (.sl 197 (.st 2)), (.sl 26 (.st 1)), (.sl 26 (.st 1))], [.bool, (.sl 26 (.st 1)), (.sl 197 (.st 2)), (.sl 96 (.st 0)), (.sl 26 (.st 1)), (.sl 26 (.st 1))], fun h => q6.f k h.1 h.2.1 h.2.2.1 h.2.2.2.1 h.2.2.2.2.1 h.2.2.2.2.2⟩
def qd.d : FD sg (HL sg.S [.bool, (.sl 26 (.st 1)), (.sl 197 (.st 2)), (.sl 96 (.st 0)), (.sl 26 (.st 1)), (.sl 26 (.st 1))]) := ⟨fun k => [(44, q10.ct k), (106, qx.ct k), (116, q28.ct k), (117, q1y.ct k), (118, q6.ct k)],
 [],
 [(100004, ⟨⟨[(0, .one (.ptr 0 0)), (4, .one (.ptr 1 0)), (5, .one (.ptr 2 0))], [.cells [] [.val (.sl 26 (.st 1)), .val (.sl 197 (.st 2)), .arr 3, .arr 4], .cells [] [.val tI, .val .str, .val (.sl 3 tI), .val tI, .val (.sl 26 (.st 1))], .cells [] [.val tI, .val .str, .val (.sl 3 tI), .val tI, .val (.sl 26 (.st 1))], .arr 26 (.st 1), .arr 26 (.st 1)]⟩, [(.sl 26 (.st 1)), (.sl 197 (.st 2)), tI, .str, (.sl 3 tI), tI, (.sl 26 (.st 1)), tI, .str, (.sl 3 tI), tI, (.sl 26 (.st 1)), (.sl 26 (.st 1)), (.sl 26 (.st 1))], fun k h => qd.d4 k h.1 h.2.1 h.2.2.1 h.2.2.2.1 h.2.2.2.2.1 h.2.2.2.2.2.1 h.2.2.2.2.2.2.1 h.2.2.2.2.2.2.2.1 h.2.2.2.2.2.2.2.2.1 h.2.2.2.2.2.2.2.2.2.1 h.2.2.2.2.2.2.2.2.2.2.1 h.2.2.2.2.2.2.2.2.2.2.2.1 h.2.2.2.2.2.2.2.2.2.2.2.2.1 h.2.2.2.2.2.2.2.2.2.2.2.2.2⟩),
 (100005, ⟨⟨[(0, .one (.ptr 0 0)), (4, .one (.ptr 1 0)), (5, .one (.ptr 2 0))], [.cells [] [.val (.sl 26 (.st 1)), .val (.sl 197 (.st 2)), .arr 3, .arr 4], .cells [] [.val tI, .val .str, .val (.sl 3 tI), .val tI, .val (.sl 26 (.st 1))], .cells [] [.val tI, .val .str, .val (.sl 3 tI), .val tI, .val (.sl 26 (.st 1))], .arr 26 (.st 1), .arr 26 (.st 1)]⟩, [(.sl 26 (.st 1)), (.sl 197 (.st 2)), tI, .str, (.sl 3 tI), tI, (.sl 26 (.st 1)), tI, .str, (.sl 3 tI), tI, (.sl 26 (.st 1)), (.sl 26 (.st 1)), (.sl 26 (.st 1))], fun k h => qd.d5 k h.1 h.2.1 h.2.2.1 h.2.2.2.1 h.2.2.2.2.1 h.2.2.2.2.2.1 h.2.2.2.2.2.2.1 h.2.2.2.2.2.2.2.1 h.2.2.2.2.2.2.2.2.1 h.2.2.2.2.2.2.2.2.2.1 h.2.2.2.2.2.2.2.2.2.2.1 h.2.2.2.2.2.2.2.2.2.2.2.1 h.2.2.2.2.2.2.2.2.2.2.2.2.1 h.2.2.2.2.2.2.2.2.2.2.2.2.2⟩),
 (100006, ⟨⟨[(0, .one (.ptr 0 0)), (4, .one (.ptr 1 0)), (5, .one (.ptr 2 0))], [.cells [] [.val (.sl 26 (.st 1)), .val (.sl 197 (.st 2)), .arr 3, .arr 4], .cells [] [.val tI, .val .str, .val (.sl 3 tI), .val tI, .val (.sl 26 (.st 1))], .cells [] [.val tI, .val .str, .val (.sl 3 tI), .val tI, .val (.sl 26 (.st 1))], .arr 26 (.st 1), .arr 26 (.st 1)]⟩, [(.sl 26 (.st 1)), (.sl 197 (.st 2)), tI, .str, (.sl 3 tI), tI, (.sl 26 (.st 1)), tI, .str, (.sl 3 tI), tI, (.sl 26 (.st 1)), (.sl 26 (.st 1)), (.sl 26 (.st 1))], fun k h => qd.d6 k h.1 h.2.1 h.2.2.1 h.2.2.2.1 h.2.2.2.2.1 h.2.2.2.2.2.1 h.2.2.2.2.2.2.1 h.2.2.2.2.2.2.2.1 h.2.2.2.2.2.2.2.2.1 h.2.2.2.2.2.2.2.2.2.1 h.2.2.2.2.2.2.2.2.2.2.1 h.2.2.2.2.2.2.2.2.2.2.2.1 h.2.2.2.2.2.2.2.2.2.2.2.2.1 h.2.2.2.2.2.2.2.2.2.2.2.2.2⟩),
 (100010, ⟨⟨[(4, .one (.ptr 1 0)), (5, .one (.ptr 2 0))], [.cells [] [.val (.sl 26 (.st 1)), .val (.sl 197 (.st 2)), .arr 3, .arr 4], .cells [] [.val tI, .val .str, .val (.sl 3 tI), .val tI, .val (.sl 26 (.st 1))], .cells [] [.val tI, .val .str, .val (.sl 3 tI), .val tI, .val (.sl 26 (.st 1))], .arr 26 (.st 1), .arr 26 (.st 1)]⟩, [(.sl 26 (.st 1)), (.sl 197 (.st 2)), tI, .str, (.sl 3 tI), tI, (.sl 26 (.st 1)), tI, .str, (.sl 3 tI), tI, (.sl 26 (.st 1)), (.sl 26 (.st 1)), (.sl 26 (.st 1))], fun k h => qd.d10 k h.1 h.2.1 h.2.2.1 h.2.2.2.1 h.2.2.2.2.1 h.2.2.2.2.2.1 h.2.2.2.2.2.2.1 h.2.2.2.2.2.2.2.1 h.2.2.2.2.2.2.2.2.1 h.2.2.2.2.2.2.2.2.2.1 h.2.2.2.2.2.2.2.2.2.2.1 h.2.2.2.2.2.2.2.2.2.2.2.1 h.2.2.2.2.2.2.2.2.2.2.2.2.1 h.2.2.2.2.2.2.2.2.2.2.2.2.2⟩),
 (100012, ⟨⟨[(4, .one (.ptr 1 0)), (5, .one (.ptr 2 0))], [.cells [] [.val (.sl 26 (.st 1)), .val (.sl 197 (.st 2)), .arr 3, .arr 4], .cells [] [.any, .val .str, .any, .any, .any], .cells [] [.val tI, .val .str, .any, .any, .any], .arr 26 (.st 1), .arr 26 (.st 1)]⟩, [(.sl 26 (.st 1)), (.sl 197 (.st 2)), .str, tI, .str, (.sl 26 (.st 1)), (.sl 26 (.st 1))], fun k h => qd.d12 k h.1 h.2.1 h.2.2.1 h.2.2.2.1 h.2.2.2.2.1 h.2.2.2.2.2.1 h.2.2.2.2.2.2⟩),
 (2, ⟨⟨[(0, .one (.ptr 0 0)), (4, .one (.ptr 1 0)), (5, .one (.ptr 2 0)), (8, oB)], [.cells [] [.val (.sl 26 (.st 1)), .val (.sl 197 (.st 2)), .arr 3, .arr 4], .cells [] [.val tI, .val .str, .val (.sl 3 tI), .val tI, .val (.sl 26 (.st 1))], .cells [] [.val tI, .val .str, .val (.sl 3 tI), .val tI, .val (.sl 26 (.st 1))], .arr 26 (.st 1), .arr 26 (.st 1)]⟩, [.bool, (.sl 26 (.st 1)), (.sl 197 (.st 2)), tI, .str, (.sl 3 tI), tI, (.sl 26 (.st 1)), tI, .str, (.sl 3 tI), tI, (.sl 26 (.st 1)), (.sl 26 (.st 1)), (.sl 26 (.st 1))], fun k h => qd.j2 k h.1 h.2.1 h.2.2.1 h.2.2.2.1 h.2.2.2.2.1 h.2.2.2.2.2.1 h.2.2.2.2.2.2.1 h.2.2.2.2.2.2.2.1 h.2.2.2.2.2.2.2.2.1 h.2.2.2.2.2.2.2.2.2.1 h.2.2.2.2.2.2.2.2.2.2.1 h.2.2.2.2.2.2.2.2.2.2.2.1 h.2.2.2.2.2.2.2.2.2.2.2.2.1 h.2.2.2.2.2.2.2.2.2.2.2.2.2.1 h.2.2.2.2.2.2.2.2.2.2.2.2.2.2⟩)],
 [(1, [[0, 1, 2, 3, 4, 5, 6, 7, 8, 9, 10, 11]]), (4, [[0, 1, 2, 3, 5, 4, 6, 7, 8, 10, 11, 9, 12], [0, 1, 2, 3, 5, 4, 6, 7, 8, 10, 11, 12, 9], [0, 1, 2, 3, 5, 6, 4, 7, 8, 10, 11, 9, 12], [0, 1, 2, 3, 5, 6, 4, 7, 8, 10, 11, 12, 9], [0, 1, 2, 4, 3, 5, 6, 7, 8, 10, 11, 9, 12], [0, 1, 2, 4, 3, 5, 6, 7, 8, 10, 11, 12, 9], [0, 1, 2, 4, 6, 3, 5, 7, 8, 10, 11, 9, 12], [0, 1, 2, 4, 6, 3, 5, 7, 8, 10, 11, 12, 9], [0, 1, 2, 6, 3, 4, 5, 7, 8, 10, 11, 9, 12], [0, 1, 2, 6, 3, 4, 5, 7, 8, 10, 11, 12, 9]]), (5, [[0, 1, 2, 3, 5, 4, 6, 7, 8, 10, 11, 9, 12], [0, 1, 2, 3, 5, 4, 6, 7, 8, 10, 11, 12, 9], [0, 1, 2, 3, 5, 6, 4, 7, 8, 10, 11, 9, 12], [0, 1, 2, 3, 5, 6, 4, 7, 8, 10, 11, 12, 9], [0, 1, 2, 4, 3, 5, 6, 7, 8, 10, 11, 9, 12], [0, 1, 2, 4, 3, 5, 6, 7, 8, 10, 11, 12, 9], [0, 1, 2, 4, 6, 3, 5, 7, 8, 10, 11, 9, 12], [0, 1, 2, 4, 6, 3, 5, 7, 8, 10, 11, 12, 9], [0, 1, 2, 6, 3, 4, 5, 7, 8, 10, 11, 9, 12], [0, 1, 2, 6, 3, 4, 5, 7, 8, 10, 11, 12, 9]]), (6, [[1, 2, 3, 0, 4, 5, 6, 7, 8, 9], [1, 2, 3, 4, 0, 5, 6, 7, 8, 9], [1, 2, 3, 4, 5, 0, 6, 7, 8, 9], [1, 2, 3, 4, 5, 6, 0, 7, 8, 9], [1, 2, 3, 4, 5, 6, 7, 0, 8, 9], [1, 2, 3, 4, 6, 0, 5, 7, 8, 9], [1, 2, 3, 4, 6, 5, 0, 7, 8, 9], [1, 2, 3, 4, 6, 5, 7, 0, 8, 9], [1, 2, 3, 5, 0, 4, 6, 7, 8, 9], [1, 2, 3, 5, 4, 0, 6, 7, 8, 9], [1, 2, 3, 5, 4, 6, 0, 7, 8, 9], [1, 2, 3, 5, 4, 6, 7, 0, 8, 9], [1, 2, 3, 5, 6, 0, 4, 7, 8, 9], [1, 2, 3, 5, 6, 4, 0, 7, 8, 9], [1, 2, 3, 5, 6, 4, 7, 0, 8, 9], [1, 2, 3, 6, 0, 4, 5, 7, 8, 9], [1, 2, 3, 6, 4, 0, 5, 7, 8, 9], [1, 2, 3, 6, 4, 5, 0, 7, 8, 9], [1, 2, 3, 6, 4, 5, 7, 0, 8, 9], [1, 2, 3, 6, 5, 0, 4, 7, 8, 9], [1, 2, 3, 6, 5, 4, 0, 7, 8, 9], [1, 2, 3, 6, 5, 4, 7, 0, 8, 9]]), (10, [[0, 1, 2, 3, 4, 5, 6, 7], [0, 2, 1, 3, 4, 5, 6, 7]]), (12, [[1, 0, 2, 3, 4, 5, 6, 7, 8, 9, 10, 11, 12], [1, 2, 3, 4, 5, 7, 0, 6, 8, 9, 10, 11, 12], [1, 2, 3, 4, 5, 7, 6, 0, 8, 9, 10, 11, 12], [1, 2, 3, 4, 5, 7, 6, 8, 9, 10, 0, 11, 12], [1, 2, 3, 4, 5, 7, 8, 0, 6, 9, 10, 11, 12], [1, 2, 3, 4, 5, 7, 8, 6, 9, 10, 0, 11, 12]])], []⟩
def q8.d : FD sg (HL sg.S [(.sl 96 (.st 0)), .bool, (.sl 26 (.st 1)), (.sl 197 (.st 2)), (.sl 26 (.st 1)), (.sl 26 (.st 1))]) := ⟨fun k => [(37, qd.ct k), (43, qv.ct k), (106, qx.ct k), (159, qp.ct k)],
 [(4, ⟨⟨[(0, .one (.ptr 0 0)), (2, .one (.val (.sl 26 (.st 1)))), (4, .one (.ptr 1 0)), (8, .one (.arr 2)), (9, .one (.arr 3)), (10, oI)], [.cells [] [.val (.sl 26 (.st 1)), .val (.sl 197 (.st 2)), .arr 4, .arr 5], .cells [] [.val tI, .val .str, .val (.sl 3 tI), .val tI, .val (.sl 26 (.st 1))], .ow false true 96 (.st 0), .arr 26 (.st 1), .arr 26 (.st 1), .arr 26 (.st 1)]⟩, [(.sl 26 (.st 1)), tI, (.sl 26 (.st 1)), (.sl 197 (.st 2)), tI, .str, (.sl 3 tI), tI, (.sl 26 (.st 1)), (.sl 96 (.st 0)), (.sl 26 (.st 1)), (.sl 26 (.st 1)), (.sl 26 (.st 1))], fun k h => q8.l4 k h.1 h.2.1 h.2.2.1 h.2.2.2.1 h.2.2.2.2.1 h.2.2.2.2.2.1 h.2.2.2.2.2.2.1 h.2.2.2.2.2.2.2.1 h.2.2.2.2.2.2.2.2.1 h.2.2.2.2.2.2.2.2.2.1 h.2.2.2.2.2.2.2.2.2.2.1 h.2.2.2.2.2.2.2.2.2.2.2.1 h.2.2.2.2.2.2.2.2.2.2.2.2⟩),
 (8, ⟨⟨[(0, .one (.ptr 0 0)), (2, .one (.val (.sl 26 (.st 1)))), (4, .one (.ptr 1 0)), (8, .one (.arr 2)), (11, oI)], [.cells [] [.val (.sl 26 (.st 1)), .val (.sl 197 (.st 2)), .arr 3, .arr 4], .cells [] [.val tI, .val .str, .val (.sl 3 tI), .val tI, .val (.sl 26 (.st 1))], .ow false true 96 (.st 0), .arr 26 (.st 1), .arr 26 (.st 1)]⟩, [(.sl 26 (.st 1)), tI, (.sl 26 (.st 1)), (.sl 197 (.st 2)), tI, .str, (.sl 3 tI), tI, (.sl 26 (.st 1)), (.sl 96 (.st 0)), (.sl 26 (.st 1)), (.sl 26 (.st 1))], fun k h => q8.l8 k h.1 h.2.1 h.2.2.1 h.2.2.2.1 h.2.2.2.2.1 h.2.2.2.2.2.1 h.2.2.2.2.2.2.1 h.2.2.2.2.2.2.2.1 h.2.2.2.2.2.2.2.2.1 h.2.2.2.2.2.2.2.2.2.1 h.2.2.2.2.2.2.2.2.2.2.1 h.2.2.2.2.2.2.2.2.2.2.2⟩),
 (14, ⟨⟨[(0, .one (.ptr 0 0)), (2, .one (.val (.sl 26 (.st 1)))), (4, .one (.ptr 1 0)), (8, .one (.arr 2)), (11, oI), (12, .one (.arr 3)), (14, oI)], [.cells [] [.val (.sl 26 (.st 1)), .val (.sl 197 (.st 2)), .arr 4, .arr 5], .cells [] [.val tI, .val .str, .val (.sl 3 tI), .val tI, .val (.sl 26 (.st 1))], .ow false true 96 (.st 0), .arr 96 (.st 0), .arr 26 (.st 1), .arr 26 (.st 1)]⟩, [(.sl 26 (.st 1)), tI, tI, (.sl 26 (.st 1)), (.sl 197 (.st 2)), tI, .str, (.sl 3 tI), tI, (.sl 26 (.st 1)), (.sl 96 (.st 0)), (.sl 96 (.st 0)), (.sl 26 (.st 1)), (.sl 26 (.st 1))], fun k h => q8.l14 k h.1 h.2.1 h.2.2.1 h.2.2.2.1 h.2.2.2.2.1 h.2.2.2.2.2.1 h.2.2.2.2.2.2.1 h.2.2.2.2.2.2.2.1 h.2.2.2.2.2.2.2.2.1 h.2.2.2.2.2.2.2.2.2.1 h.2.2.2.2.2.2.2.2.2.2.1 h.2.2.2.2.2.2.2.2.2.2.2.1 h.2.2.2.2.2.2.2.2.2.2.2.2.1 h.2.2.2.2.2.2.2.2.2.2.2.2.2⟩)],
 [(100006, ⟨⟨[(0, .one (.ptr 0 0)), (2, .one (.val (.sl 26 (.st 1)))), (4, .one (.ptr 1 0)), (8, .one (.arr 2)), (9, .one (.arr 3)), (10, oI)], [.cells [] [.val (.sl 26 (.st 1)), .val (.sl 197 (.st 2)), .arr 4, .arr 5], .cells [] [.val tI, .val .str, .val (.sl 3 tI), .val tI, .val (.sl 26 (.st 1))], .ow false true 96 (.st 0), .arr 26 (.st 1), .arr 26 (.st 1), .arr 26 (.st 1)]⟩, [(.sl 26 (.st 1)), tI, (.sl 26 (.st 1)), (.sl 197 (.st 2)), tI, .str, (.sl 3 tI), tI, (.sl 26 (.st 1)), (.sl 96 (.st 0)), (.sl 26 (.st 1)), (.sl 26 (.st 1)), (.sl 26 (.st 1))], fun k h => q8.d6 k h.1 h.2.1 h.2.2.1 h.2.2.2.1 h.2.2.2.2.1 h.2.2.2.2.2.1 h.2.2.2.2.2.2.1 h.2.2.2.2.2.2.2.1 h.2.2.2.2.2.2.2.2.1 h.2.2.2.2.2.2.2.2.2.1 h.2.2.2.2.2.2.2.2.2.2.1 h.2.2.2.2.2.2.2.2.2.2.2.1 h.2.2.2.2.2.2.2.2.2.2.2.2⟩),
 (100016, ⟨⟨[(0, .one (.ptr 0 0)), (2, .one (.val (.sl 26 (.st 1)))), (4, .one (.ptr 1 0)), (8, .one (.arr 2)), (11, oI), (12, .one (.arr 3)), (14, oI)], [.cells [] [.val (.sl 26 (.st 1)), .val (.sl 197 (.st 2)), .arr 4, .arr 5], .cells [] [.val tI, .val .str, .val (.sl 3 tI), .val tI, .val (.sl 26 (.st 1))], .ow false true 96 (.st 0), .arr 96 (.st 0), .arr 26 (.st 1), .arr 26 (.st 1)]⟩, [(.sl 26 (.st 1)), tI, tI, (.sl 26 (.st 1)), (.sl 197 (.st 2)), tI, .str, (.sl 3 tI), tI, (.sl 26 (.st 1)), (.sl 96 (.st 0)), (.sl 96 (.st 0)), (.sl 26 (.st 1)), (.sl 26 (.st 1))], fun k h => q8.d16 k h.1 h.2.1 h.2.2.1 h.2.2.2.1 h.2.2.2.2.1 h.2.2.2.2.2.1 h.2.2.2.2.2.2.1 h.2.2.2.2.2.2.2.1 h.2.2.2.2.2.2.2.2.1 h.2.2.2.2.2.2.2.2.2.1 h.2.2.2.2.2.2.2.2.2.2.1 h.2.2.2.2.2.2.2.2.2.2.2.1 h.2.2.2.2.2.2.2.2.2.2.2.2.1 h.2.2.2.2.2.2.2.2.2.2.2.2.2⟩)],
 [(2, [[0, 1, 2, 3, 4, 5, 6]]), (6, [[0, 1, 2, 3, 4, 7, 8, 9, 5, 6, 10, 11, 12, 13, 14, 15, 16], [0, 1, 2, 3, 4, 7, 8, 9, 6, 5, 10, 11, 12, 13, 14, 15, 16], [0, 1, 2, 3, 4, 7, 8, 9, 6, 10, 5, 11, 12, 13, 14, 15, 16], [0, 1, 2, 3, 4, 7, 8, 9, 10, 5, 6, 11, 12, 13, 14, 15, 16], [0, 1, 2, 3, 4, 7, 8, 9, 10, 6, 5, 11, 12, 13, 14, 15, 16]]), (10, [[0, 1, 2, 3, 4, 5, 6, 7, 8, 9, 10, 11]]), (16, [[0, 1, 2, 3, 5, 6, 7, 4, 9, 8, 10, 11, 12, 14, 15, 13, 16], [0, 1, 2, 3, 5, 6, 7, 4, 9, 8, 10, 11, 12, 14, 15, 16, 13], [0, 1, 2, 3, 5, 6, 7, 4, 9, 10, 8, 11, 12, 14, 15, 13, 16], [0, 1, 2, 3, 5, 6, 7, 4, 9, 10, 8, 11, 12, 14, 15, 16, 13], [0, 1, 2, 3, 5, 6, 7, 8, 4, 9, 10, 11, 12, 14, 15, 13, 16], [0, 1, 2, 3, 5, 6, 7, 8, 4, 9, 10, 11, 12, 14, 15, 16, 13], [0, 1, 2, 3, 5, 6, 7, 8, 10, 4, 9, 11, 12, 14, 15, 13, 16], [0, 1, 2, 3, 5, 6, 7, 8, 10, 4, 9, 11, 12, 14, 15, 16, 13], [0, 1, 2, 3, 5, 6, 7, 10, 4, 8, 9, 11, 12, 14, 15, 13, 16], [0, 1, 2, 3, 5, 6, 7, 10, 4, 8, 9, 11, 12, 14, 15, 16, 13]])], [15, 42, 43]⟩
def q6.cts (k : Nat) : List (Nat × Ct sg) := [(37, qd.ct k), (107, qz.ct k), (108, qw.ct k), (119, qr.ct k), (178, q8.ct k), (179, q1k.ct k)]
def q6.env (k : Nat) : Env sg (HL sg.S [.bool, (.sl 26 (.st 1)), (.sl 197 (.st 2)), (.sl 96 (.st 0)), (.sl 26 (.st 1)), (.sl 26 (.st 1))]) := ⟨162, [0], k, get (q6.cts k), [(14, q6.c_l14)], [(100029, q6.c_d29), (3, q6.c_j3), (9, q6.c_j9), (10, q6.c_j10)], [(18, [[0, 1, 2, 3, 4, 5, 6, 7, 8, 9, 10, 11, 12, 13, 14]]), (22, [[0, 1, 2, 3, 4, 5, 6, 7, 8, 9, 10, 11, 12, 13, 14, 15, 16]]), (29, [[0, 1, 3, 9, 10, 2, 4, 5, 6, 7, 8, 11, 12, 13, 14, 15, 16, 17], [0, 1, 3, 9, 10, 2, 4, 5, 6, 7, 11, 8, 12, 13, 14, 15, 16, 17], [0, 1, 3, 9, 10, 2, 11, 4, 5, 6, 7, 8, 12, 13, 14, 15, 16, 17], [0, 1, 3, 9, 10, 4, 5, 6, 2, 7, 8, 11, 12, 13, 14, 15, 16, 17], [0, 1, 3, 9, 10, 4, 5, 6, 2, 7, 11, 8, 12, 13, 14, 15, 16, 17], [0, 1, 3, 9, 10, 4, 5, 6, 11, 2, 7, 8, 12, 13, 14, 15, 16, 17], [0, 1, 3, 9, 10, 11, 2, 4, 5, 6, 7, 8, 12, 13, 14, 15, 16, 17]])], []⟩
theorem q6.eq (k : Nat) (h : HL sg.S (q6.ct (k + 1)).its) : (q6.ct (k + 1)).F h = semF (q6.ct (k + 1)) (q6.env k) Tryz.f118 (bodyOf Tryz.f118) h := by kernel_rfl
def q6.pts (m : Nat) := used q6.env (ptsOf q6.env (bodyOf Tryz.f118) (fun _ => retK Tryz.f118 (q6.ct m)))
theorem q6.n (m : Nat) : len (q6.pts m) = 11 := by kernel_rfl
theorem q6.g0 (m : Nat) : AtGood q6.env (nth (q6.pts m) 0) := joinGood q6.c_j3 (by kernel_rfl) (by kernel_rfl) (fun k h => by kernel_rfl)
theorem q6.g1 (m : Nat) : AtGood q6.env (nth (q6.pts m) 1) := joinGood q6.c_j9 (by kernel_rfl) (by kernel_rfl) (fun k h => by kernel_rfl)
theorem q6.g2 (m : Nat) : AtGood q6.env (nth (q6.pts m) 2) := joinGood q6.c_j10 (by kernel_rfl) (by kernel_rfl) (fun k h => by kernel_rfl)
theorem q6.g3 (m : Nat) : AtGood q6.env (nth (q6.pts m) 3) := loopGood q6.c_l14 (by kernel_rfl) (by kernel_rfl) (fun _ => rfl) (fun k h => by kernel_rfl)
theorem q6.g4 (m : Nat) : AtGood q6.env (nth (q6.pts m) 4) := drawGood q6.c_d29 (fun k h => q6.d29_0 k h.1 h.2.1 h.2.2.1 h.2.2.2.1 h.2.2.2.2.1 h.2.2.2.2.2.1 h.2.2.2.2.2.2.1 h.2.2.2.2.2.2.2.1 h.2.2.2.2.2.2.2.2.1 h.2.2.2.2.2.2.2.2.2.1 h.2.2.2.2.2.2.2.2.2.2.1 h.2.2.2.2.2.2.2.2.2.2.2) (by kernel_rfl) (by kernel_rfl) (fun k h => by kernel_rfl) (fun k h r e => (same2_l e))
theorem q6.g5 (m : Nat) : AtGood q6.env (nth (q6.pts m) 5) := drawGood q6.c_d29 (fun k h => q6.d29_0 k h.1 h.2.1 h.2.2.1 h.2.2.2.1 h.2.2.2.2.1 h.2.2.2.2.2.1 h.2.2.2.2.2.2.1 h.2.2.2.2.2.2.2.1 h.2.2.2.2.2.2.2.2.1 h.2.2.2.2.2.2.2.2.2.1 h.2.2.2.2.2.2.2.2.2.2.1 h.2.2.2.2.2.2.2.2.2.2.2) (by kernel_rfl) (by kernel_rfl) (fun k h => by kernel_rfl) (fun k h r e => (same2_l e))
theorem q6.g6 (m : Nat) : AtGood q6.env (nth (q6.pts m) 6) := drawGood q6.c_d29 (fun k h => q6.d29_1 k h.1 h.2.1 h.2.2.1 h.2.2.2.1 h.2.2.2.2.1 h.2.2.2.2.2.1 h.2.2.2.2.2.2.1 h.2.2.2.2.2.2.2.1 h.2.2.2.2.2.2.2.2.1 h.2.2.2.2.2.2.2.2.2.1 h.2.2.2.2.2.2.2.2.2.2.1 h.2.2.2.2.2.2.2.2.2.2.2) (by kernel_rfl) (by kernel_rfl) (fun k h => by kernel_rfl) (fun k h r e => (same2_r e))
theorem q6.g7 (m : Nat) : AtGood q6.env (nth (q6.pts m) 7) := drawGood q6.c_d29 (fun k h => q6.d29_0 k h.1 h.2.1 h.2.2.1 h.2.2.2.1 h.2.2.2.2.1 h.2.2.2.2.2.1 h.2.2.2.2.2.2.1 h.2.2.2.2.2.2.2.1 h.2.2.2.2.2.2.2.2.1 h.2.2.2.2.2.2.2.2.2.1 h.2.2.2.2.2.2.2.2.2.2.1 h.2.2.2.2.2.2.2.2.2.2.2) (by kernel_rfl) (by kernel_rfl) (fun k h => by kernel_rfl) (fun k h r e => (same2_l e))
theorem q6.g8 (m : Nat) : AtGood q6.env (nth (q6.pts m) 8) := drawGood q6.c_d29 (fun k h => q6.d29_0 k h.1 h.2.1 h.2.2.1 h.2.2.2.1 h.2.2.2.2.1 h.2.2.2.2.2.1 h.2.2.2.2.2.2.1 h.2.2.2.2.2.2.2.1 h.2.2.2.2.2.2.2.2.1 h.2.2.2.2.2.2.2.2.2.1 h.2.2.2.2.2.2.2.2.2.2.1 h.2.2.2.2.2.2.2.2.2.2.2) (by kernel_rfl) (by kernel_rfl) (fun k h => by kernel_rfl) (fun k h r e => (same2_l e))
theorem q6.g9 (m : Nat) : AtGood q6.env (nth (q6.pts m) 9) := drawGood q6.c_d29 (fun k h => q6.d29_1 k h.1 h.2.1 h.2.2.1 h.2.2.2.1 h.2.2.2.2.1 h.2.2.2.2.2.1 h.2.2.2.2.2.2.1 h.2.2.2.2.2.2.2.1 h.2.2.2.2.2.2.2.2.1 h.2.2.2.2.2.2.2.2.2.1 h.2.2.2.2.2.2.2.2.2.2.1 h.2.2.2.2.2.2.2.2.2.2.2) (by kernel_rfl) (by kernel_rfl) (fun k h => by kernel_rfl) (fun k h r e => (same2_r e))
theorem q6.g10 (m : Nat) : AtGood q6.env (nth (q6.pts m) 10) := drawGood q6.c_d29 (fun k h => q6.d29_1 k h.1 h.2.1 h.2.2.1 h.2.2.2.1 h.2.2.2.2.1 h.2.2.2.2.2.1 h.2.2.2.2.2.2.1 h.2.2.2.2.2.2.2.1 h.2.2.2.2.2.2.2.2.1 h.2.2.2.2.2.2.2.2.2.1 h.2.2.2.2.2.2.2.2.2.2.1 h.2.2.2.2.2.2.2.2.2.2.2) (by kernel_rfl) (by kernel_rfl) (fun k h => by kernel_rfl) (fun k h r e => (same2_r e))
theorem q6.good (m : Nat) : AllGood q6.env (ptsOf q6.env (bodyOf Tryz.f118) (fun _ => retK Tryz.f118 (q6.ct m))) := allGood 11 (q6.n m) (fun i hi => match i with | 0 => q6.g0 m | 1 => q6.g1 m | 2 => q6.g2 m | 3 => q6.g3 m | 4 => q6.g4 m | 5 => q6.g5 m | 6 => q6.g6 m | 7 => q6.g7 m | 8 => q6.g8 m | 9 => q6.g9 m | 10 => q6.g10 m | i + 11 => absurd hi (by omega))
theorem q6.ordsOK : ordsB sg (q6.env 0).ords (bodyOf Tryz.f118) = true := by kernel_rfl
theorem qd.all : ∀ k : Nat, (qd.ct k).Holds Tryz.prog 37 ∧ (q8.ct k).Holds Tryz.prog 178 ∧ (q6.ct k).Holds Tryz.prog 118 :=
 recOk ⟨zeroOk, zeroOk, zeroOk⟩ fun k ih =>
 ⟨fnOk sg.kit Tryz.f37 _ qd.d 51 k (fun j hj => ⟨q10.holds j, qx.holds j, q28.holds j, q1y.holds j, (ih j hj).2.2, True.intro⟩), fnOk sg.kit Tryz.f178 _ q8.d 18 k (fun j hj => ⟨(ih j hj).1, qv.holds j, qx.holds j, qp.holds j, True.intro⟩), fn_ok (fn := Tryz.f118) (body := (bodyOf Tryz.f118)) sg.ok sg.tab sg.mixed (by kernel_rfl) (by kernel_rfl) (by kernel_rfl) (q6.ct (k + 1)) q6.env k (fun _ => by kernel_rfl) (fun _ => rfl) (fun _ => by kernel_rfl) (fun _ => rfl) (fun _ => rfl) (fun _ => rfl) q6.ordsOK (fun j hj => ctsOK (l := q6.cts j) ⟨(ih j hj).1, (qz.holds j), (qw.holds j), (qr.holds j), (ih j hj).2.1, (q1k.holds j), trivial⟩) (q6.good (k + 1)) (q6.eq k) (Nat.le_of_ble_eq_true (by kernel_rfl)) (by kernel_rfl) (by kernel_rfl) (by kernel_rfl) (fun h => by cases h)⟩
theorem qd.holds (k : Nat) : (qd.ct k).Holds Tryz.prog 37 := (qd.all k).1
theorem q8.holds (k : Nat) : (q8.ct k).Holds Tryz.prog 178 := (qd.all k).2.1
theorem q6.holds (k : Nat) : (q6.ct k).Holds Tryz.prog 118 := (qd.all k).2.2
def q2f.ct (k : Nat) : Ct sg := ⟨false, ⟨[(0, .st 1), (1, .one (.val (.sl 26 (.st 1)))), (2, .st 1), (3, .one (.val (.sl 197 (.st 2))))], []⟩, ⟨[(0, .one (.arr 0)), (1, oB)], [.arr 96 (.st 0)]⟩, [(.st 1), (.sl 26 (.st 1)), (.st 1), (.sl 197 (.st 2))], [.bool, (.sl 96 (.st 0))], fun h => q2f.f k h.1 h.2.1 h.2.2.1 h.2.2.2⟩
def q2f.d : FD sg (HL sg.S [.bool, (.sl 96 (.st 0))]) := ⟨fun k => [(11, q14.ct k), (25, q25.ct k), (37, qd.ct k)],
 [],
 [],
 [], []⟩
theorem q2f.holds (k : Nat) : (q2f.ct k).Holds Tryz.prog 8 :=
 fnOk sg.kit Tryz.f8 _ q2f.d 0 k (fun j _ => ⟨q14.holds j, q25.holds j, qd.holds j, True.intro⟩)
def q1z.ct (k : Nat) : Ct sg := ⟨true, ⟨[(0, .one (.val (.sl 3 tI))), (1, .one (.val (.sl 3 tI)))], []⟩, ⟨[(0, oB)], []⟩, [(.sl 3 tI), (.sl 3 tI)], [.bool], fun h => q1z.f k h.1 h.2⟩
def q1z.d : FD sg (HL sg.S [.bool]) := ⟨fun _ => [],
 [(4, ⟨⟨[(0, .one (.val (.sl 3 tI))), (1, .one (.val (.sl 3 tI))), (5, oI)], []⟩, [(.sl 3 tI), (.sl 3 tI), tI], fun k h => q1z.l4 k h.1 h.2.1 h.2.2⟩)],
 [],
 [(6, [[0, 1, 2, 3, 4, 5, 6, 7, 8]])], []⟩
theorem q1z.holds (k : Nat) : (q1z.ct k).Holds Tryz.prog 48 :=
 fnOk sg.kit Tryz.f48 _ q1z.d 1 k (fun _ _ => True.intro)
def q1j.ct (k : Nat) : Ct sg := ⟨true, ⟨[(0, .st 1), (1, .st 1)], []⟩, ⟨[(0, oB)], []⟩, [(.st 1), (.st 1)], [.bool], fun h => q1j.f k h.1 h.2⟩
def q26.ct (k : Nat) : Ct sg := ⟨true, ⟨[(0, .one (.val (.sl 26 (.st 1)))), (1, .one (.val (.sl 26 (.st 1))))], []⟩, ⟨[(0, oB)], []⟩, [(.sl 26 (.st 1)), (.sl 26 (.st 1))], [.bool], fun h => q26.f k h.1 h.2⟩
def q1j.d : FD sg (HL sg.S [.bool]) := ⟨fun k => [(48, q1z.ct k), (49, q26.ct k)],
 [],
 [],
 [], []⟩
def q26.d : FD sg (HL sg.S [.bool]) := ⟨fun k => [(15, q1j.ct k)],
 [(4, ⟨⟨[(0, .one (.val (.sl 26 (.st 1)))), (1, .one (.val (.sl 26 (.st 1)))), (5, oI)], []⟩, [(.sl 26 (.st 1)), (.sl 26 (.st 1)), tI], fun k h => q26.l4 k h.1 h.2.1 h.2.2⟩)],
 [],
 [(6, [[0, 1, 2, 3, 4, 5, 6, 7, 8, 9]])], []⟩
theorem q1j.all : ∀ k : Nat, (q1j.ct k).Holds Tryz.prog 15 ∧ (q26.ct k).Holds Tryz.prog 49 :=
 recOk ⟨zeroOk, zeroOk⟩ fun k ih =>
 ⟨fnOk sg.kit Tryz.f15 _ q1j.d 0 k (fun j hj => ⟨q1z.holds j, (ih j hj).2, True.intro⟩), fnOk sg.kit Tryz.f49 _ q26.d 1 k (fun j hj => ⟨(ih j hj).1, True.intro⟩)⟩
theorem q1j.holds (k : Nat) : (q1j.ct k).Holds Tryz.prog 15 := (q1j.all k).1
theorem q26.holds (k : Nat) : (q26.ct k).Holds Tryz.prog 49 := (q1j.all k).2
def q11.ct (k : Nat) : Ct sg := ⟨true, ⟨[(0, .one (.val (.sl 96 (.st 0)))), (1, .one (.val (.sl 96 (.st 0))))], []⟩, ⟨[(0, oB)], []⟩, [(.sl 96 (.st 0)), (.sl 96 (.st 0))], [.bool], fun h => q11.f k h.1 h.2⟩
def q11.d : FD sg (HL sg.S [.bool]) := ⟨fun k => [(9, q11.ct k), (15, q1j.ct k)],
 [(4, ⟨⟨[(0, .one (.val (.sl 96 (.st 0)))), (1, .one (.val (.sl 96 (.st 0)))), (5, oI)], []⟩, [(.sl 96 (.st 0)), (.sl 96 (.st 0)), tI], fun k h => q11.l4 k h.1 h.2.1 h.2.2⟩)],
 [],
 [(6, [[0, 1, 2, 3, 4, 5, 6, 7, 8, 9, 10, 11, 12, 13, 14, 15, 16, 17, 18, 19, 20, 21, 22, 23, 24, 25, 26, 27, 28, 29, 30, 31, 32, 33, 34, 35, 36, 37, 38, 39, 40, 41, 42, 43, 44, 45, 46, 47, 48, 49, 50, 51, 52]])], []⟩
theorem q11.all : ∀ k : Nat, (q11.ct k).Holds Tryz.prog 9 :=
 recOk zeroOk fun k ih =>
 fnOk sg.kit Tryz.f9 _ q11.d 1 k (fun j hj => ⟨(ih j hj), q1j.holds j, True.intro⟩)
theorem q11.holds (k : Nat) : (q11.ct k).Holds Tryz.prog 9 := (q11.all k)
def qm.ct (k : Nat) : Ct sg := ⟨true, ⟨[(0, .st 1)], []⟩, ⟨[(0, oB)], []⟩, [(.st 1)], [.bool], fun h => qm.f k h⟩
def qm.d : FD sg (HL sg.S [.bool]) := ⟨fun k => [(12, qm.ct k)],
 [(4, ⟨⟨[(1, .one (.ptr 0 0)), (3, oI)], [.cells [] [.any, .any, .any, .any, .val (.sl 26 (.st 1))]]⟩, [tI, (.sl 26 (.st 1))], fun k h => qm.l4 k h.1 h.2⟩)],
 [(3, ⟨⟨[(1, .one (.ptr 0 0))], [.cells [] [.any, .any, .any, .any, .val (.sl 26 (.st 1))]]⟩, [(.sl 26 (.st 1))], fun k h => qm.j3 k h⟩)],
 [], []⟩
theorem qm.all : ∀ k : Nat, (qm.ct k).Holds Tryz.prog 12 :=
 recOk zeroOk fun k ih =>
 fnOk sg.kit Tryz.f12 _ qm.d 2 k (fun j hj => ⟨(ih j hj), True.intro⟩)
theorem qm.holds (k : Nat) : (qm.ct k).Holds Tryz.prog 12 := (qm.all k)
def q19.ct (k : Nat) : Ct sg := ⟨true, ⟨[(0, .st 1)], []⟩, ⟨[(0, oB)], []⟩, [(.st 1)], [.bool], fun h => q19.f k h⟩
def q19.d : FD sg (HL sg.S [.bool]) := ⟨fun k => [(45, q19.ct k)],
 [(4, ⟨⟨[(1, .one (.ptr 0 0)), (3, oI)], [.cells [] [.any, .any, .any, .any, .val (.sl 26 (.st 1))]]⟩, [tI, (.sl 26 (.st 1))], fun k h => q19.l4 k h.1 h.2⟩)],
 [],
 [], []⟩
theorem q19.all : ∀ k : Nat, (q19.ct k).Holds Tryz.prog 45 :=
 recOk zeroOk fun k ih =>
 fnOk sg.kit Tryz.f45 _ q19.d 1 k (fun j hj => ⟨(ih j hj), True.intro⟩)
theorem q19.holds (k : Nat) : (q19.ct k).Holds Tryz.prog 45 := (q19.all k)
def q16.ct (k : Nat) : Ct sg := ⟨true, ⟨[(0, .st 1)], []⟩, ⟨[(0, oB)], []⟩, [(.st 1)], [.bool], fun h => q16.f k h⟩
def q16.d : FD sg (HL sg.S [.bool]) := ⟨fun k => [(13, q16.ct k), (45, q19.ct k)],
 [(2, ⟨⟨[(1, .one (.ptr 0 0)), (3, oI)], [.cells [] [.any, .any, .any, .any, .val (.sl 26 (.st 1))]]⟩, [tI, (.sl 26 (.st 1))], fun k h => q16.l2 k h.1 h.2⟩)],
 [],
 [], []⟩
theorem q16.all : ∀ k : Nat, (q16.ct k).Holds Tryz.prog 13 :=
 recOk zeroOk fun k ih =>
 fnOk sg.kit Tryz.f13 _ q16.d 1 k (fun j hj => ⟨(ih j hj), q19.holds j, True.intro⟩)
theorem q16.holds (k : Nat) : (q16.ct k).Holds Tryz.prog 13 := (q16.all k)
def qo.ct (k : Nat) : Ct sg := ⟨true, ⟨[(0, .st 0)], []⟩, ⟨[(0, oB)], []⟩, [(.st 0)], [.bool], fun h => qo.f k h⟩
def qo.d : FD sg (HL sg.S [.bool]) := ⟨fun k => [(23, q15.ct k), (46, qo.ct k)],
 [(6, ⟨⟨[(1, .one (.ptr 0 0)), (38, .one (.val (.sl 96 (.st 0)))), (39, oI), (40, oI)], [.cells [] [.any, .any, .any, .any, .any, .val tI, .any, .any, .any, .any, .any, .any]]⟩, [(.sl 96 (.st 0)), tI, tI, tI], fun k h => qo.l6 k h.1 h.2.1 h.2.2.1 h.2.2.2⟩)],
 [(3, ⟨⟨[(1, .one (.ptr 0 0))], [.cells [] [.any, .any, .any, .any, .any, .val tI, .val tI, .val .str, .val (.sl 3 tI), .val tI, .val (.sl 26 (.st 1)), .val (.sl 96 (.st 0))]]⟩, [tI, tI, .str, (.sl 3 tI), tI, (.sl 26 (.st 1)), (.sl 96 (.st 0))], fun k h => qo.j3 k h.1 h.2.1 h.2.2.1 h.2.2.2.1 h.2.2.2.2.1 h.2.2.2.2.2.1 h.2.2.2.2.2.2⟩)],
 [], []⟩
theorem qo.all : ∀ k : Nat, (qo.ct k).Holds Tryz.prog 46 :=
 recOk zeroOk fun k ih =>
 fnOk sg.kit Tryz.f46 _ qo.d 2 k (fun j hj => ⟨q15.holds j, (ih j hj), True.intro⟩)
theorem qo.holds (k : Nat) : (qo.ct k).Holds Tryz.prog 46 := (qo.all k)
def q1l.ct (k : Nat) : Ct sg := ⟨true, ⟨[(0, .one (.val (.sl 96 (.st 0)))), (1, .st 1)], []⟩, ⟨[(0, oI)], []⟩, [(.sl 96 (.st 0)), (.st 1)], [tI], fun h => q1l.f k h.1 h.2⟩
def q1l.d : FD sg (HL sg.S [tI]) := ⟨fun k => [(175, q29.ct k)],
 [(2, ⟨⟨[(3, .one (.ptr 0 0)), (7, .one (.val (.sl 96 (.st 0)))), (8, oI), (9, oI)], [.cells [] [.val tI, .val .str, .val (.sl 3 tI), .val tI, .val (.sl 26 (.st 1))]]⟩, [(.sl 96 (.st 0)), tI, tI, tI, .str, (.sl 3 tI), tI, (.sl 26 (.st 1))], fun k h => q1l.l2 k h.1 h.2.1 h.2.2.1 h.2.2.2.1 h.2.2.2.2.1 h.2.2.2.2.2.1 h.2.2.2.2.2.2.1 h.2.2.2.2.2.2.2⟩)],
 [],
 [], []⟩
theorem q1l.holds (k : Nat) : (q1l.ct k).Holds Tryz.prog 121 :=
 fnOk sg.kit Tryz.f121 _ q1l.d 1 k (fun j _ => ⟨q29.holds j, True.intro⟩)
def q12.ct (k : Nat) : Ct sg := ⟨true, ⟨[(0, .one (.val (.sl 26 (.st 1))))], []⟩, ⟨[(0, oI)], []⟩, [(.sl 26 (.st 1))], [tI], fun h => q12.f k h⟩
def q12.d : FD sg (HL sg.S [tI]) := ⟨fun k => [(181, q12.ct k)],
 [(3, ⟨⟨[(3, oI), (6, .one (.val (.sl 26 (.st 1)))), (7, oI), (8, oI)], []⟩, [tI, (.sl 26 (.st 1)), tI, tI], fun k h => q12.l3 k h.1 h.2.1 h.2.2.1 h.2.2.2⟩)],
 [],
 [], []⟩
theorem q12.all : ∀ k : Nat, (q12.ct k).Holds Tryz.prog 181 :=
 recOk zeroOk fun k ih =>
 fnOk sg.kit Tryz.f181 _ q12.d 1 k (fun j hj => ⟨(ih j hj), True.intro⟩)
theorem q12.holds (k : Nat) : (q12.ct k).Holds Tryz.prog 181 := (q12.all k)
def q22.ct (k : Nat) : Ct sg := ⟨false, ⟨[(0, .one (.ptr 0 0)), (1, .st 1)], [.cells [] [.val tI, .val .bool]]⟩, ⟨[(0, .st 1)], [.cells [] [.val tI, .val .bool]]⟩, [(.st 1), tI, .bool], [(.st 1), tI, .bool], fun h => q22.f k h.1 h.2.1 h.2.2⟩
def q22.d : FD sg (HL sg.S [(.st 1), tI, .bool]) := ⟨fun k => [(181, q12.ct k)],
 [],
 [(100001, ⟨⟨[(0, .one (.ptr 0 0)), (3, .one (.ptr 1 0)), (4, .one (.ptr 2 0))], [.cells [] [.val tI, .val .bool], .cells [] [.val tI, .val .str, .val (.sl 3 tI), .val tI, .val (.sl 26 (.st 1))], .cells [] [.any, .any, .any, .any, .any]]⟩, [tI, .bool, tI, .str, (.sl 3 tI), tI, (.sl 26 (.st 1))], fun k h => q22.d1 k h.1 h.2.1 h.2.2.1 h.2.2.2.1 h.2.2.2.2.1 h.2.2.2.2.2.1 h.2.2.2.2.2.2⟩)],
 [(1, [[0, 1, 2, 4, 3, 5, 6, 7, 8, 9, 10], [0, 1, 2, 4, 5, 3, 6, 7, 8, 9, 10], [0, 1, 2, 4, 5, 6, 3, 7, 8, 9, 10]])], []⟩
theorem q22.holds (k : Nat) : (q22.ct k).Holds Tryz.prog 122 :=
 fnOk sg.kit Tryz.f122 _ q22.d 3 k (fun j _ => ⟨q12.holds j, True.intro⟩)
def q2l.ct (k : Nat) : Ct sg := ⟨false, ⟨[(0, .one (.ptr 0 0))], [.cells [] [.val tI, .val .bool]]⟩, ⟨[(0, .st 1)], [.cells [] [.val tI, .val .bool]]⟩, [tI, .bool], [(.st 1), tI, .bool], fun h => q2l.f k h.1 h.2⟩
def q2l.d : FD sg (HL sg.S [(.st 1), tI, .bool]) := ⟨fun _ => [],
 [],
 [],
 [], []⟩
theorem q2l.holds (k : Nat) : (q2l.ct k).Holds Tryz.prog 123 :=
 fnOk sg.kit Tryz.f123 _ q2l.d 0 k (fun _ _ => True.intro)
def q1r.ct (k : Nat) : Ct sg := ⟨false, ⟨[(0, .st 1), (1, .one (.ptr 0 0)), (2, .one (.ptr 1 0)), (3, .one (.ptr 2 0)), (4, .one (.ptr 3 0))], [.cells [] [.val (.sl 96 (.st 0))], .cells [] [.arr 4], .cells [] [.val tI], .cells [] [.ptr 5 0], .mo (.sl 0 tI) (.sl 0 .bool) none, .cells [] [.val tI, .val .bool]]⟩, ⟨[], [.cells [] [.val (.sl 96 (.st 0))], .cells [] [.arr 4], .cells [] [.val tI], .cells [] [.ptr 5 0], .mo (.sl 0 tI) (.sl 0 .bool) none, .cells [] [.val tI, .val .bool]]⟩, [(.st 1), (.sl 96 (.st 0)), tI, (.sl 0 tI), (.sl 0 .bool), tI, .bool], [(.sl 96 (.st 0)), tI, (.sl 0 tI), (.sl 0 .bool), tI, .bool], fun h => q1r.f k h.1 h.2.1 h.2.2.1 h.2.2.2.1 h.2.2.2.2.1 h.2.2.2.2.2.1 h.2.2.2.2.2.2⟩
def q1r.d : FD sg (HL sg.S [(.sl 96 (.st 0)), tI, (.sl 0 tI), (.sl 0 .bool), tI, .bool]) := ⟨fun k => [(121, q1l.ct k)],
 [],
 [(2, ⟨⟨[(1, .one (.ptr 0 0)), (2, .one (.ptr 1 0)), (3, .one (.ptr 2 0)), (4, .one (.ptr 3 0)), (5, .one (.ptr 6 0))], [.cells [] [.val (.sl 96 (.st 0))], .cells [] [.arr 4], .cells [] [.val tI], .cells [] [.ptr 5 0], .mo (.sl 0 tI) (.sl 0 .bool) none, .cells [] [.val tI, .val .bool], .cells [] [.val tI, .val .str, .val (.sl 3 tI), .val tI, .val (.sl 26 (.st 1))]]⟩, [(.sl 96 (.st 0)), tI, (.sl 0 tI), (.sl 0 .bool), tI, .bool, tI, .str, (.sl 3 tI), tI, (.sl 26 (.st 1))], fun k h => q1r.j2 k h.1 h.2.1 h.2.2.1 h.2.2.2.1 h.2.2.2.2.1 h.2.2.2.2.2.1 h.2.2.2.2.2.2.1 h.2.2.2.2.2.2.2.1 h.2.2.2.2.2.2.2.2.1 h.2.2.2.2.2.2.2.2.2.1 h.2.2.2.2.2.2.2.2.2.2⟩),
 (4, ⟨⟨[(1, .one (.ptr 0 0)), (2, .one (.ptr 1 0)), (3, .one (.ptr 2 0)), (4, .one (.ptr 3 0)), (6, oI)], [.cells [] [.val (.sl 96 (.st 0))], .cells [] [.arr 4], .cells [] [.val tI], .cells [] [.ptr 5 0], .mo (.sl 0 tI) (.sl 0 .bool) none, .cells [] [.val tI, .val .bool]]⟩, [tI, (.sl 96 (.st 0)), tI, (.sl 0 tI), (.sl 0 .bool), tI, .bool], fun k h => q1r.j4 k h.1 h.2.1 h.2.2.1 h.2.2.2.1 h.2.2.2.2.1 h.2.2.2.2.2.1 h.2.2.2.2.2.2⟩)],
 [], []⟩
theorem q1r.holds (k : Nat) : (q1r.ct k).Holds Tryz.prog 183 :=
 fnOk sg.kit Tryz.f183 _ q1r.d 2 k (fun j _ => ⟨q1l.holds j, True.intro⟩)
def qk.ct (k : Nat) : Ct sg := ⟨false, ⟨[(0, .st 1), (1, .one (.fn 183 [0, 1, 2, 3]))], [.cells [] [.val (.sl 96 (.st 0))], .cells [] [.arr 4], .cells [] [.val tI], .cells [] [.ptr 5 0], .mo (.sl 0 tI) (.sl 0 .bool) none, .cells [] [.val tI, .val .bool]]⟩, ⟨[], [.cells [] [.val (.sl 96 (.st 0))], .cells [] [.arr 4], .cells [] [.val tI], .cells [] [.ptr 5 0], .mo (.sl 0 tI) (.sl 0 .bool) none, .cells [] [.val tI, .val .bool]]⟩, [(.st 1), (.sl 96 (.st 0)), tI, (.sl 0 tI), (.sl 0 .bool), tI, .bool], [(.sl 96 (.st 0)), tI, (.sl 0 tI), (.sl 0 .bool), tI, .bool], fun h => qk.f k h.1 h.2.1 h.2.2.1 h.2.2.2.1 h.2.2.2.2.1 h.2.2.2.2.2.1 h.2.2.2.2.2.2⟩
def qk.d : FD sg (HL sg.S [(.sl 96 (.st 0)), tI, (.sl 0 tI), (.sl 0 .bool), tI, .bool]) := ⟨fun k => [(182, qk.ct k), (183, q1r.ct k)],
 [(4, ⟨⟨[(1, .one (.fn 183 [0, 1, 2, 3])), (13, .one (.val (.sl 26 (.st 1)))), (14, oI), (15, oI)], [.cells [] [.val (.sl 96 (.st 0))], .cells [] [.arr 4], .cells [] [.val tI], .cells [] [.ptr 5 0], .mo (.sl 0 tI) (.sl 0 .bool) none, .cells [] [.val tI, .val .bool]]⟩, [(.sl 26 (.st 1)), tI, tI, (.sl 96 (.st 0)), tI, (.sl 0 tI), (.sl 0 .bool), tI, .bool], fun k h => qk.l4 k h.1 h.2.1 h.2.2.1 h.2.2.2.1 h.2.2.2.2.1 h.2.2.2.2.2.1 h.2.2.2.2.2.2.1 h.2.2.2.2.2.2.2.1 h.2.2.2.2.2.2.2.2⟩)],
 [(3, ⟨⟨[(1, .one (.fn 183 [0, 1, 2, 3])), (2, .one (.ptr 6 0))], [.cells [] [.val (.sl 96 (.st 0))], .cells [] [.arr 4], .cells [] [.val tI], .cells [] [.ptr 5 0], .mo (.sl 0 tI) (.sl 0 .bool) none, .cells [] [.val tI, .val .bool], .cells [] [.any, .any, .any, .any, .val (.sl 26 (.st 1))]]⟩, [(.sl 96 (.st 0)), tI, (.sl 0 tI), (.sl 0 .bool), tI, .bool, (.sl 26 (.st 1))], fun k h => qk.j3 k h.1 h.2.1 h.2.2.1 h.2.2.2.1 h.2.2.2.2.1 h.2.2.2.2.2.1 h.2.2.2.2.2.2⟩)],
 [], []⟩
theorem qk.all : ∀ k : Nat, (qk.ct k).Holds Tryz.prog 182 :=
 recOk zeroOk fun k ih =>
 fnOk sg.kit Tryz.f182 _ qk.d 2 k (fun j hj => ⟨(ih j hj), q1r.holds j, True.intro⟩)
theorem qk.holds (k : Nat) : (qk.ct k).Holds Tryz.prog 182 := (qk.all k)
def q9.ct (k : Nat) : Ct sg := ⟨false, ⟨[(0, .one (.ptr 0 0)), (1, .st 1), (2, .one (.val (.sl 96 (.st 0)))), (3, oB)], [.cells [] [.val tI, .val .bool]]⟩, ⟨[(0, .st 1)], [.cells [] [.val tI, .val .bool]]⟩, [(.st 1), (.sl 96 (.st 0)), .bool, tI, .bool], [(.st 1), tI, .bool], fun h => q9.f k h.1 h.2.1 h.2.2.1 h.2.2.2.1 h.2.2.2.2⟩
def qb.ct (k : Nat) : Ct sg := ⟨false, ⟨[(0, .one (.ptr 0 0)), (1, .st 1), (2, oI), (3, .one (.val (.sl 96 (.st 0)))), (4, oB)], [.cells [] [.val tI, .val .bool]]⟩, ⟨[(0, .one (.arr 1))], [.cells [] [.val tI, .val .bool], .arr 26 (.st 1)]⟩, [(.st 1), tI, (.sl 96 (.st 0)), .bool, tI, .bool], [tI, .bool, (.sl 26 (.st 1))], fun h => qb.f k h.1 h.2.1 h.2.2.1 h.2.2.2.1 h.2.2.2.2.1 h.2.2.2.2.2⟩
def q9.d : FD sg (HL sg.S [(.st 1), tI, .bool]) := ⟨fun k => [(39, q13.ct k), (47, q9.ct k), (112, qt.ct k), (113, q1a.ct k), (115, q1o.ct k), (121, q1l.ct k), (122, q22.ct k), (123, q2l.ct k), (124, qb.ct k)],
 [(18, ⟨⟨[(0, .one (.ptr 0 0)), (2, .one (.val (.sl 96 (.st 0)))), (3, oB), (8, .one (.ptr 1 0)), (10, .one (.val (.sl 26 (.st 1)))), (11, .one (.val (.po (.st 1)))), (12, .one (.arr 2)), (13, oI)], [.cells [] [.val tI, .val .bool], .cells [] [.any, .any, .any, .any, .any], .arr 26 (.st 1)]⟩, [(.sl 96 (.st 0)), .bool, (.sl 26 (.st 1)), (.po (.st 1)), tI, tI, .bool, (.sl 26 (.st 1))], fun k h => q9.l18 k h.1 h.2.1 h.2.2.1 h.2.2.2.1 h.2.2.2.2.1 h.2.2.2.2.2.1 h.2.2.2.2.2.2.1 h.2.2.2.2.2.2.2⟩),
 (23, ⟨⟨[(0, .one (.ptr 0 0)), (2, .one (.val (.sl 96 (.st 0)))), (3, oB), (8, .one (.ptr 1 0)), (10, .one (.val (.sl 26 (.st 1)))), (11, .one (.val (.po (.st 1)))), (12, .one (.arr 2)), (13, oI), (14, oI)], [.cells [] [.val tI, .val .bool], .cells [] [.any, .any, .any, .any, .any], .arr 26 (.st 1)]⟩, [(.sl 96 (.st 0)), .bool, (.sl 26 (.st 1)), (.po (.st 1)), tI, tI, tI, .bool, (.sl 26 (.st 1))], fun k h => q9.l23 k h.1 h.2.1 h.2.2.1 h.2.2.2.1 h.2.2.2.2.1 h.2.2.2.2.2.1 h.2.2.2.2.2.2.1 h.2.2.2.2.2.2.2.1 h.2.2.2.2.2.2.2.2⟩)],
 [(14, ⟨⟨[(0, .one (.ptr 0 0)), (2, .one (.val (.sl 96 (.st 0)))), (3, oB), (5, .one (.ptr 1 0)), (8, .one (.ptr 2 0)), (74, oB)], [.cells [] [.val tI, .val .bool], .cells [] [.val tI, .val .str, .val (.sl 3 tI), .val tI, .val (.sl 26 (.st 1))], .cells [] [.any, .any, .any, .any, .any]]⟩, [(.sl 96 (.st 0)), .bool, .bool, tI, .bool, tI, .str, (.sl 3 tI), tI, (.sl 26 (.st 1))], fun k h => q9.j14 k h.1 h.2.1 h.2.2.1 h.2.2.2.1 h.2.2.2.2.1 h.2.2.2.2.2.1 h.2.2.2.2.2.2.1 h.2.2.2.2.2.2.2.1 h.2.2.2.2.2.2.2.2.1 h.2.2.2.2.2.2.2.2.2⟩),
 (20, ⟨⟨[(0, .one (.ptr 0 0)), (2, .one (.val (.sl 96 (.st 0)))), (3, oB), (8, .one (.ptr 1 0)), (10, .one (.val (.sl 26 (.st 1)))), (11, .one (.val (.po (.st 1)))), (12, .one (.arr 2)), (13, oI)], [.cells [] [.val tI, .val .bool], .cells [] [.any, .any, .any, .any, .any], .arr 26 (.st 1)]⟩, [(.sl 96 (.st 0)), .bool, (.sl 26 (.st 1)), (.po (.st 1)), tI, tI, .bool, (.sl 26 (.st 1))], fun k h => q9.j20 k h.1 h.2.1 h.2.2.1 h.2.2.2.1 h.2.2.2.2.1 h.2.2.2.2.2.1 h.2.2.2.2.2.2.1 h.2.2.2.2.2.2.2⟩),
 (22, ⟨⟨[(0, .one (.ptr 0 0)), (2, .one (.val (.sl 96 (.st 0)))), (3, oB), (8, .one (.ptr 1 0)), (10, .one (.val (.sl 26 (.st 1)))), (11, .one (.val (.po (.st 1)))), (12, .one (.arr 2)), (13, oI)], [.cells [] [.val tI, .val .bool], .cells [] [.any, .any, .any, .any, .any], .arr 26 (.st 1)]⟩, [(.sl 96 (.st 0)), .bool, (.sl 26 (.st 1)), (.po (.st 1)), tI, tI, .bool, (.sl 26 (.st 1))], fun k h => q9.j22 k h.1 h.2.1 h.2.2.1 h.2.2.2.1 h.2.2.2.2.1 h.2.2.2.2.2.1 h.2.2.2.2.2.2.1 h.2.2.2.2.2.2.2⟩)],
 [], []⟩
def qb.d : FD sg (HL sg.S [tI, .bool, (.sl 26 (.st 1))]) := ⟨fun k => [(47, q9.ct k), (124, qb.ct k), (182, qk.ct k)],
 [(12, ⟨⟨[(2, oI), (4, oB), (5, .one (.ptr 1 0)), (6, .one (.ptr 2 0)), (8, .one (.ptr 3 0)), (11, .one (.ptr 4 0)), (12, .one (.ptr 5 0)), (13, .one (.arr 6)), (14, oI)], [.cells [] [.val tI, .val .bool], .cells [] [.ptr 0 0], .cells [] [.val tI, .val .str, .val (.sl 3 tI), .val tI, .val (.sl 26 (.st 1))], .cells [] [.val (.sl 96 (.st 0))], .cells [] [.arr 7], .cells [] [.val tI], .arr 26 (.st 1), .mo (.sl 0 tI) (.sl 0 .bool) none]⟩, [tI, .bool, tI, tI, .bool, tI, .str, (.sl 3 tI), tI, (.sl 26 (.st 1)), (.sl 96 (.st 0)), tI, (.sl 26 (.st 1)), (.sl 0 tI), (.sl 0 .bool)], fun k h => qb.l12 k h.1 h.2.1 h.2.2.1 h.2.2.2.1 h.2.2.2.2.1 h.2.2.2.2.2.1 h.2.2.2.2.2.2.1 h.2.2.2.2.2.2.2.1 h.2.2.2.2.2.2.2.2.1 h.2.2.2.2.2.2.2.2.2.1 h.2.2.2.2.2.2.2.2.2.2.1 h.2.2.2.2.2.2.2.2.2.2.2.1 h.2.2.2.2.2.2.2.2.2.2.2.2.1 h.2.2.2.2.2.2.2.2.2.2.2.2.2.1 h.2.2.2.2.2.2.2.2.2.2.2.2.2.2⟩),
 (16, ⟨⟨[(2, oI), (4, oB), (5, .one (.ptr 1 0)), (6, .one (.ptr 2 0)), (8, .one (.ptr 3 0)), (11, .one (.ptr 4 0)), (12, .one (.ptr 5 0)), (13, .one (.arr 6)), (14, oI), (15, .one (.arr 7)), (55, .one (.arr 8))], [.cells [] [.val tI, .val .bool], .cells [] [.ptr 0 0], .cells [] [.val tI, .val .str, .val (.sl 3 tI), .val tI, .val (.sl 26 (.st 1))], .cells [] [.val (.sl 96 (.st 0))], .cells [] [.arr 9], .cells [] [.val tI], .arr 26 (.st 1), .arr 96 (.st 0), .mo tI (.sl 0 tI) (some 9), .mo (.sl 0 tI) (.sl 0 .bool) none]⟩, [tI, .bool, tI, tI, .bool, tI, .str, (.sl 3 tI), tI, (.sl 26 (.st 1)), (.sl 96 (.st 0)), tI, (.sl 26 (.st 1)), (.sl 96 (.st 0)), tI, (.sl 0 tI), (.sl 0 tI), (.sl 0 .bool)], fun k h => qb.l16 k h.1 h.2.1 h.2.2.1 h.2.2.2.1 h.2.2.2.2.1 h.2.2.2.2.2.1 h.2.2.2.2.2.2.1 h.2.2.2.2.2.2.2.1 h.2.2.2.2.2.2.2.2.1 h.2.2.2.2.2.2.2.2.2.1 h.2.2.2.2.2.2.2.2.2.2.1 h.2.2.2.2.2.2.2.2.2.2.2.1 h.2.2.2.2.2.2.2.2.2.2.2.2.1 h.2.2.2.2.2.2.2.2.2.2.2.2.2.1 h.2.2.2.2.2.2.2.2.2.2.2.2.2.2.1 h.2.2.2.2.2.2.2.2.2.2.2.2.2.2.2.1 h.2.2.2.2.2.2.2.2.2.2.2.2.2.2.2.2.1 h.2.2.2.2.2.2.2.2.2.2.2.2.2.2.2.2.2⟩)],
 [(10, ⟨⟨[(2, oI), (4, oB), (5, .one (.ptr 1 0)), (6, .one (.ptr 2 0)), (8, .one (.ptr 3 0)), (11, .one (.ptr 4 0)), (12, .one (.ptr 5 0))], [.cells [] [.val tI, .val .bool], .cells [] [.ptr 0 0], .cells [] [.val tI, .val .str, .val (.sl 3 tI), .val tI, .val (.sl 26 (.st 1))], .cells [] [.val (.sl 96 (.st 0))], .cells [] [.arr 6], .cells [] [.val tI], .mo (.sl 0 tI) (.sl 0 .bool) none]⟩, [tI, .bool, tI, .bool, tI, .str, (.sl 3 tI), tI, (.sl 26 (.st 1)), (.sl 96 (.st 0)), tI, (.sl 0 tI), (.sl 0 .bool)], fun k h => qb.j10 k h.1 h.2.1 h.2.2.1 h.2.2.2.1 h.2.2.2.2.1 h.2.2.2.2.2.1 h.2.2.2.2.2.2.1 h.2.2.2.2.2.2.2.1 h.2.2.2.2.2.2.2.2.1 h.2.2.2.2.2.2.2.2.2.1 h.2.2.2.2.2.2.2.2.2.2.1 h.2.2.2.2.2.2.2.2.2.2.2.1 h.2.2.2.2.2.2.2.2.2.2.2.2⟩),
 (14, ⟨⟨[(2, oI), (4, oB), (5, .one (.ptr 1 0)), (6, .one (.ptr 2 0)), (8, .one (.ptr 3 0)), (11, .one (.ptr 4 0)), (12, .one (.ptr 5 0)), (13, .one (.arr 6)), (14, oI)], [.cells [] [.val tI, .val .bool], .cells [] [.ptr 0 0], .cells [] [.val tI, .val .str, .val (.sl 3 tI), .val tI, .val (.sl 26 (.st 1))], .cells [] [.val (.sl 96 (.st 0))], .cells [] [.arr 7], .cells [] [.val tI], .arr 26 (.st 1), .mo (.sl 0 tI) (.sl 0 .bool) none]⟩, [tI, .bool, tI, tI, .bool, tI, .str, (.sl 3 tI), tI, (.sl 26 (.st 1)), (.sl 96 (.st 0)), tI, (.sl 26 (.st 1)), (.sl 0 tI), (.sl 0 .bool)], fun k h => qb.j14 k h.1 h.2.1 h.2.2.1 h.2.2.2.1 h.2.2.2.2.1 h.2.2.2.2.2.1 h.2.2.2.2.2.2.1 h.2.2.2.2.2.2.2.1 h.2.2.2.2.2.2.2.2.1 h.2.2.2.2.2.2.2.2.2.1 h.2.2.2.2.2.2.2.2.2.2.1 h.2.2.2.2.2.2.2.2.2.2.2.1 h.2.2.2.2.2.2.2.2.2.2.2.2.1 h.2.2.2.2.2.2.2.2.2.2.2.2.2.1 h.2.2.2.2.2.2.2.2.2.2.2.2.2.2⟩)],
 [], []⟩
theorem q9.all : ∀ k : Nat, (q9.ct k).Holds Tryz.prog 47 ∧ (qb.ct k).Holds Tryz.prog 124 :=
 recOk ⟨zeroOk, zeroOk⟩ fun k ih =>
 ⟨fnOk sg.kit Tryz.f47 _ q9.d 5 k (fun j hj => ⟨q13.holds j, (ih j hj).1, qt.holds j, q1a.holds j, q1o.holds j, q1l.holds j, q22.holds j, q2l.holds j, (ih j hj).2, True.intro⟩), fnOk sg.kit Tryz.f124 _ qb.d 4 k (fun j hj => ⟨(ih j hj).1, (ih j hj).2, qk.holds j, True.intro⟩)⟩
theorem q9.holds (k : Nat) : (q9.ct k).Holds Tryz.prog 47 := (q9.all k).1
theorem qb.holds (k : Nat) : (qb.ct k).Holds Tryz.prog 124 := (q9.all k).2
def q24.ct (k : Nat) : Ct sg := ⟨false, ⟨[(0, .st 1), (1, .one (.val (.sl 96 (.st 0))))], []⟩, ⟨[(0, .st 1), (1, oB)], []⟩, [(.st 1), (.sl 96 (.st 0))], [(.st 1), .bool], fun h => q24.f k h.1 h.2⟩
def q24.d : FD sg (HL sg.S [(.st 1), .bool]) := ⟨fun k => [(23, q15.ct k), (46, qo.ct k), (47, q9.ct k)],
 [(4, ⟨⟨[(1, .one (.val (.sl 96 (.st 0)))), (2, .one (.ptr 0 0)), (4, .one (.ptr 1 0)), (14, .one (.val (.sl 96 (.st 0)))), (15, oI), (16, oI)], [.cells [] [.val tI, .val .str, .val (.sl 3 tI), .val tI, .val (.sl 26 (.st 1))], .cells [] [.any, .any, .any, .any, .any]]⟩, [(.sl 96 (.st 0)), (.sl 96 (.st 0)), tI, tI, tI, .str, (.sl 3 tI), tI, (.sl 26 (.st 1))], fun k h => q24.l4 k h.1 h.2.1 h.2.2.1 h.2.2.2.1 h.2.2.2.2.1 h.2.2.2.2.2.1 h.2.2.2.2.2.2.1 h.2.2.2.2.2.2.2.1 h.2.2.2.2.2.2.2.2⟩)],
 [],
 [], []⟩
theorem q24.holds (k : Nat) : (q24.ct k).Holds Tryz.prog 14 :=
 fnOk sg.kit Tryz.f14 _ q24.d 1 k (fun j _ => ⟨q15.holds j, qo.holds j, q9.holds j, True.intro⟩)
def q1d.ct (k : Nat) : Ct sg := ⟨true, ⟨[(0, .one (.val (.sl 5 (.int .u8))))], []⟩, ⟨[(0, oB)], []⟩, [(.sl 5 (.int .u8))], [.bool], fun h => q1d.f k h⟩
def q1d.d : FD sg (HL sg.S [.bool]) := ⟨fun k => [(6, q1f.ct k), (7, q2b.ct k), (8, q2f.ct k), (9, q11.ct k), (10, q1t.ct k), (11, q14.ct k), (12, qm.ct k), (13, q16.ct k), (14, q24.ct k), (15, q1j.ct k)],
 [],
 [(100006, ⟨⟨[(3, .one (.ptr 0 0)), (4, .one (.val (.sl 26 (.st 1)))), (5, .one (.ptr 1 0)), (6, .one (.val (.sl 197 (.st 2)))), (7, .one (.arr 2)), (8, oB), (9, .one (.arr 3)), (10, oB)], [.cells [] [.val tI, .val .str, .val (.sl 3 tI), .val tI, .val (.sl 26 (.st 1))], .cells [] [.val tI, .val .str, .val (.sl 3 tI), .val tI, .val (.sl 26 (.st 1))], .arr 96 (.st 0), .arr 96 (.st 0)]⟩, [(.sl 26 (.st 1)), (.sl 197 (.st 2)), .bool, .bool, tI, .str, (.sl 3 tI), tI, (.sl 26 (.st 1)), tI, .str, (.sl 3 tI), tI, (.sl 26 (.st 1)), (.sl 96 (.st 0)), (.sl 96 (.st 0))], fun k h => q1d.d6 k h.1 h.2.1 h.2.2.1 h.2.2.2.1 h.2.2.2.2.1 h.2.2.2.2.2.1 h.2.2.2.2.2.2.1 h.2.2.2.2.2.2.2.1 h.2.2.2.2.2.2.2.2.1 h.2.2.2.2.2.2.2.2.2.1 h.2.2.2.2.2.2.2.2.2.2.1 h.2.2.2.2.2.2.2.2.2.2.2.1 h.2.2.2.2.2.2.2.2.2.2.2.2.1 h.2.2.2.2.2.2.2.2.2.2.2.2.2.1 h.2.2.2.2.2.2.2.2.2.2.2.2.2.2.1 h.2.2.2.2.2.2.2.2.2.2.2.2.2.2.2⟩),
 (8, ⟨⟨[(3, .one (.ptr 0 0)), (5, .one (.ptr 1 0)), (6, .one (.val (.sl 197 (.st 2))))], [.cells [] [.val tI, .val .str, .val (.sl 3 tI), .val tI, .val (.sl 26 (.st 1))], .cells [] [.val tI, .val .str, .val (.sl 3 tI), .val tI, .val (.sl 26 (.st 1))]]⟩, [(.sl 197 (.st 2)), tI, .str, (.sl 3 tI), tI, (.sl 26 (.st 1)), tI, .str, (.sl 3 tI), tI, (.sl 26 (.st 1))], fun k h => q1d.j8 k h.1 h.2.1 h.2.2.1 h.2.2.2.1 h.2.2.2.2.1 h.2.2.2.2.2.1 h.2.2.2.2.2.2.1 h.2.2.2.2.2.2.2.1 h.2.2.2.2.2.2.2.2.1 h.2.2.2.2.2.2.2.2.2.1 h.2.2.2.2.2.2.2.2.2.2⟩),
 (11, ⟨⟨[(3, .one (.ptr 0 0)), (5, .one (.ptr 1 0)), (11, .one (.arr 2))], [.cells [] [.val tI, .val .str, .val (.sl 3 tI), .val tI, .val (.sl 26 (.st 1))], .cells [] [.val tI, .val .str, .val (.sl 3 tI), .val tI, .val (.sl 26 (.st 1))], .arr 96 (.st 0)]⟩, [tI, .str, (.sl 3 tI), tI, (.sl 26 (.st 1)), tI, .str, (.sl 3 tI), tI, (.sl 26 (.st 1)), (.sl 96 (.st 0))], fun k h => q1d.j11 k h.1 h.2.1 h.2.2.1 h.2.2.2.1 h.2.2.2.2.1 h.2.2.2.2.2.1 h.2.2.2.2.2.2.1 h.2.2.2.2.2.2.2.1 h.2.2.2.2.2.2.2.2.1 h.2.2.2.2.2.2.2.2.2.1 h.2.2.2.2.2.2.2.2.2.2⟩)],
 [(6, [[0, 1, 2, 3, 4, 5, 6, 7, 8, 9, 10, 11, 14, 12, 13, 15, 16, 17, 18, 19, 20, 21, 22, 23, 24, 25, 26], [0, 1, 2, 3, 4, 5, 6, 7, 8, 9, 10, 11, 14, 13, 12, 15, 16, 17, 18, 19, 20, 21, 22, 23, 24, 25, 26]])], []⟩
theorem q1d.holds (k : Nat) : (q1d.ct k).Holds Tryz.prog 3 :=
 fnOk sg.kit Tryz.f3 _ q1d.d 4 k (fun j _ => ⟨q1f.holds j, q2b.holds j, q2f.holds j, q11.holds j, q1t.holds j, q14.holds j, qm.holds j, q16.holds j, q24.holds j, q1j.holds j, True.intro⟩)
end
end Go.Proofs.YtmcbhnbemhfifaaGreatDoor.RX
end
section
namespace Go.Proofs.YtmcbhnbemhfifaaGreatDoor.RX
open Go K
set_option autoImplicit false
set_option linter.unusedVariables false
set_option linter.unusedSimpArgs false
theorem indForm {P : TExpForm → Prop} (h : ∀ x : TExpForm, (∀ y ∈ x.vKids, P y) → P x) : ∀ x, P x := by
 have key : ∀ n (x : TExpForm), SizeOf.sizeOf x < n → P x := by
  intro n
  induction n with
  | zero => intro x hx; omega
  | succ n ih =>
   intro x hx
   refine h x (fun y hy => ih y ?_)
   have h1 := List.sizeOf_lt_of_mem hy
   cases x
   simp at h1 hx ⊢
   omega
 exact fun x => key _ x (Nat.lt_succ_self _)
mutual
def wid : TExpForm → Int
 | ⟨_, t, sc, _, ks⟩ => 1 + (t.size : Int) + (sc.length : Int) + wids ks
def wids : List TExpForm → Int
 | [] => 0
 | x :: l => wid x + wids l
end
theorem wid_mk (x : TExpForm) : wid x = 1 + (x.vText.size : Int) + (x.vScopes.length : Int) + wids x.vKids := by cases x; simp only [wid]
theorem wid_c (a : Int) (t : ByteArray) (sc : List Int) (d : Int) (ks : List TExpForm) : wid ⟨a, t, sc, d, ks⟩ = 1 + (t.size : Int) + (sc.length : Int) + wids ks := by simp only [wid]
theorem wids_len (l : List TExpForm) : 0 ≤ wids l ∧ (l.length : Int) ≤ wids l := by
 have key : ∀ x : TExpForm, 1 ≤ wid x := by
  refine indForm fun x ih => ?_
  rw [wid_mk]
  have : ∀ l : List TExpForm, (∀ y ∈ l, 1 ≤ wid y) → 0 ≤ wids l := by
   intro l
   induction l with
   | nil => intro _; simp [wids]
   | cons y l ihl =>
    intro h
    have := h y (by simp)
    have := ihl fun z hz => h z (List.mem_cons_of_mem _ hz)
    simp only [wids]; omega
  have := this _ ih
  omega
 induction l with
 | nil => simp [wids]
 | cons x l ih =>
  have := key x
  simp only [wids, List.length_cons]; omega
theorem wid_pos (x : TExpForm) : 1 ≤ wid x := by rw [wid_mk]; have := (wids_len x.vKids).1; omega
theorem wids_mem {l : List TExpForm} {x : TExpForm} (h : x ∈ l) : wid x ≤ wids l := by
 induction l with
 | nil => cases h
 | cons y l ih =>
  have h1 := wid_pos y
  have h2 := (wids_len l).1
  simp only [wids]
  rcases List.mem_cons.1 h with rfl | h
  ·omega
  ·have := ih h; omega
theorem wids_append (l m : List TExpForm) : wids (l ++ m) = wids l + wids m := by
 induction l with
 | nil => simp [wids]
 | cons x l ih => simp only [List.cons_append, wids, ih]; omega
theorem wids_one (x : TExpForm) : wids [x] = wid x := by simp [wids]
theorem wids_take_le (l : List TExpForm) (n : Nat) : wids (l.take n) ≤ wids l := by
 have h := wids_append (l.take n) (l.drop n)
 rw [List.take_append_drop] at h
 have := (wids_len (l.drop n)).1
 omega
theorem wid_parts (x : TExpForm) : (x.vText.size : Int) < wid x ∧ (x.vScopes.length : Int) < wid x ∧ (x.vKids.length : Int) < wid x ∧ wids x.vKids < wid x ∧ 0 ≤ wids x.vKids := by
 have := wid_mk x
 have := wids_len x.vKids
 omega
end Go.Proofs.YtmcbhnbemhfifaaGreatDoor.RX
end
section
namespace Go.Proofs.YtmcbhnbemhfifaaGreatDoor.RX
open Go K
set_option autoImplicit false
set_option linter.unusedVariables false
set_option linter.unusedSimpArgs false
theorem copy_all : ∀ x : TExpForm, wid x ≤ 1000000000 → Ev (fun k => qx.f k x) (x.vSort, x.vText, x.vFrom, x.vScopes, x.vKids) := by
 refine indForm fun x ih hw => ?_
 have hp := wid_parts x
 refine Ev.shift ?_
 simp (disch := omega) only [qx.f, if_pos, List.length_nil, Nat.zero_add, List.nil_append]
 refine Ev.bind (r := x.vKids) (Ev.shift ?_) (Ev.now _)
 simp only [q1h.f]
 refine Ev.eq (goList x.vKids (P := fun i suf => ∀ out : List TExpForm, (out.length : Int) = i → Ev (fun k => q1h.l3 k x.vKids i out) (out ++ suf)) ?_ ?_ [] rfl) (by simp)
 ·intro out ho
  refine Ev.shift ?_
  simp (disch := omega) only [q1h.l3, if_neg, List.append_nil]
  exact Ev.now _
 ·intro i y r h0 h1 hx hm hl _ _ ihr out ho
  have hy := wids_mem hm
  refine Ev.shift ?_
  simp (disch := omega) only [q1h.l3, if_pos, hx, eTExpForm_eq, w64, List.length_singleton]
  refine Ev.bind (ih y hm (by omega)) ?_
  simp (disch := omega) only [if_pos, mTExpForm]
  exact Ev.eq (ihr (out ++ [y]) (by simp; omega)) (by simp)
end Go.Proofs.YtmcbhnbemhfifaaGreatDoor.RX
end
section
namespace Go.Proofs.YtmcbhnbemhfifaaGreatDoor.RX
open Go K
set_option autoImplicit false
set_option linter.unusedVariables false
set_option linter.unusedSimpArgs false
def isDig (c : Int) : Bool := decide (48 ≤ c) && decide (c ≤ 57)
def inStr (c : Int) : Bool := decide (32 ≤ c) && decide (c ≤ 126) && !decide (c = 34)
def digs (l : List Int) : Bool := !l.isEmpty && l.all isDig
def quoted (l : List Int) : Bool := decide (2 ≤ l.length) && decide (rdAt 0 l 0 = 34) && decide (rdAt 0 l ((l.length : Int) - 1) = 34) && ((l.take (l.length - 1)).drop 1).all inStr
def atomL (l : List Int) : Bool := decide (l = [35, 116]) || (decide (l = [35, 102]) || (digs l || ((decide (1 < l.length) && decide (rdAt 0 l 0 = 45) && digs (l.drop 1)) || quoted l)))
def atomB (s : ByteArray) : Bool := atomL (bytesOf s)
def inId (c : Int) : Bool := decide (33 ≤ c) && decide (c < 126) && !decide (c = 40) && !decide (c = 41) && !decide (c = 34) && !decide (c = 39)
def idB (s : ByteArray) : Bool := (bytesOf s).all inId && !(bytesOf s).isEmpty && !decide (bytesOf s = [46]) && !decide (rdAt 0 (bytesOf s) 0 = 35) && !atomB s
theorem lit_eq {s : ByteArray} (a : Array UInt8) (l : List Int) (h : bytesOf (ByteArray.mk a) = l) : (s.toList = (ByteArray.mk a).toList) ↔ bytesOf s = l := by
 rw [toList_inj, ← bytesOf_inj, h]
theorem decide_not_ne {p : Prop} [Decidable p] (h : p) : ¬ ¬ p := fun k => k h
theorem bsize (s : ByteArray) : (s.size : Int) = ((bytesOf s).length : Int) := by rw [bytesOf_length]
theorem digits_ok (s : ByteArray) (hs : s.size ≤ 1000000000) : Ev (fun k => q1m.f k s) (digs (bytesOf s)) := by
 have hb := bsize s
 simp only [q1m.f]
 have key : Ev (fun k => q1m.l2 k s 0) ((bytesOf s).all isDig && decide (0 < (s.size : Int))) := by
  refine goList (bytesOf s) (P := fun i suf => Ev (fun k => q1m.l2 k s i) (suf.all isDig && decide (0 < (s.size : Int)))) ?_ ?_
  ·refine Ev.shift ?_
   simp (disch := omega) only [q1m.l2, if_neg, List.all_nil, Bool.true_and]
   exact Ev.now _
  ·intro i c r h0 h1 hx hm _ _ _ ih
   have h2 := byte_ok s c hm
   refine Ev.shift ?_
   simp (disch := omega) only [q1m.l2, if_pos, bt_rd, hx, List.all_cons, w64]
   by_cases a1 : c < 48
   ·simp (disch := omega) only [if_pos, isDig, decide_eq_false, Bool.false_and]; exact Ev.now _
   by_cases a2 : 57 < c
   ·simp (disch := omega) only [if_pos, if_neg, isDig, decide_eq_false, Bool.and_false, Bool.false_and]; exact Ev.now _
   simp (disch := omega) only [if_neg, isDig, decide_eq_true (show 48 ≤ c by omega), decide_eq_true (show c ≤ 57 by omega), Bool.and_self, Bool.true_and]
   exact ih
 refine Ev.eq key ?_
 unfold digs
 rw [hb, Bool.and_comm]
 cases bytesOf s <;> simp
theorem quoted_ok (s : ByteArray) (hs : s.size ≤ 1000000000) : Ev (fun k => qs.j3 k s) (quoted (bytesOf s)) := by
 have hb := bsize s
 unfold quoted
 by_cases h2 : (s.size : Int) < 2
 ·simp (disch := omega) only [qs.j3, if_pos]
  rw [decide_eq_false (by omega)]; simp only [Bool.false_and]; exact Ev.now _
 simp (disch := omega) only [qs.j3, if_pos, if_neg, bt_rd, w64]
 rw [decide_eq_true (show 2 ≤ (bytesOf s).length by omega), Bool.true_and]
 by_cases h3 : rdAt 0 (bytesOf s) 0 = 34
 ·simp only [if_neg (decide_not_ne h3), decide_eq_true h3, Bool.true_and, ← hb]
  by_cases h4 : rdAt 0 (bytesOf s) ((s.size : Int) - 1) = 34
  ·simp only [decide_eq_true h4, Bool.true_and, if_neg (decide_not_ne h4), qs.j5]
   have hl : (bytesOf s).length - 1 = (s.size : Int).toNat - 1 := by omega
   have key := goFrom ((bytesOf s).take ((bytesOf s).length - 1)) (P := fun i suf => Ev (fun k => qs.l6 k s i) (suf.all inStr)) ?_ ?_ 1 (by rw [List.length_take]; omega)
   ·exact key
   ·refine Ev.shift ?_
    rw [List.length_take]
    simp (disch := omega) only [qs.l6, if_neg, w64, List.all_nil]
    exact Ev.now _
   ·intro i c r h0 h1 hx hm _ _ _ ih
    rw [List.length_take] at h1
    have hc : rdAt 0 (bytesOf s) i = c := by
     rw [← hx 0]
     unfold rdAt
     rw [List.getD_eq_getElem?_getD, List.getD_eq_getElem?_getD, List.getElem?_take, if_pos (by omega)]
    refine Ev.shift ?_
    simp (disch := omega) only [qs.l6, if_pos, bt_rd, hc, List.all_cons, w64]
    by_cases a0 : c = 34
    ·simp (disch := omega) only [if_pos, inStr, decide_eq_true, Bool.not_true, Bool.and_false, Bool.false_and]; exact Ev.now _
    by_cases a1 : c < 32
    ·simp (disch := omega) only [if_pos, if_neg, inStr, decide_eq_false, Bool.false_and]; exact Ev.now _
    by_cases a2 : 126 < c
    ·simp (disch := omega) only [if_pos, if_neg, inStr, decide_eq_false, Bool.and_false, Bool.false_and]; exact Ev.now _
    simp (disch := omega) only [if_neg, inStr, decide_eq_true, decide_eq_false, Bool.not_false, Bool.and_self, Bool.true_and]
    exact ih
  ·simp only [decide_eq_false h4, Bool.false_and, if_pos h4]; exact Ev.now _
 ·simp only [if_pos h3, decide_eq_false h3, Bool.false_and]; exact Ev.now _
theorem atom_spec (s : ByteArray) (hs : s.size ≤ 1000000000) : Ev (fun k => qs.f k s) (atomB s) := by
 have hb := bsize s
 simp only [qs.f, lit_eq #[35, 116] [35, 116] rfl, lit_eq #[35, 102] [35, 102] rfl, atomB, atomL]
 by_cases a1 : bytesOf s = [35, 116]
 ·simp only [if_pos a1, decide_eq_true a1, Bool.true_or]; exact Ev.now _
 simp only [if_neg a1, decide_eq_false a1, Bool.false_or]
 by_cases a2 : bytesOf s = [35, 102]
 ·simp only [if_pos a2, decide_eq_true a2, Bool.true_or]; exact Ev.now _
 simp only [if_neg a2, decide_eq_false a2, Bool.false_or]
 refine Ev.bind (digits_ok s hs) ?_
 by_cases a3 : digs (bytesOf s) = true
 ·rw [a3]; simp only [if_true, Bool.true_or]; exact Ev.now _
 simp only [if_neg a3, Bool.eq_false_iff.2 a3, Bool.false_or]
 by_cases a4 : 1 < (s.size : Int)
 ·simp (disch := omega) only [if_pos, decide_eq_true (show 1 < (bytesOf s).length by omega), Bool.true_and, bt_rd]
  by_cases a5 : rdAt 0 (bytesOf s) 0 = 45
  ·rw [decide_eq_true a5]
   simp only [if_pos a5, Bool.true_and]
   refine Ev.bind (digits_ok _ (by rw [ByteArray.size_extract]; omega)) ?_
   have e : bytesOf (s.extract 1 (s.size : Int).toNat) = (bytesOf s).drop 1 := by
    rw [bytesOf_extract, List.take_of_length_le (by omega)]
   rw [e]
   by_cases a6 : digs ((bytesOf s).drop 1) = true
   ·rw [a6]; simp only [if_true, Bool.true_or]; exact Ev.now _
   ·simp only [if_neg a6, Bool.eq_false_iff.2 a6, Bool.false_or]
    exact quoted_ok s hs
  ·rw [decide_eq_false a5]
   simp only [if_neg a5, Bool.false_and, Bool.false_or]
   exact quoted_ok s hs
 ·simp (disch := omega) only [if_neg, decide_eq_false (show ¬ 1 < (bytesOf s).length by omega), Bool.false_and, Bool.false_or]
  exact quoted_ok s hs
theorem dropWhile_nil {α : Type} (p : α → Bool) : ∀ l : List α, l.dropWhile p = [] ↔ l.all p = true := by
 intro l
 induction l with
 | nil => simp
 | cons x l ih =>
  by_cases h : p x = true
  ·simp [List.dropWhile_cons, h, ih]
  ·simp [List.dropWhile_cons, h]
theorem trim_nil (l cs : List UInt8) : Go.Lib.trimS l cs = [] ↔ l.all (cs.contains ·) = true := by
 unfold Go.Lib.trimS Go.Lib.trimLeftS Go.Lib.trimRightS
 rw [dropWhile_nil]
 constructor
 ·intro h
  have h0 : (l.reverse.dropWhile (cs.contains ·)) = [] := by
   cases hd : l.reverse.dropWhile (cs.contains ·) with
   | nil => rfl
   | cons y m =>
    have hy : cs.contains y = false := by
     have := List.head?_dropWhile_not (cs.contains ·) l.reverse
     rw [hd] at this
     simpa using this
    rw [hd] at h
    simp at h
    have h1 := h.2
    rw [List.contains_eq_mem] at hy
    simp at hy
    exact absurd h1 hy
  rw [dropWhile_nil] at h0
  simpa using h0
 ·intro h
  have h0 : (l.reverse.dropWhile (cs.contains ·)) = [] := by
   rw [dropWhile_nil]
   simpa using h
  rw [h0]
  rfl
theorem dig_iff : ∀ b : UInt8, ([48, 49, 50, 51, 52, 53, 54, 55, 56, 57] : List UInt8).contains b = isDig (b.toNat : Int) := by
 intro b
 have : ∀ n : Fin 256, ([48, 49, 50, 51, 52, 53, 54, 55, 56, 57] : List UInt8).contains (UInt8.ofNat n.val) = isDig (n.val : Int) := by decide +kernel
 have := this ⟨b.toNat, b.toNat_lt⟩
 simpa using this
theorem trim_ok (d : ByteArray) (hd : d.size ≤ 1000000000) : ∃ r, LTrim d (ByteArray.mk #[48, 49, 50, 51, 52, 53, 54, 55, 56, 57]) = some r ∧ decide (r.toList = (ByteArray.mk #[]).toList) = (bytesOf d).all isDig := by
 refine ⟨⟨(Go.Lib.trimS d.data.toList [48, 49, 50, 51, 52, 53, 54, 55, 56, 57]).toArray⟩, ?_, ?_⟩
 ·unfold LTrim
  rw [if_pos (by decide), if_pos (by omega), if_pos (by decide)]
 ·have e : (bytesOf d).all isDig = d.data.toList.all (([48, 49, 50, 51, 52, 53, 54, 55, 56, 57] : List UInt8).contains ·) := by
   unfold bytesOf
   rw [List.all_map]
   congr 1
   funext b
   exact (dig_iff b).symm
  rw [e, Bool.eq_iff_iff, ← trim_nil, decide_eq_true_eq, toList_data]
  simp [toList_data]
theorem prefix_ok (s : ByteArray) : Ev (fun k => q2h.f k s (ByteArray.mk #[45])) (if 1 ≤ (s.size : Int) ∧ rdAt 0 (bytesOf s) 0 = 45 then s.extract 1 s.size else s) := by
 have hb := bsize s
 have e1 : (ByteArray.mk #[45]).size = 1 := rfl
 simp only [q2h.f, q2m.f, q2k.f, e1]
 by_cases h : 1 ≤ (s.size : Int)
 ·have e : ((s.extract 0 ((1 : Nat) : Int).toNat).toList = (ByteArray.mk #[45]).toList) ↔ rdAt 0 (bytesOf s) 0 = 45 := by
   rw [lit_eq #[45] [45] rfl, bytesOf_extract]
   generalize bytesOf s = l at hb ⊢
   cases l with
   | nil => simp only [List.length_nil] at hb; omega
   | cons c l => simp [rdAt]
  simp (disch := omega) only [if_pos, e, Option.bind_some, decide_eq_true_eq, h, true_and]
  by_cases h5 : rdAt 0 (bytesOf s) 0 = 45
  ·simp only [h5, if_true, Option.bind_some]; exact Ev.now _
  ·simp only [h5, if_false, Option.bind_some]; exact Ev.now _
 ·simp (disch := omega) only [if_neg, Option.bind_some, Bool.false_eq_true, if_false]
  exact Ev.now _
theorem atom_impl (s : ByteArray) (hs : s.size ≤ 1000000000) : Ev (fun k => qq.f k s) (atomB s) := by
 have hb := bsize s
 simp only [qq.f, lit_eq #[35, 116] [35, 116] rfl, lit_eq #[35, 102] [35, 102] rfl, atomB, atomL]
 by_cases a1 : bytesOf s = [35, 116]
 ·simp only [if_pos a1, decide_eq_true a1, Bool.true_or]; exact Ev.now _
 simp only [if_neg a1, decide_eq_false a1, Bool.false_or]
 by_cases a2 : bytesOf s = [35, 102]
 ·simp only [if_pos a2, decide_eq_true a2, Bool.true_or]; exact Ev.now _
 simp only [if_neg a2, decide_eq_false a2, Bool.false_or]
 have other : quoted (bytesOf s) = false → Ev (fun k => qq.j5 k s (s.size : Int) false) (digs (bytesOf s) || (decide (1 < (bytesOf s).length) && decide (rdAt 0 (bytesOf s) 0 = 45) && digs ((bytesOf s).drop 1) || quoted (bytesOf s))) := by
  intro hq
  rw [hq, Bool.or_false]
  simp only [qq.j5, Bool.false_eq_true, if_false]
  refine Ev.bind (prefix_ok s) ?_
  have fin : ∀ d : ByteArray, d.size ≤ 1000000000 → Ev (fun k : Nat => if ¬ d.toList = (ByteArray.mk #[]).toList then ((LTrim d (ByteArray.mk #[48, 49, 50, 51, 52, 53, 54, 55, 56, 57])).bind fun r2 => some (decide (r2.toList = (ByteArray.mk #[]).toList))) else some false) (digs (bytesOf d)) := by
   intro d hd
   obtain ⟨r, e1, e2⟩ := trim_ok d hd
   rw [e1]
   simp only [Option.bind_some, e2]
   simp only [lit_eq #[] [] rfl, digs]
   cases h : bytesOf d with
   | nil => simp; exact Ev.now _
   | cons c l => simp only [List.isEmpty_cons, Bool.not_false, Bool.true_and, reduceCtorEq, not_false_eq_true, if_true]; exact Ev.now _
  have edge : ∀ c ∈ bytesOf s, 0 ≤ c ∧ c ≤ 255 := byte_ok s
  by_cases h : 1 ≤ (s.size : Int) ∧ rdAt 0 (bytesOf s) 0 = 45
  ·rw [if_pos h]
   have hd : digs (bytesOf s) = false := by
    have h1 := h.1; have h2 := h.2
    generalize bytesOf s = l at h1 h2 hb ⊢
    cases l with
    | nil => rfl
    | cons c l => simp [rdAt] at h2; subst h2; simp [digs, isDig]
   rw [hd, Bool.false_or, decide_eq_true h.2, Bool.and_true]
   refine Ev.eq (fin _ (by rw [ByteArray.size_extract]; omega)) ?_
   have e : bytesOf (s.extract 1 s.size) = (bytesOf s).drop 1 := by rw [bytesOf_extract, List.take_of_length_le (by omega)]
   rw [e]
   by_cases h1 : 1 < (bytesOf s).length
   ·rw [decide_eq_true h1, Bool.true_and]
   ·rw [decide_eq_false h1, Bool.false_and, List.drop_eq_nil_of_le (by omega)]; rfl
  ·rw [if_neg h]
   refine Ev.eq (fin _ hs) ?_
   have : (decide (1 < (bytesOf s).length) && decide (rdAt 0 (bytesOf s) 0 = 45)) = false := by
    rw [Bool.and_eq_false_iff, decide_eq_false_iff_not, decide_eq_false_iff_not]
    by_cases h1 : 1 < (bytesOf s).length
    ·exact .inr fun e => h ⟨by omega, e⟩
    ·exact .inl h1
   rw [this, Bool.false_and, Bool.or_false]
 by_cases h2 : 2 ≤ (s.size : Int)
 ·simp (disch := omega) only [qq.j3, if_pos, bt_rd, w64]
  by_cases h3 : rdAt 0 (bytesOf s) 0 = 34
  ·simp only [if_pos h3]
   by_cases h4 : rdAt 0 (bytesOf s) ((s.size : Int) - 1) = 34
   ·have hd : digs (bytesOf s) = false := by
     generalize bytesOf s = l at h3 hb ⊢
     cases l with
     | nil => rfl
     | cons c l => simp [rdAt] at h3; subst h3; simp [digs, isDig]
    rw [hd, h3, decide_eq_false (show ¬ (34 : Int) = 45 by decide), Bool.and_false, Bool.false_and, Bool.false_or, Bool.false_or, decide_eq_true h4]
    simp (disch := omega) only [qq.j5, if_true, w64, if_pos]
    have e : bytesOf (s.extract 1 ((s.size : Int) - 1).toNat) = ((bytesOf s).take ((bytesOf s).length - 1)).drop 1 := by
     rw [bytesOf_extract, show ((s.size : Int) - 1).toNat = (bytesOf s).length - 1 by omega]
    rw [e]
    have hq : quoted (bytesOf s) = (((bytesOf s).take ((bytesOf s).length - 1)).drop 1).all inStr := by
     unfold quoted
     rw [decide_eq_true (show 2 ≤ (bytesOf s).length by omega), decide_eq_true h3, ← hb, decide_eq_true h4]
     simp only [Bool.true_and]
    rw [hq]
    have hlen : (((bytesOf s).take ((bytesOf s).length - 1)).drop 1).length ≤ 1000000000 := by rw [List.length_drop, List.length_take]; omega
    generalize (((bytesOf s).take ((bytesOf s).length - 1)).drop 1) = m at hlen ⊢
    refine goList m (P := fun i suf => Ev (fun k => qq.l6 k m (m.length : Int) i) (suf.all inStr)) ?_ ?_
    ·refine Ev.shift ?_
     simp (disch := omega) only [qq.l6, if_neg, List.all_nil]
     exact Ev.now _
    ·intro i c r h0 h1 hx hm _ _ _ ih
     refine Ev.shift ?_
     simp (disch := omega) only [qq.l6, if_pos, hx, List.all_cons, w64]
     by_cases a1 : c < 32
     ·simp (disch := omega) only [if_pos, if_neg, inStr, decide_eq_false, Bool.false_and]; exact Ev.now _
     by_cases a2 : 126 < c
     ·simp (disch := omega) only [if_pos, if_neg, inStr, decide_eq_false, Bool.and_false, Bool.false_and]; exact Ev.now _
     by_cases a0 : c = 34
     ·simp (disch := omega) only [if_pos, if_neg, inStr, decide_eq_true, Bool.not_true, Bool.and_false, Bool.false_and]; exact Ev.now _
     simp (disch := omega) only [if_neg, inStr, decide_eq_true, decide_eq_false, Bool.not_false, Bool.and_self, Bool.true_and]
     exact ih
   ·simp only [decide_eq_false h4]
    refine other ?_
    unfold quoted
    rw [← hb, decide_eq_false h4, Bool.and_false, Bool.false_and]
  ·simp only [if_neg h3]
   refine other ?_
   unfold quoted
   rw [decide_eq_false h3, Bool.and_false, Bool.false_and, Bool.false_and]
 ·simp (disch := omega) only [qq.j3, if_neg]
  refine other ?_
  unfold quoted
  rw [decide_eq_false (show ¬ 2 ≤ (bytesOf s).length by omega)]
  simp only [Bool.false_and]
theorem ends_ok (c : Int) : Ev (fun k => q2e.f k c) (decide (c = 32) || decide (c = 10) || decide (c = 40) || decide (c = 41) || decide (c = 34) || decide (c = 39)) := by
 simp only [q2e.f, q2j.f]
 by_cases a0 : c = 32
 ·simp [a0]; exact Ev.now _
 by_cases a1 : c = 10
 ·simp [a1]; exact Ev.now _
 by_cases a2 : c = 40
 ·simp [a2]; exact Ev.now _
 by_cases a3 : c = 41
 ·simp [a3]; exact Ev.now _
 by_cases a4 : c = 34
 ·simp [a4]; exact Ev.now _
 simp [a0, a1, a2, a3, a4]; exact Ev.now _
theorem id_spec (s : ByteArray) (hs : s.size ≤ 1000000000) : Ev (fun k => q1g.f k s) (idB s) := by
 have hb := bsize s
 simp only [q1g.f, lit_eq #[] [] rfl, lit_eq #[46] [46] rfl, bt_rd]
 by_cases a0 : bytesOf s = []
 ·have : idB s = false := by unfold idB; rw [a0]; rfl
  simp only [if_pos a0, this]; exact Ev.now _
 by_cases a1 : bytesOf s = [46]
 ·have : idB s = false := by unfold idB; rw [decide_eq_true a1]; simp
  simp only [if_neg a0, if_pos a1, this]; exact Ev.now _
 simp only [if_neg a0, if_neg a1]
 refine Ev.bind (atom_spec s hs) ?_
 by_cases a2 : atomB s = true
 ·have : idB s = false := by unfold idB; rw [a2]; simp
  simp only [a2, if_true, this]; exact Ev.now _
 have hp : 0 < (s.size : Int) := by
  have := List.length_pos_iff.2 a0; omega
 simp (disch := omega) only [if_neg a2, if_pos]
 by_cases a3 : rdAt 0 (bytesOf s) 0 = 35
 ·have : idB s = false := by unfold idB; rw [decide_eq_true a3]; simp
  simp only [if_pos a3, this]; exact Ev.now _
 simp only [if_neg a3, q1g.j3]
 have e : idB s = (bytesOf s).all inId := by
  unfold idB
  rw [decide_eq_false a1, decide_eq_false a3, Bool.eq_false_iff.2 a2]
  have : (bytesOf s).isEmpty = false := by simpa using a0
  simp [this]
 rw [e]
 refine goList (bytesOf s) (P := fun i suf => Ev (fun k => q1g.l4 k s i) (suf.all inId)) ?_ ?_
 ·refine Ev.shift ?_
  simp (disch := omega) only [q1g.l4, if_neg, List.all_nil]
  exact Ev.now _
 ·intro i c r h0 h1 hx hm _ _ _ ih
  refine Ev.shift ?_
  simp (disch := omega) only [q1g.l4, if_pos, bt_rd, hx, List.all_cons, w64]
  refine Ev.bind (ends_ok c) ?_
  by_cases h : inId c = true
  ·have h' := h
   simp only [inId, Bool.and_eq_true, Bool.not_eq_true', decide_eq_true_eq, decide_eq_false_iff_not] at h'
   simp (disch := omega) only [decide_eq_false, Bool.or_self, Bool.false_eq_true, if_false, if_neg, h, Bool.true_and]
   exact ih
  ·have h' := h
   simp only [inId, Bool.and_eq_true, Bool.not_eq_true', decide_eq_true_eq, decide_eq_false_iff_not] at h'
   rw [Bool.eq_false_iff.2 h, Bool.false_and]
   by_cases b1 : (decide (c = 32) || decide (c = 10) || decide (c = 40) || decide (c = 41) || decide (c = 34) || decide (c = 39)) = true
   ·simp only [b1, if_true]; exact Ev.now _
   ·simp only [Bool.or_eq_true, decide_eq_true_eq] at b1
    simp (disch := omega) only [decide_eq_false, Bool.or_self, Bool.false_eq_true, if_false]
    by_cases b2 : c < 33
    ·simp only [if_pos b2]; exact Ev.now _
    by_cases b3 : 126 < c
    ·simp only [if_neg b2, if_pos b3]; exact Ev.now _
    ·simp (disch := omega) only [if_neg b2, if_neg b3, if_pos]; exact Ev.now _
theorem index_id (c : Int) (h0 : 0 ≤ c) (h1 : c ≤ 255) : (0 ≤ LIndexByte (ByteArray.mk #[40, 41, 34, 39, 126]) c) ↔ (c = 40 ∨ c = 41 ∨ c = 34 ∨ c = 39 ∨ c = 126) := by
 obtain ⟨n, rfl⟩ := Int.eq_ofNat_of_zero_le h0
 have : ∀ n : Fin 256, (0 ≤ LIndexByte (ByteArray.mk #[40, 41, 34, 39, 126]) (n.val : Int)) ↔ ((n.val : Int) = 40 ∨ (n.val : Int) = 41 ∨ (n.val : Int) = 34 ∨ (n.val : Int) = 39 ∨ (n.val : Int) = 126) := by decide +kernel
 exact this ⟨n, by omega⟩
theorem id_impl (s : ByteArray) (hs : s.size ≤ 1000000000) : Ev (fun k => q1q.f k s) (idB s) := by
 have hb := bsize s
 simp only [q1q.f, bytesOf_length]
 have key : ∀ r : List Int, r = bytesOf s → Ev (fun k => q1q.l2 k s (bytesOf s) (s.size : Int) 0) (r.all inId && !(bytesOf s).isEmpty && !decide (bytesOf s = [46]) && !decide (rdAt 0 (bytesOf s) 0 = 35) && !atomB s) := by
  rintro r rfl
  refine goList (bytesOf s) (P := fun i suf => Ev (fun k => q1q.l2 k s (bytesOf s) (s.size : Int) i) (suf.all inId && !(bytesOf s).isEmpty && !decide (bytesOf s = [46]) && !decide (rdAt 0 (bytesOf s) 0 = 35) && !atomB s)) ?_ ?_
  ·refine Ev.shift ?_
   simp (disch := omega) only [q1q.l2, if_neg, List.all_nil, Bool.true_and, lit_eq #[] [] rfl, lit_eq #[46] [46] rfl, bt_rd]
   by_cases a0 : bytesOf s = []
   ·simp only [a0, if_neg (decide_not_ne (rfl : ([] : List Int) = [])), List.isEmpty_nil, Bool.not_true, Bool.false_and]; exact Ev.now _
   have a0' : (bytesOf s).isEmpty = false := by simpa using a0
   simp only [if_pos a0, a0', Bool.not_false, Bool.true_and]
   by_cases a1 : bytesOf s = [46]
   ·simp only [if_neg (decide_not_ne a1), decide_eq_true a1, Bool.not_true, Bool.false_and]; exact Ev.now _
   have hp : 0 < (s.size : Int) := by have := List.length_pos_iff.2 a0; omega
   simp only [if_pos a1, decide_eq_false a1, Bool.not_false, Bool.true_and, if_pos hp]
   by_cases a3 : rdAt 0 (bytesOf s) 0 = 35
   ·simp only [if_neg (decide_not_ne a3), decide_eq_true a3, Bool.not_true, Bool.false_and]; exact Ev.now _
   simp only [if_pos a3, decide_eq_false a3, Bool.not_false, Bool.true_and]
   refine Ev.bind (atom_impl s hs) ?_
   cases atomB s
   ·exact Ev.now _
   ·exact Ev.now _
  ·intro i c r h0 h1 hx hm _ _ _ ih
   obtain ⟨c0, c1⟩ := byte_ok s c hm
   refine Ev.shift ?_
   simp (disch := omega) only [q1q.l2, if_pos, hx, List.all_cons, w64, index_id c c0 c1]
   by_cases h : inId c = true
   ·have h' := h
    simp only [inId, Bool.and_eq_true, Bool.not_eq_true', decide_eq_true_eq, decide_eq_false_iff_not] at h'
    simp (disch := omega) only [if_neg, h, Bool.true_and]
    exact ih
   ·have h' := h
    simp only [inId, Bool.and_eq_true, Bool.not_eq_true', decide_eq_true_eq, decide_eq_false_iff_not] at h'
    rw [Bool.eq_false_iff.2 h]
    simp only [Bool.false_and]
    by_cases b2 : c < 33
    ·simp only [if_pos b2]; exact Ev.now _
    by_cases b3 : 126 < c
    ·simp only [if_neg b2, if_pos b3]; exact Ev.now _
    ·simp (disch := omega) only [if_neg b2, if_neg b3, if_pos]; exact Ev.now _
 exact key _ rfl
end Go.Proofs.YtmcbhnbemhfifaaGreatDoor.RX
end
section
namespace Go.Proofs.YtmcbhnbemhfifaaGreatDoor.RX
open Go K
set_option autoImplicit false
set_option linter.unusedVariables false
set_option linter.unusedSimpArgs false
def ascFrom : Option Int → List Int → Bool
 | _, [] => true
 | o, x :: l => decide (0 ≤ x) && (match o with | none => true | some p => decide (p < x)) && ascFrom (some x) l
def scOk (l : List Int) : Bool := ascFrom none l
def lastOk (ks : List TExpForm) : Bool := decide (2 ≤ (ks.length : Int)) && (decide ((rdAt zTExpForm ks ((ks.length : Int) - 1)).vSort = 1) || decide ((rdAt zTExpForm ks ((ks.length : Int) - 1)).vSort = 2))
mutual
def okf : TExpForm → Int → Bool
 | ⟨a, t, sc, d, ks⟩, deep => decide (deep ≤ 60) && (if a = 1 then idB t && (decide ((t.size : Int) ≤ 40) && (decide (0 ≤ d) && (scOk sc && decide ((ks.length : Int) = 0))))
  else if a = 2 then atomB t && (decide ((t.size : Int) ≤ 40) && (decide (d = 0) && (decide ((sc.length : Int) = 0) && decide ((ks.length : Int) = 0))))
  else (decide (a = 3) || decide (a = 4)) && (decide (bytesOf t = []) && (decide (d = 0) && (decide ((sc.length : Int) = 0) && (okfs ks (deep + 1) && (decide (a = 3) || lastOk ks))))))
def okfs : List TExpForm → Int → Bool
 | [], _ => true
 | x :: l, deep => okf x deep && okfs l deep
end
mutual
def cnt : TExpForm → Int
 | ⟨_, _, _, _, ks⟩ => 1 + cnts ks
def cnts : List TExpForm → Int
 | [] => 0
 | x :: l => cnt x + cnts l
end
theorem okf_mk (x : TExpForm) (deep : Int) : okf x deep = (decide (deep ≤ 60) && (if x.vSort = 1 then idB x.vText && (decide ((x.vText.size : Int) ≤ 40) && (decide (0 ≤ x.vFrom) && (scOk x.vScopes && decide ((x.vKids.length : Int) = 0))))
  else if x.vSort = 2 then atomB x.vText && (decide ((x.vText.size : Int) ≤ 40) && (decide (x.vFrom = 0) && (decide ((x.vScopes.length : Int) = 0) && decide ((x.vKids.length : Int) = 0))))
  else (decide (x.vSort = 3) || decide (x.vSort = 4)) && (decide (bytesOf x.vText = []) && (decide (x.vFrom = 0) && (decide ((x.vScopes.length : Int) = 0) && (okfs x.vKids (deep + 1) && (decide (x.vSort = 3) || lastOk x.vKids))))))) := by cases x; simp only [okf]
theorem cnt_mk (x : TExpForm) : cnt x = 1 + cnts x.vKids := by cases x; simp only [cnt]
theorem cnt_pos : ∀ x, 1 ≤ cnt x ∧ cnt x ≤ wid x := by
 refine indForm fun x ih => ?_
 have : ∀ l : List TExpForm, (∀ y ∈ l, 1 ≤ cnt y ∧ cnt y ≤ wid y) → 0 ≤ cnts l ∧ cnts l ≤ wids l := by
  intro l
  induction l with
  | nil => intro _; simp [cnts, wids]
  | cons y l ihl =>
   intro h
   have := h y (by simp)
   have := ihl fun z hz => h z (List.mem_cons_of_mem _ hz)
   simp only [cnts, wids]; omega
 have := this _ ih
 rw [cnt_mk, wid_mk]
 omega
theorem cnts_le (l : List TExpForm) : 0 ≤ cnts l ∧ cnts l ≤ wids l := by
 induction l with
 | nil => simp [cnts, wids]
 | cons x l ih =>
  have := cnt_pos x
  simp only [cnts, wids]; omega
def okb (x : TExpForm) : Bool := okf x 0 && leB (cnt x) 1500
theorem scopes_spec (l : List Int) (hl : (l.length : Int) ≤ 1000000000) : Ev (fun k => q1v.f k l) (scOk l) := by
 simp only [q1v.f]
 refine goList l (P := fun i suf => ∀ o : Option Int, (match o with | none => i = 0 | some p => 0 < i ∧ rdAt 0 l (i - 1) = p) → Ev (fun k => q1v.l2 k l i) (ascFrom o suf)) ?_ ?_ none rfl
 ·intro o ho
  refine Ev.shift ?_
  simp (disch := omega) only [q1v.l2, if_neg, ascFrom]
  exact Ev.now _
 ·intro i x r h0 h1 hx hm _ _ _ ih o ho
  refine Ev.shift ?_
  simp (disch := omega) only [q1v.l2, if_pos, hx, w64, ascFrom]
  by_cases a0 : x < 0
  ·simp (disch := omega) only [if_pos, decide_eq_false, Bool.false_and]; exact Ev.now _
  have a0' : decide (0 ≤ x) = true := by simpa using a0
  simp only [if_neg a0, a0', Bool.true_and]
  have ih' := ih (some x) ⟨by omega, by rw [show i + 1 - 1 = i by omega]; exact hx 0⟩
  cases o with
  | none =>
   have ho : i = 0 := ho
   simp (disch := omega) only [if_neg, Bool.true_and]
   exact ih'
  | some p =>
   obtain ⟨o1, o2⟩ : 0 < i ∧ rdAt 0 l (i - 1) = p := ho
   simp (disch := omega) only [if_pos, o2]
   by_cases a1 : x ≤ p
   ·simp (disch := omega) only [if_pos, decide_eq_false, Bool.false_and]; exact Ev.now _
   ·simp (disch := omega) only [if_neg, decide_eq_true (show p < x by omega), Bool.true_and]; exact ih'
theorem scopes_impl (n : Int) (l : List Int) (hl : (l.length : Int) ≤ 1000000000) : Ev (fun k => qe.j9 k n l) (if scOk l then n else -1) := by
 simp only [qe.j9]
 refine goList l (P := fun i suf => ∀ o : Option Int, (match o with | none => i = 0 | some p => 0 < i ∧ rdAt 0 l (i - 1) = p) → Ev (fun k => qe.l10 k n l (l.length : Int) i l) (if ascFrom o suf then n else -1)) ?_ ?_ none rfl
 ·intro o ho
  refine Ev.shift ?_
  simp (disch := omega) only [qe.l10, if_neg, ascFrom, if_true]
  exact Ev.now _
 ·intro i x r h0 h1 hx hm _ _ _ ih o ho
  refine Ev.shift ?_
  simp (disch := omega) only [qe.l10, if_pos, hx, w64, ascFrom]
  by_cases a0 : x < 0
  ·simp (disch := omega) only [if_pos, decide_eq_false, Bool.false_and, Bool.false_eq_true, if_false]; exact Ev.now _
  have a0' : decide (0 ≤ x) = true := by simpa using a0
  simp only [if_neg a0, a0', Bool.true_and]
  have ih' := ih (some x) ⟨by omega, by rw [show i + 1 - 1 = i by omega]; exact hx 0⟩
  cases o with
  | none =>
   have ho : i = 0 := ho
   simp (disch := omega) only [if_neg, Bool.true_and]
   exact ih'
  | some p =>
   obtain ⟨o1, o2⟩ : 0 < i ∧ rdAt 0 l (i - 1) = p := ho
   simp (disch := omega) only [if_pos, o2]
   by_cases a1 : x ≤ p
   ·simp (disch := omega) only [if_pos, decide_eq_false, Bool.false_and, Bool.false_eq_true, if_false]; exact Ev.now _
   ·simp (disch := omega) only [if_neg, decide_eq_true (show p < x by omega), Bool.true_and]; exact ih'
theorem ok_spec : ∀ (x : TExpForm) (deep : Int), wid x ≤ 1000000000 → 0 ≤ deep → deep ≤ 1000000000 → Ev (fun k => qj.f k x deep) (okf x deep) := by
 refine indForm fun x ih deep hw h0 hd => ?_
 have hp := wid_parts x
 rw [okf_mk]
 refine Ev.shift ?_
 simp only [qj.f]
 by_cases a0 : 60 < deep
 ·simp (disch := omega) only [if_pos, decide_eq_false, Bool.false_and]; exact Ev.now _
 simp (disch := omega) only [if_neg a0, decide_eq_true (show deep ≤ 60 by omega), Bool.true_and]
 by_cases a1 : x.vSort = 1
 ·simp only [if_pos a1]
  refine Ev.bind (id_spec _ (by omega)) ?_
  cases idB x.vText with
  | false => simp only [Bool.false_eq_true, if_false, Bool.false_and]; exact Ev.now _
  | true =>
   simp only [if_true, Bool.true_and]
   by_cases a2 : (x.vText.size : Int) ≤ 40
   ·simp only [if_pos a2, decide_eq_true a2, Bool.true_and]
    by_cases a3 : 0 ≤ x.vFrom
    ·simp only [if_pos a3, decide_eq_true a3, Bool.true_and]
     refine Ev.bind (scopes_spec _ (by omega)) ?_
     cases scOk x.vScopes with
     | false => simp only [Bool.false_eq_true, if_false, Bool.false_and]; exact Ev.now _
     | true => simp only [if_true, Bool.true_and]; exact Ev.now _
    ·simp only [if_neg a3, decide_eq_false a3, Bool.false_and]; exact Ev.now _
   ·simp only [if_neg a2, decide_eq_false a2, Bool.false_and]; exact Ev.now _
 simp only [if_neg a1]
 by_cases a2 : x.vSort = 2
 ·simp only [if_pos a2]
  refine Ev.bind (atom_spec _ (by omega)) ?_
  cases atomB x.vText with
  | false => simp only [Bool.false_eq_true, if_false, Bool.false_and]; exact Ev.now _
  | true =>
   simp only [if_true, Bool.true_and]
   by_cases a2 : (x.vText.size : Int) ≤ 40
   ·simp only [if_pos a2, decide_eq_true a2, Bool.true_and]
    by_cases a3 : x.vFrom = 0
    ·simp (disch := omega) only [if_pos a3, decide_eq_true a3, Bool.true_and, w64]
     by_cases a4 : (x.vScopes.length : Int) = 0
     ·rw [decide_eq_true a4, Bool.true_and, a4]; simp only [Int.zero_add]; exact Ev.now _
     ·rw [decide_eq_false a4, Bool.false_and]; simp (disch := omega) only [decide_eq_false]; exact Ev.now _
    ·simp only [if_neg a3, decide_eq_false a3, Bool.false_and]; exact Ev.now _
   ·simp only [if_neg a2, decide_eq_false a2, Bool.false_and]; exact Ev.now _
 simp only [if_neg a2]
 have list : ∀ b : Bool, b = (decide (x.vSort = 3) || decide (x.vSort = 4)) → Ev (fun k => qj.j11b k (qj.f k) (qj.l14 k) deep b x.vSort x.vText x.vScopes x.vFrom x.vKids)
   ((decide (x.vSort = 3) || decide (x.vSort = 4)) && (decide (bytesOf x.vText = []) && (decide (x.vFrom = 0) && (decide ((x.vScopes.length : Int) = 0) && (okfs x.vKids (deep + 1) && (decide (x.vSort = 3) || lastOk x.vKids)))))) := by
  intro b hb
  rw [← hb]
  simp only [qj.j11b, qj.j13b, lit_eq #[] [] rfl]
  cases b with
  | false => simp only [Bool.false_eq_true, if_false, Bool.false_and]; exact Ev.now _
  | true =>
   simp only [if_true, Bool.true_and]
   by_cases a3 : bytesOf x.vText = []
   ·simp only [if_neg (decide_not_ne a3), decide_eq_true a3, Bool.true_and]
    by_cases a4 : x.vFrom = 0
    ·simp only [if_neg (decide_not_ne a4), decide_eq_true a4, Bool.true_and]
     by_cases a5 : (x.vScopes.length : Int) = 0
     ·simp (disch := omega) only [if_neg, decide_eq_true a5, Bool.true_and]
      refine goList x.vKids (P := fun i suf => Ev (fun k => qj.l14 k deep i x.vSort x.vKids) (okfs suf (deep + 1) && (decide (x.vSort = 3) || lastOk x.vKids))) ?_ ?_
      ·refine Ev.shift ?_
       simp (disch := omega) only [qj.l14, if_neg, okfs, Bool.true_and]
       by_cases a6 : x.vSort = 3
       ·simp only [if_pos a6, decide_eq_true a6, Bool.true_or]; exact Ev.now _
       simp only [if_neg a6, decide_eq_false a6, Bool.false_or, lastOk]
       by_cases a7 : 1 < (x.vKids.length : Int)
       ·simp (disch := omega) only [if_pos, w64, decide_eq_true (show 2 ≤ (x.vKids.length : Int) by omega), Bool.true_and]
        by_cases a8 : (rdAt zTExpForm x.vKids ((x.vKids.length : Int) - 1)).vSort = 1
        ·simp only [if_pos a8, decide_eq_true a8, Bool.true_or]; exact Ev.now _
        ·simp only [if_neg a8, decide_eq_false a8, Bool.false_or]; exact Ev.now _
       ·simp (disch := omega) only [if_neg, decide_eq_false (show ¬ 2 ≤ (x.vKids.length : Int) by omega), Bool.false_and]; exact Ev.now _
      ·intro i y r h0 h1 hx hm _ _ _ ihr
       have hy := wids_mem hm
       refine Ev.shift ?_
       simp (disch := omega) only [qj.l14, if_pos, hx, eTExpForm_eq, w64, okfs]
       refine Ev.bind (ih y hm (deep + 1) (by omega) (by omega) (by omega)) ?_
       cases okf y (deep + 1) with
       | false => simp only [Bool.false_eq_true, not_false_eq_true, if_true, Bool.false_and]; exact Ev.now _
       | true => simp only [not_true_eq_false, if_false, Bool.true_and]; exact ihr
     ·simp (disch := omega) only [if_pos, decide_eq_false a5, Bool.false_and]; exact Ev.now _
    ·simp only [if_pos a4, decide_eq_false a4, Bool.false_and]; exact Ev.now _
   ·simp only [if_pos a3, decide_eq_false a3, Bool.false_and]; exact Ev.now _
 by_cases a3 : x.vSort = 3
 ·simp only [if_pos a3]
  exact list true (by rw [decide_eq_true a3, Bool.true_or])
 ·simp only [if_neg a3]
  exact list _ (by rw [decide_eq_false a3, Bool.false_or])
theorem size_spec : ∀ (x : TExpForm), wid x ≤ 1000000000 → Ev (fun k => q1c.f k x) (cnt x) := by
 refine indForm fun x ih hw => ?_
 have hp := wid_parts x
 rw [cnt_mk]
 refine Ev.shift ?_
 simp only [q1c.f]
 refine goList x.vKids (P := fun i suf => ∀ n : Int, 1 ≤ n → n + cnts suf ≤ 1000000000 → Ev (fun k => q1c.l3 k n i x.vKids) (n + cnts suf)) ?_ ?_ 1 (by omega) (by have := cnts_le x.vKids; omega)
 ·intro n h1 h2
  refine Ev.shift ?_
  simp (disch := omega) only [q1c.l3, if_neg, cnts, Int.add_zero]
  exact Ev.now _
 ·intro i y r h0 h1 hx hm _ _ _ ihr n hn hs
  have hy := wids_mem hm
  have hc := cnt_pos y
  have hr := cnts_le r
  simp only [cnts] at hs ⊢
  refine Ev.shift ?_
  simp (disch := omega) only [q1c.l3, if_pos, hx, eTExpForm_eq]
  refine Ev.bind (ih y hm (by omega)) ?_
  simp (disch := omega) only [w64]
  rw [← Int.add_assoc]
  exact ihr _ (by omega) (by omega)
theorem formOk_spec (x : TExpForm) (hw : wid x ≤ 1000000000) : Ev (fun k => q25.f k x) (okb x) := by
 simp only [q25.f, eTExpForm_eq, okb, leB]
 refine Ev.bind (ok_spec x 0 hw (by omega) (by omega)) ?_
 cases okf x 0 with
 | false => simp only [Bool.false_eq_true, if_false, Bool.false_and]; exact Ev.now _
 | true =>
  simp only [if_true, Bool.true_and]
  exact Ev.bind (size_spec x hw) (Ev.now _)
def counted (x : TExpForm) (deep : Int) : Int := if okf x deep && leB (cnt x) 1500 then cnt x else -1
theorem count_impl : ∀ (x : TExpForm) (deep : Int), wid x ≤ 1000000000 → 0 ≤ deep → deep ≤ 1000000000 → Ev (fun k => qe.f k x deep) (counted x deep) := by
 refine indForm fun x ih deep hw h0 hd => ?_
 have hp := wid_parts x
 have hcx := cnt_mk x
 unfold counted
 rw [okf_mk]
 refine Ev.shift ?_
 simp only [qe.f]
 by_cases a0 : 60 < deep
 ·simp (disch := omega) only [if_pos, decide_eq_false, Bool.false_and, Bool.false_eq_true, if_false]; exact Ev.now _
 simp (disch := omega) only [if_neg a0, decide_eq_true (show deep ≤ 60 by omega), Bool.true_and]
 by_cases a1 : x.vSort = 1
 ·simp only [if_pos a1]
  refine Ev.bind (id_impl _ (by omega)) ?_
  cases idB x.vText with
  | false => simp only [Bool.false_eq_true, not_false_eq_true, if_true, if_false, Bool.false_and]; exact Ev.now _
  | true =>
   simp only [not_true_eq_false, if_false, Bool.true_and]
   by_cases a2 : (x.vText.size : Int) ≤ 40
   ·simp (disch := omega) only [if_neg, decide_eq_true a2, Bool.true_and]
    by_cases a3 : 0 ≤ x.vFrom
    ·simp (disch := omega) only [if_neg, decide_eq_true a3, Bool.true_and]
     by_cases a4 : (x.vKids.length : Int) = 0
     ·have hk : cnt x = 1 := by rw [hcx, List.eq_nil_of_length_eq_zero (by omega : x.vKids.length = 0)]; rfl
      simp (disch := omega) only [if_neg, decide_eq_true a4, Bool.and_true, hk, leB_t (show (1 : Int) ≤ 1500 by decide)]
      exact scopes_impl 1 _ (by omega)
     ·simp (disch := omega) only [if_pos, decide_eq_false a4, Bool.and_false, Bool.false_and, Bool.false_eq_true, if_false]; exact Ev.now _
    ·simp (disch := omega) only [if_pos, decide_eq_false a3, Bool.false_and, Bool.false_eq_true, if_false]; exact Ev.now _
   ·simp (disch := omega) only [if_pos, decide_eq_false a2, Bool.false_and, Bool.false_eq_true, if_false]; exact Ev.now _
 simp only [if_neg a1]
 by_cases a2 : x.vSort = 2
 ·simp only [if_pos a2]
  refine Ev.bind (atom_impl _ (by omega)) ?_
  cases atomB x.vText with
  | false => simp only [Bool.false_eq_true, not_false_eq_true, if_true, if_false, Bool.false_and]; exact Ev.now _
  | true =>
   simp only [not_true_eq_false, if_false, Bool.true_and]
   by_cases a2 : (x.vText.size : Int) ≤ 40
   ·simp (disch := omega) only [if_neg, decide_eq_true a2, Bool.true_and]
    by_cases a3 : x.vFrom = 0
    ·simp only [if_neg (decide_not_ne a3), decide_eq_true a3, Bool.true_and]
     by_cases a5 : (x.vScopes.length : Int) = 0
     ·simp (disch := omega) only [if_neg, decide_eq_true a5, Bool.true_and]
      by_cases a4 : (x.vKids.length : Int) = 0
      ·have hk : cnt x = 1 := by rw [hcx, List.eq_nil_of_length_eq_zero (by omega : x.vKids.length = 0)]; rfl
       simp (disch := omega) only [if_neg, decide_eq_true a4, Bool.and_true, hk, leB_t (show (1 : Int) ≤ 1500 by decide), if_true]
       exact Ev.now _
      ·simp (disch := omega) only [if_pos, decide_eq_false a4, Bool.and_false, Bool.false_and, Bool.false_eq_true, if_false]; exact Ev.now _
     ·simp (disch := omega) only [if_pos, decide_eq_false a5, Bool.false_and, Bool.false_eq_true, if_false]; exact Ev.now _
    ·simp only [if_pos a3, decide_eq_false a3, Bool.false_and, Bool.false_eq_true, if_false]; exact Ev.now _
   ·simp (disch := omega) only [if_pos, decide_eq_false a2, Bool.false_and, Bool.false_eq_true, if_false]; exact Ev.now _
 simp only [if_neg a2]
 have kids : (decide (x.vSort = 3) || lastOk x.vKids) = true → Ev (fun k => qe.l27 k deep 1 x.vKids (x.vKids.length : Int) 0) (if okfs x.vKids (deep + 1) && leB (cnt x) 1500 then cnt x else -1) := by
  intro _
  rw [hcx]
  refine goList x.vKids (P := fun i suf => ∀ n : Int, 1 ≤ n → n ≤ 1500 → Ev (fun k => qe.l27 k deep n x.vKids (x.vKids.length : Int) i) (if okfs suf (deep + 1) && leB (n + cnts suf) 1500 then n + cnts suf else -1)) ?_ ?_ 1 (by omega) (by omega)
  ·intro n h1 h2
   refine Ev.shift ?_
   simp (disch := omega) only [qe.l27, if_neg, cnts, Int.add_zero, okfs, Bool.true_and, leB_t h2, if_true]
   exact Ev.now _
  ·intro i y r h0 h1 hx hm _ _ _ ihr n hn hs
   have hy := wids_mem hm
   have hc := cnt_pos y
   have hr := cnts_le r
   refine Ev.shift ?_
   simp (disch := omega) only [qe.l27, if_pos, hx, eTExpForm_eq, w64, okfs, cnts]
   refine Ev.bind (ih y hm (deep + 1) (by omega) (by omega) (by omega)) ?_
   unfold counted
   by_cases b1 : okf y (deep + 1) = true
   ·by_cases b2 : cnt y ≤ 1500
    ·simp (disch := omega) only [b1, leB_t b2, Bool.and_self, if_true, if_neg, w64, Bool.true_and]
     by_cases b3 : 1500 < n + cnt y
     ·have : ¬ n + (cnt y + cnts r) ≤ 1500 := by omega
      simp only [if_pos b3, leB_f this, Bool.and_false, Bool.false_eq_true, if_false]; exact Ev.now _
     ·simp only [if_neg b3]
      rw [← Int.add_assoc]
      exact ihr _ (by omega) (by omega)
    ·have : ¬ n + (cnt y + cnts r) ≤ 1500 := by omega
     simp (disch := decide) only [leB_f b2, leB_f this, Bool.and_false, Bool.false_eq_true, if_false, if_pos]; exact Ev.now _
   ·simp (disch := decide) only [Bool.eq_false_iff.2 b1, Bool.false_and, Bool.false_eq_true, if_false, if_pos]; exact Ev.now _
 have list : ∀ b : Bool, b = (decide (x.vSort = 3) || decide (x.vSort = 4)) → Ev (fun k => qe.j20b k (qe.f k) (qe.l27 k) deep 1 b x.vSort x.vText x.vScopes x.vFrom x.vKids)
   (if (decide (x.vSort = 3) || decide (x.vSort = 4)) && (decide (bytesOf x.vText = []) && (decide (x.vFrom = 0) && (decide ((x.vScopes.length : Int) = 0) && (okfs x.vKids (deep + 1) && (decide (x.vSort = 3) || lastOk x.vKids))))) && leB (cnt x) 1500 then cnt x else -1) := by
  intro b hb
  rw [← hb]
  simp only [qe.j20b, qe.j22b, qe.j26b, lit_eq #[] [] rfl]
  cases b with
  | false => simp only [Bool.false_eq_true, if_false, Bool.false_and]; exact Ev.now _
  | true =>
   simp only [if_true, Bool.true_and]
   by_cases a3 : bytesOf x.vText = []
   ·simp only [if_neg (decide_not_ne a3), decide_eq_true a3, Bool.true_and]
    by_cases a4 : x.vFrom = 0
    ·simp only [if_neg (decide_not_ne a4), decide_eq_true a4, Bool.true_and]
     by_cases a5 : (x.vScopes.length : Int) = 0
     ·simp (disch := omega) only [if_neg, decide_eq_true a5, Bool.true_and]
      by_cases a6 : x.vSort = 4
      ·have a7 : ¬ x.vSort = 3 := by omega
       simp only [if_pos a6, decide_eq_false a7, Bool.false_or]
       by_cases a8 : (x.vKids.length : Int) < 2
       ·have : lastOk x.vKids = false := by unfold lastOk; rw [decide_eq_false (by omega)]; rfl
        simp only [if_pos a8, this, Bool.and_false, Bool.false_and, Bool.false_eq_true, if_false]; exact Ev.now _
       ·have a8' : 2 ≤ (x.vKids.length : Int) := by omega
        simp (disch := omega) only [if_neg a8, if_pos, w64]
        by_cases a9 : (rdAt zTExpForm x.vKids ((x.vKids.length : Int) - 1)).vSort = 1
        ·have : lastOk x.vKids = true := by unfold lastOk; rw [decide_eq_true a8', decide_eq_true a9]; rfl
         simp only [if_neg (decide_not_ne a9), this, Bool.and_true]
         exact kids (by rw [this, Bool.or_true])
        ·simp only [if_pos a9]
         by_cases a10 : (rdAt zTExpForm x.vKids ((x.vKids.length : Int) - 1)).vSort = 2
         ·have : lastOk x.vKids = true := by unfold lastOk; rw [decide_eq_true a8', decide_eq_true a10, Bool.or_true]; rfl
          simp only [if_neg (decide_not_ne a10), this, Bool.and_true]
          exact kids (by rw [this, Bool.or_true])
         ·have : lastOk x.vKids = false := by unfold lastOk; rw [decide_eq_false a9, decide_eq_false a10, Bool.and_comm]; rfl
          simp only [if_pos a10, this, Bool.and_false, Bool.false_and, Bool.false_eq_true, if_false]; exact Ev.now _
      ·have a7 : x.vSort = 3 := by
        simp only [Bool.true_eq, Bool.or_eq_true, decide_eq_true_eq] at hb; omega
       simp only [if_neg a6, decide_eq_true a7, Bool.true_or, Bool.and_true]
       exact kids (by rw [decide_eq_true a7, Bool.true_or])
     ·simp (disch := omega) only [if_pos, decide_eq_false a5, Bool.false_and, Bool.false_eq_true, if_false]; exact Ev.now _
    ·simp only [if_pos a4, decide_eq_false a4, Bool.false_and, Bool.false_eq_true, if_false]; exact Ev.now _
   ·simp only [if_pos a3, decide_eq_false a3, Bool.false_and, Bool.false_eq_true, if_false]; exact Ev.now _
 by_cases a3 : x.vSort = 3
 ·simp only [if_pos a3]
  exact list true (by rw [decide_eq_true a3, Bool.true_or])
 ·simp only [if_neg a3]
  exact list _ (by rw [decide_eq_false a3, Bool.false_or])
theorem formOk_impl (x : TExpForm) (hw : wid x ≤ 1000000000) : Ev (fun k => q15.f k x) (okb x) := by
 simp only [q15.f, eTExpForm_eq]
 refine Ev.bind (count_impl x 0 hw (by omega) (by omega)) ?_
 have := cnt_pos x
 unfold counted okb
 by_cases h : (okf x 0 && leB (cnt x) 1500) = true
 ·rw [if_pos h, h, decide_eq_true (by omega)]; exact Ev.now _
 ·rw [if_neg h, Bool.eq_false_iff.2 h]; exact Ev.now _
end Go.Proofs.YtmcbhnbemhfifaaGreatDoor.RX
end
section
namespace Go.Proofs.YtmcbhnbemhfifaaGreatDoor.RX
open Go K
set_option autoImplicit false
set_option linter.unusedVariables false
set_option linter.unusedSimpArgs false
def isDots (x : TExpForm) : Bool := decide (x.vSort = 1) && decide (bytesOf x.vText = [46, 46, 46])
def isBlank (x : TExpForm) : Bool := decide (x.vSort = 1) && decide (bytesOf x.vText = [95])
def sameB (a b : TExpForm) : Bool := decide (a.vText.toList = b.vText.toList) && decide (a.vScopes = b.vScopes)
def inB (l : List TExpForm) (p : TExpForm) : Bool := l.any fun x => sameB x p
def litOk (x : TExpForm) : Bool := decide (x.vSort = 1) && (okb x && (!isDots x && !isBlank x))
def Sml (l : List TExpForm) : Prop := (l.length : Int) ≤ 1000000000 ∧ ∀ x ∈ l, wid x ≤ 1000000000
theorem Sml.of {l : List TExpForm} (h : wids l ≤ 1000000000) : Sml l := ⟨by have := wids_len l; omega, fun x hx => by have := wids_mem hx; omega⟩
theorem dots_spec (x : TExpForm) : Ev (fun k => qw.f k x) (isDots x) := by
 simp only [qw.f, lit_eq #[46, 46, 46] [46, 46, 46] rfl, isDots]
 by_cases h : x.vSort = 1
 ·simp only [h, if_true, decide_true, Bool.true_and]; exact Ev.now _
 ·simp only [h, if_false, decide_false, Bool.false_and]; exact Ev.now _
theorem blank_spec (x : TExpForm) : Ev (fun k => q1y.f k x) (isBlank x) := by
 simp only [q1y.f, lit_eq #[95] [95] rfl, isBlank]
 by_cases h : x.vSort = 1
 ·simp only [h, if_true, decide_true, Bool.true_and]; exact Ev.now _
 ·simp only [h, if_false, decide_false, Bool.false_and]; exact Ev.now _
theorem is_dots (x : TExpForm) : Ev (fun k => q13.f k x (ByteArray.mk #[46, 46, 46])) (isDots x) := by
 simp only [q13.f, lit_eq #[46, 46, 46] [46, 46, 46] rfl, isDots]
 by_cases h : x.vSort = 1
 ·simp only [h, if_true, decide_true, Bool.true_and]; exact Ev.now _
 ·simp only [h, if_false, decide_false, Bool.false_and]; exact Ev.now _
theorem intsLoop (a b : List Int) (hl : (a.length : Int) = (b.length : Int)) (hs : (a.length : Int) ≤ 1000000000) (G : Nat → Int → Option Bool)
  (h0 : Ev (fun k => G k (a.length : Int)) true)
  (h1 : ∀ i : Int, 0 ≤ i → i < (a.length : Int) → ∀ r, (rdAt 0 a i = rdAt 0 b i → Ev (fun k => G k (i + 1)) r) → (¬ rdAt 0 a i = rdAt 0 b i → r = false) → Ev (fun k => G k i) r) : Ev (fun k => G k 0) (decide (a = b)) := by
 have key := goList a (P := fun i suf => Ev (fun k => G k i) (decide (suf = b.drop i.toNat))) ?_ ?_
 ·simpa using key
 ·have : b.drop ((a.length : Int)).toNat = [] := List.drop_eq_nil_of_le (by omega)
  rw [this]; simpa using h0
 ·intro i x r i0 i1 hx hm hlen hdr _ ih
  have hlt : i.toNat < b.length := by omega
  have hd : b.drop i.toNat = b[i.toNat] :: b.drop (i.toNat + 1) := List.drop_eq_getElem_cons hlt
  have hb : rdAt 0 b i = b[i.toNat] := by
   obtain ⟨n, rfl⟩ := Int.eq_ofNat_of_zero_le i0
   exact rdAt_at 0 b n (by omega)
  have e : (i + 1).toNat = i.toNat + 1 := by omega
  rw [e] at ih
  refine h1 i i0 i1 _ (fun he => ?_) (fun he => ?_)
  ·refine Ev.eq ih ?_
   rw [hx, hb] at he
   rw [hd, ← he]
   simp
  ·rw [hx, hb] at he
   refine decide_eq_false fun e => ?_
   rw [hd] at e
   exact he (List.cons.inj e).1
theorem ints_impl (a b : List Int) (hs : (a.length : Int) ≤ 1000000000) : Ev (fun k => q1p.f k a b) (decide (a = b)) := by
 by_cases hl : (a.length : Int) = (b.length : Int)
 ·simp only [q1p.f, if_neg (decide_not_ne hl)]
  refine intsLoop a b hl hs (fun k i => q1p.l4 k a b (a.length : Int) i) ?_ ?_
  ·refine Ev.shift ?_
   simp (disch := omega) only [q1p.l4, if_neg]; exact Ev.now _
  ·intro i i0 i1 r h1 h2
   refine Ev.shift ?_
   simp (disch := omega) only [q1p.l4, if_pos, w64]
   by_cases h : rdAt 0 a i = rdAt 0 b i
   ·simp only [if_neg (decide_not_ne h)]; exact h1 h
   ·simp only [if_pos h, h2 h]; exact Ev.now _
 ·simp only [q1p.f, if_pos hl]
  rw [decide_eq_false (fun e => hl (by rw [e]))]; exact Ev.now _
theorem ints_spec (a b : List Int) (hs : (a.length : Int) ≤ 1000000000) : Ev (fun k => q1u.f k a b) (decide (a = b)) := by
 by_cases hl : (a.length : Int) = (b.length : Int)
 ·simp only [q1u.f, if_neg (decide_not_ne hl)]
  refine intsLoop a b hl hs (fun k i => q1u.l4 k a b i) ?_ ?_
  ·refine Ev.shift ?_
   simp (disch := omega) only [q1u.l4, if_neg]; exact Ev.now _
  ·intro i i0 i1 r h1 h2
   refine Ev.shift ?_
   simp (disch := omega) only [q1u.l4, if_pos, w64]
   by_cases h : rdAt 0 a i = rdAt 0 b i
   ·simp only [if_neg (decide_not_ne h)]; exact h1 h
   ·simp only [if_pos h, h2 h]; exact Ev.now _
 ·simp only [q1u.f, if_pos hl]
  rw [decide_eq_false (fun e => hl (by rw [e]))]; exact Ev.now _
theorem same_impl (a b : TExpForm) (ha : wid a ≤ 1000000000) : Ev (fun k => q29.f k a b) (sameB a b) := by
 have hp := wid_parts a
 simp only [q29.f, sameB]
 by_cases h : a.vText.toList = b.vText.toList
 ·simp only [if_pos h, decide_eq_true h, Bool.true_and]; exact Ev.bind (ints_impl _ _ (by omega)) (Ev.now _)
 ·simp only [if_neg h, decide_eq_false h, Bool.false_and]; exact Ev.now _
theorem same_spec (a b : TExpForm) (ha : wid a ≤ 1000000000) (h1 : a.vSort = 1) (h2 : b.vSort = 1) : Ev (fun k => q2g.f k a b) (sameB a b) := by
 have hp := wid_parts a
 simp only [q2g.f, sameB, if_pos h1, if_pos h2]
 by_cases h : a.vText.toList = b.vText.toList
 ·simp only [if_pos h, decide_eq_true h, Bool.true_and]; exact Ev.bind (ints_spec _ _ (by omega)) (Ev.now _)
 ·simp only [if_neg h, decide_eq_false h, Bool.false_and]; exact Ev.now _
theorem in_impl (l : List TExpForm) (p : TExpForm) (hs : Sml l) : Ev (fun k => q17.f k l p) (inB l p) := by
 obtain ⟨hl, hs⟩ := hs
 simp only [q17.f, inB]
 refine goList l (P := fun i suf => Ev (fun k => q17.l2 k l (l.length : Int) i p.vSort p.vText p.vScopes p.vFrom p.vKids) (suf.any fun x => sameB x p)) ?_ ?_
 ·refine Ev.shift ?_
  simp (disch := omega) only [q17.l2, if_neg, List.any_nil]; exact Ev.now _
 ·intro i x r i0 i1 hx hm _ _ _ ih
  refine Ev.shift ?_
  simp (disch := omega) only [q17.l2, if_pos, w64, hx, eTExpForm_eq, mTExpForm, List.any_cons]
  refine Ev.bind (same_impl x p (hs x hm)) ?_
  cases sameB x p with
  | true => simp only [if_true, Bool.true_or]; exact Ev.now _
  | false => simp only [Bool.false_eq_true, if_false, Bool.false_or]; exact ih
theorem among_spec (l : List TExpForm) (p : TExpForm) (hs : Sml l) (h1 : ∀ x ∈ l, x.vSort = 1) (h2 : p.vSort = 1) : Ev (fun k => q10.f k l p) (inB l p) := by
 obtain ⟨hl, hs⟩ := hs
 simp only [q10.f, inB]
 refine goList l (P := fun i suf => Ev (fun k => q10.l2 k l i p.vSort p.vText p.vScopes p.vFrom p.vKids) (suf.any fun x => sameB x p)) ?_ ?_
 ·refine Ev.shift ?_
  simp (disch := omega) only [q10.l2, if_neg, List.any_nil]; exact Ev.now _
 ·intro i x r i0 i1 hx hm _ _ _ ih
  refine Ev.shift ?_
  simp (disch := omega) only [q10.l2, if_pos, w64, hx, eTExpForm_eq, mTExpForm, List.any_cons]
  refine Ev.bind (same_spec x p (hs x hm) (h1 x hm) h2) ?_
  cases sameB x p with
  | true => simp only [if_true, Bool.true_or]; exact Ev.now _
  | false => simp only [Bool.false_eq_true, if_false, Bool.false_or]; exact ih
theorem lits_impl (l : List TExpForm) (hs : Sml l) : Ev (fun k => q21.f k l) (l.all litOk) := by
 obtain ⟨hl, hs⟩ := hs
 simp only [q21.f]
 refine goList l (P := fun i suf => Ev (fun k => q21.l2 k l (l.length : Int) i) (suf.all litOk)) ?_ ?_
 ·refine Ev.shift ?_
  simp (disch := omega) only [q21.l2, if_neg, List.all_nil]; exact Ev.now _
 ·intro i x r i0 i1 hx hm _ _ _ ih
  refine Ev.shift ?_
  simp (disch := omega) only [q21.l2, if_pos, w64, hx, eTExpForm_eq, List.all_cons, litOk, isDots, isBlank, lit_eq #[46, 46, 46] [46, 46, 46] rfl, lit_eq #[95] [95] rfl]
  by_cases h : x.vSort = 1
  ·simp only [if_neg (decide_not_ne h), decide_eq_true h, Bool.true_and]
   refine Ev.bind (formOk_impl x (hs x hm)) ?_
   cases okb x with
   | false => simp only [Bool.false_eq_true, not_false_eq_true, if_true, Bool.false_and]; exact Ev.now _
   | true =>
    simp only [not_true_eq_false, if_false, Bool.true_and]
    by_cases h3 : bytesOf x.vText = [46, 46, 46]
    ·simp only [if_pos h3, decide_eq_true h3, Bool.not_true, Bool.false_and]; exact Ev.now _
    simp only [if_neg h3, decide_eq_false h3, Bool.not_false, Bool.true_and]
    by_cases h4 : bytesOf x.vText = [95]
    ·simp only [if_pos h4, decide_eq_true h4, Bool.not_true, Bool.false_and]; exact Ev.now _
    simp only [if_neg h4, decide_eq_false h4, Bool.not_false, Bool.true_and]; exact ih
  ·simp only [if_pos h, decide_eq_false h, Bool.false_and]; exact Ev.now _
theorem lits_spec (l : List TExpForm) (hs : Sml l) : Ev (fun k => q1x.f k l) (l.all litOk) := by
 obtain ⟨hl, hs⟩ := hs
 simp only [q1x.f]
 refine goList l (P := fun i suf => Ev (fun k => q1x.l2 k l i) (suf.all litOk)) ?_ ?_
 ·refine Ev.shift ?_
  simp (disch := omega) only [q1x.l2, if_neg, List.all_nil]; exact Ev.now _
 ·intro i x r i0 i1 hx hm _ _ _ ih
  refine Ev.shift ?_
  simp (disch := omega) only [q1x.l2, if_pos, w64, hx, eTExpForm_eq, List.all_cons, litOk]
  refine Ev.bind (formOk_spec x (hs x hm)) ?_
  cases okb x with
  | false => simp only [Bool.false_eq_true, not_false_eq_true, if_true, Bool.false_and, Bool.and_false]; exact Ev.now _
  | true =>
   simp only [not_true_eq_false, if_false, Bool.true_and]
   by_cases h : x.vSort = 1
   ·simp only [if_neg (decide_not_ne h), decide_eq_true h, Bool.true_and]
    refine Ev.bind (dots_spec x) ?_
    cases isDots x with
    | true => simp only [if_true, Bool.not_true, Bool.false_and]; exact Ev.now _
    | false =>
     simp only [Bool.false_eq_true, if_false, Bool.not_false, Bool.true_and]
     refine Ev.bind (blank_spec x) ?_
     cases isBlank x with
     | true => simp only [if_true, Bool.not_true, Bool.false_and]; exact Ev.now _
     | false => simp only [Bool.false_eq_true, if_false, Bool.not_false, Bool.true_and]; exact ih
   ·simp only [if_pos h, decide_eq_false h, Bool.false_and]; exact Ev.now _
mutual
def nms (lits : List TExpForm) : TExpForm → List TExpForm
 | ⟨a, t, sc, d, ks⟩ => if a = 1 then (if isDots ⟨a, t, sc, d, ks⟩ || isBlank ⟨a, t, sc, d, ks⟩ || inB lits ⟨a, t, sc, d, ks⟩ then [] else [⟨a, t, sc, d, ks⟩]) else nmss lits ks
def nmss (lits : List TExpForm) : List TExpForm → List TExpForm
 | [] => []
 | x :: l => nms lits x ++ nmss lits l
end
theorem nms_mk (lits : List TExpForm) (x : TExpForm) : nms lits x = if x.vSort = 1 then (if isDots x || isBlank x || inB lits x then [] else [x]) else nmss lits x.vKids := by cases x; simp only [nms]
theorem nms_facts (lits : List TExpForm) : ∀ x, ((nms lits x).length : Int) ≤ wid x ∧ ∀ y ∈ nms lits x, y.vSort = 1 ∧ wid y ≤ wid x := by
 refine indForm fun x ih => ?_
 have hp := wid_parts x
 have key : ∀ l : List TExpForm, (∀ y ∈ l, ((nms lits y).length : Int) ≤ wid y ∧ ∀ z ∈ nms lits y, z.vSort = 1 ∧ wid z ≤ wid y) → ((nmss lits l).length : Int) ≤ wids l ∧ ∀ z ∈ nmss lits l, z.vSort = 1 ∧ wid z ≤ wids l := by
  intro l
  induction l with
  | nil => intro _; exact ⟨by simp [nmss, wids], fun z hz => by cases hz⟩
  | cons y l ihl =>
   intro h
   obtain ⟨a1, a2⟩ := h y (by simp)
   obtain ⟨b1, b2⟩ := ihl fun z hz => h z (List.mem_cons_of_mem _ hz)
   have := wid_pos y
   have := (wids_len l).1
   simp only [nmss, wids, List.length_append]
   refine ⟨by omega, fun z hz => ?_⟩
   rcases List.mem_append.1 hz with hz | hz
   ·exact ⟨(a2 z hz).1, by have := (a2 z hz).2; omega⟩
   ·exact ⟨(b2 z hz).1, by have := (b2 z hz).2; omega⟩
 obtain ⟨b1, b2⟩ := key x.vKids ih
 rw [nms_mk]
 by_cases h : x.vSort = 1
 ·rw [if_pos h]
  split
  ·exact ⟨by simp; omega, fun y hy => by cases hy⟩
  ·refine ⟨by simp; omega, fun y hy => ?_⟩
   rw [List.mem_singleton.1 hy]; exact ⟨h, Int.le_refl _⟩
 ·rw [if_neg h]
  exact ⟨by omega, fun y hy => ⟨(b2 y hy).1, by have := (b2 y hy).2; omega⟩⟩
theorem nmss_facts (lits : List TExpForm) (l : List TExpForm) : ((nmss lits l).length : Int) ≤ wids l ∧ ∀ y ∈ nmss lits l, y.vSort = 1 ∧ wid y ≤ wids l := by
 induction l with
 | nil => exact ⟨by simp [nmss, wids], fun z hz => by cases hz⟩
 | cons y l ih =>
  obtain ⟨a1, a2⟩ := nms_facts lits y
  obtain ⟨b1, b2⟩ := ih
  have := wid_pos y
  have := (wids_len l).1
  simp only [nmss, wids, List.length_append]
  refine ⟨by omega, fun z hz => ?_⟩
  rcases List.mem_append.1 hz with hz | hz
  ·exact ⟨(a2 z hz).1, by have := (a2 z hz).2; omega⟩
  ·exact ⟨(b2 z hz).1, by have := (b2 z hz).2; omega⟩
def noDup : List TExpForm → List TExpForm → Bool
 | _, [] => true
 | seen, x :: l => !inB seen x && noDup (seen ++ [x]) l
theorem noDup_append (a b : List TExpForm) : ∀ s, noDup s (a ++ b) = (noDup s a && noDup (s ++ a) b) := by
 induction a with
 | nil => intro s; simp [noDup]
 | cons x a ih =>
  intro s
  simp only [List.cons_append, noDup, ih, List.append_assoc, Bool.and_assoc, List.nil_append]
def dotsN : List TExpForm → Int
 | [] => 0
 | x :: l => (if isDots x then 1 else 0) + dotsN l
theorem dotsN_pos (l : List TExpForm) : 0 ≤ dotsN l ∧ dotsN l ≤ (l.length : Int) := by
 induction l with
 | nil => simp [dotsN]
 | cons x l ih => simp only [dotsN, List.length_cons]; split <;> omega
def headDots : List TExpForm → Bool
 | [] => false
 | x :: _ => isDots x
def partsOf (x : TExpForm) : List TExpForm := if x.vSort = 4 then x.vKids.take (x.vKids.length - 1) else x.vKids
def lastOf (x : TExpForm) : TExpForm := rdAt zTExpForm x.vKids ((x.vKids.length : Int) - 1)
def gt1 (n : Int) : Bool := decide (1 < n)
mutual
def stOk : TExpForm → Bool
 | ⟨a, t, sc, d, ks⟩ => if a = 1 ∨ a = 2 then true else (!headDots (partsOf ⟨a, t, sc, d, ks⟩) && !gt1 (dotsN (partsOf ⟨a, t, sc, d, ks⟩))) && ((!decide (a = 4) || !isDots (lastOf ⟨a, t, sc, d, ks⟩)) && stOks ks)
def stOks : List TExpForm → Bool
 | [] => true
 | x :: l => stOk x && stOks l
end
theorem stOk_mk (x : TExpForm) : stOk x = if x.vSort = 1 ∨ x.vSort = 2 then true else (!headDots (partsOf x) && !gt1 (dotsN (partsOf x))) && ((!decide (x.vSort = 4) || !isDots (lastOf x)) && stOks x.vKids) := by cases x; simp only [stOk]
theorem stOks_append (a b : List TExpForm) : stOks (a ++ b) = (stOks a && stOks b) := by
 induction a with
 | nil => simp [stOks]
 | cons x a ih => simp only [List.cons_append, stOks, ih, Bool.and_assoc]
theorem nmss_append (lits a b : List TExpForm) : nmss lits (a ++ b) = nmss lits a ++ nmss lits b := by
 induction a with
 | nil => simp [nmss]
 | cons x a ih => simp only [List.cons_append, nmss, ih, List.append_assoc]
theorem take_last {l : List TExpForm} (h : 1 ≤ (l.length : Int)) : l.take (l.length - 1) ++ [rdAt zTExpForm l ((l.length : Int) - 1)] = l := by
 have e : rdAt zTExpForm l ((l.length : Int) - 1) = l[l.length - 1]'(by omega) := by
  rw [show (l.length : Int) - 1 = ((l.length - 1 : Nat) : Int) by omega]
  exact rdAt_at _ _ _ (by omega)
 rw [e, List.take_append_getElem (by omega)]
 exact List.take_of_length_le (by omega)
theorem okf_shape {x : TExpForm} {d : Int} (h : okf x d = true) : (x.vSort = 1 ∧ x.vKids = []) ∨ (x.vSort = 2 ∧ x.vKids = []) ∨ ((x.vSort = 3 ∨ (x.vSort = 4 ∧ 2 ≤ (x.vKids.length : Int))) ∧ okfs x.vKids (d + 1) = true) := by
 rw [okf_mk] at h
 simp only [Bool.and_eq_true] at h
 obtain ⟨_, h⟩ := h
 by_cases h1 : x.vSort = 1
 ·rw [if_pos h1] at h
  simp only [Bool.and_eq_true, decide_eq_true_eq] at h
  exact .inl ⟨h1, List.eq_nil_of_length_eq_zero (by omega)⟩
 rw [if_neg h1] at h
 by_cases h2 : x.vSort = 2
 ·rw [if_pos h2] at h
  simp only [Bool.and_eq_true, decide_eq_true_eq] at h
  exact .inr (.inl ⟨h2, List.eq_nil_of_length_eq_zero (by omega)⟩)
 rw [if_neg h2] at h
 simp only [Bool.and_eq_true, Bool.or_eq_true, decide_eq_true_eq] at h
 obtain ⟨h3, _, _, _, h4, h5⟩ := h
 refine .inr (.inr ⟨?_, h4⟩)
 rcases h3 with h3 | h3
 ·exact .inl h3
 ·refine .inr ⟨h3, ?_⟩
  rcases h5 with h5 | h5
  ·omega
  ·unfold lastOk at h5
   simp only [Bool.and_eq_true, decide_eq_true_eq] at h5
   exact h5.1
theorem okfs_mem' {l : List TExpForm} {d : Int} (h : okfs l d = true) : ∀ x ∈ l, okf x d = true := by
 induction l with
 | nil => intro x hx; cases hx
 | cons y l ih =>
  simp only [okfs, Bool.and_eq_true] at h
  intro x hx
  rcases List.mem_cons.1 hx with rfl | hx
  ·exact h.1
  ·exact ih h.2 x hx
theorem Sml.snoc {l m : List TExpForm} (h : Sml l) (hm : ∀ x ∈ m, wid x ≤ 1000000000) (hl : (l.length : Int) + (m.length : Int) ≤ 1000000000) : Sml (l ++ m) :=
 ⟨by rw [List.length_append]; omega, fun x hx => (List.mem_append.1 hx).elim (h.2 x) (hm x)⟩
theorem parts_impl (x : TExpForm) (hw : wid x ≤ 1000000000) (h : x.vSort = 3 ∨ (x.vSort = 4 ∧ 2 ≤ (x.vKids.length : Int))) : Ev (fun k => q1a.f k x) (partsOf x, if x.vSort = 4 then some (lastOf x) else none) := by
 have hp := wid_parts x
 simp only [q1a.f]
 rcases h with h | ⟨h, h2⟩
 ·have n4 : ¬ x.vSort = 4 := by omega
  simp only [if_pos h, partsOf, if_neg n4]; exact Ev.now _
 ·have n3 : ¬ x.vSort = 3 := by omega
  simp (disch := omega) only [if_neg n3, if_pos h, if_pos, w64, List.drop_zero, eTExpForm_eq, partsOf, lastOf]
  refine Ev.eq (Ev.now _) ?_
  rw [show ((x.vKids.length : Int) - 1).toNat = x.vKids.length - 1 by omega]
  rfl
def lookEnd (lits : List TExpForm) (e : Option TExpForm) (b : Bool) (ns : List TExpForm) : List TExpForm × Bool × List TExpForm :=
 match e with
 | none => (lits, b, ns)
 | some e => (lits, b || (isDots e || (!stOk e || !noDup ns (nms lits e))), ns ++ nms lits e)
theorem set_end (a : List TExpForm) (z y : TExpForm) : (a ++ [z]).set ((a.length : Int).toNat) y = a ++ [y] := by
 simp
theorem look_impl (lits : List TExpForm) (hlit : Sml lits) : ∀ (p : TExpForm) (d : Int), okf p d = true → ∀ (bad : Bool) (ns : List TExpForm), Sml ns → wid p ≤ 100000000 → (ns.length : Int) + wid p ≤ 1000000000 →
  Ev (fun k => qf.f k p lits bad ns) (lits, bad || (!stOk p || !noDup ns (nms lits p)), ns ++ nms lits p) := by
 refine indForm fun p ih d hok bad ns hns hwp hsum => ?_
 have hp := wid_parts p
 have hpos := wid_pos p
 refine Ev.shift ?_
 simp only [qf.f, lit_eq #[46, 46, 46] [46, 46, 46] rfl, lit_eq #[95] [95] rfl, eTExpForm_eq]
 rcases okf_shape hok with ⟨h1, hk⟩ | ⟨h2, hk⟩ | ⟨h34, hks⟩
 ·rw [stOk_mk, if_pos (Or.inl h1), nms_mk, if_pos h1]
  simp only [if_pos h1, Bool.not_true, Bool.false_or]
  by_cases a1 : bytesOf p.vText = [46, 46, 46]
  ·have : isDots p = true := by unfold isDots; rw [decide_eq_true h1, decide_eq_true a1]; rfl
   simp only [if_pos a1, this, Bool.true_or, if_true, noDup, Bool.not_true, Bool.or_false, List.append_nil]; exact Ev.now _
  have d1 : isDots p = false := by unfold isDots; rw [decide_eq_false a1, Bool.and_false]
  by_cases a2 : bytesOf p.vText = [95]
  ·have : isBlank p = true := by unfold isBlank; rw [decide_eq_true h1, decide_eq_true a2]; rfl
   simp only [if_neg a1, if_pos a2, this, Bool.true_or, Bool.or_true, if_true, noDup, Bool.not_true, Bool.or_false, List.append_nil]; exact Ev.now _
  have d2 : isBlank p = false := by unfold isBlank; rw [decide_eq_false a2, Bool.and_false]
  simp only [if_neg a1, if_neg a2, d1, d2, Bool.false_or]
  refine Ev.bind (in_impl lits p hlit) ?_
  cases inB lits p with
  | true => simp only [if_true, noDup, Bool.not_true, Bool.or_false, List.append_nil]; exact Ev.now _
  | false =>
   have fin : ∀ b : Bool, Ev (fun k => qf.d5 k lits b p.vSort p.vText p.vScopes p.vFrom p.vKids ns) (lits, b, ns ++ [p]) := by
    intro b
    simp (disch := first | omega | (simp; omega)) only [qf.d5, if_pos, set_end, mTExpForm]
    exact Ev.now _
   simp only [Bool.false_eq_true, if_false, qf.j4, mTExpForm, noDup, Bool.and_true, Bool.not_not]
   cases bad with
   | true => simp only [if_true, Bool.true_or]; exact fin true
   | false =>
    simp only [Bool.false_eq_true, if_false, Bool.false_or]
    exact Ev.bind (in_impl ns p hns) (fin _)
 ·rw [stOk_mk, if_pos (Or.inr h2), nms_mk, if_neg (by omega), hk]
  have n1 : ¬ p.vSort = 1 := by omega
  have n3 : ¬ p.vSort = 3 := by omega
  have n4 : ¬ p.vSort = 4 := by omega
  simp only [if_neg n1, if_neg n3, decide_eq_false n4, qf.j8b, Bool.false_eq_true, if_false, nmss, noDup, Bool.not_true, Bool.or_false, List.append_nil]
  exact Ev.now _
 ·have n1 : ¬ p.vSort = 1 := by rcases h34 with h | h <;> omega
  have n2 : ¬ p.vSort = 2 := by rcases h34 with h | h <;> omega
  have hkids := okfs_mem' hks
  have hparts : ∀ y ∈ partsOf p, y ∈ p.vKids := by
   intro y hy
   unfold partsOf at hy
   split at hy
   ·exact List.mem_of_mem_take hy
   ·exact hy
  have hwparts : wids (partsOf p) ≤ wids p.vKids := by
   unfold partsOf
   split
   ·exact wids_take_le _ _
   ·exact Int.le_refl _
  have hlp := (wids_len (partsOf p)).2
  have endd : ∀ (b : Bool) (ns' : List TExpForm), Sml ns' → (ns'.length : Int) + (wid p - wids (partsOf p)) ≤ 1000000000 → Ev (fun k => qf.j19b k (qf.f k) (qf.l11 k) (if p.vSort = 4 then some (lastOf p) else none) lits b ns') (lookEnd lits (if p.vSort = 4 then some (lastOf p) else none) b ns') := by
   intro b ns' hns' hsum'
   by_cases h4 : p.vSort = 4
   ·have h2k : 2 ≤ (p.vKids.length : Int) := by rcases h34 with h | h <;> omega
    have hmem : lastOf p ∈ p.vKids := rdAt_mem _ _ _ (by omega) (by omega)
    have hwl := wids_mem hmem
    have hwe : wids p.vKids = wids (partsOf p) + wid (lastOf p) := by
     have e : p.vKids = partsOf p ++ [lastOf p] := by
      unfold partsOf lastOf
      rw [if_pos h4]
      exact (take_last (by omega)).symm
     have := wids_append (partsOf p) [lastOf p]
     rw [← e] at this
     rwa [wids_one] at this
    have hl := fun b => ih (lastOf p) hmem (d + 1) (hkids _ hmem) b ns' hns' (by omega) (by omega)
    simp only [if_pos h4, qf.j19b, Option.isSome_some, if_true, Option.bind_some, eTExpForm_eq, lookEnd]
    cases b with
    | true => simp only [if_true]; exact Ev.bind (hl true) (by simp only [Bool.true_or]; exact Ev.now _)
    | false =>
     simp only [Bool.false_eq_true, if_false, Bool.false_or]
     exact Ev.bind (is_dots _) (Ev.bind (hl _) (Ev.now _))
   ·simp only [if_neg h4, qf.j19b, Option.isSome_none, Bool.false_eq_true, if_false, lookEnd]; exact Ev.now _
  have loop : ∀ (b0 : Bool), Ev (fun k => qf.l11 k (if p.vSort = 4 then some (lastOf p) else none) 0 (partsOf p) ((partsOf p).length : Int) 0 lits b0 ns)
    (lookEnd lits (if p.vSort = 4 then some (lastOf p) else none) (b0 || (headDots (partsOf p) || (!stOks (partsOf p) || (!noDup ns (nmss lits (partsOf p)) || gt1 (dotsN (partsOf p)))))) (ns ++ nmss lits (partsOf p))) := by
   intro b0
   have key := goList (partsOf p) (P := fun i suf => ∀ (n : Int) (b : Bool) (ns' : List TExpForm), 0 ≤ n → n ≤ i → Sml ns' → (ns'.length : Int) + wids suf + (wid p - wids (partsOf p)) ≤ 1000000000 →
    Ev (fun k => qf.l11 k (if p.vSort = 4 then some (lastOf p) else none) n (partsOf p) ((partsOf p).length : Int) i lits b ns')
    (lookEnd lits (if p.vSort = 4 then some (lastOf p) else none) (b || ((decide (i = 0) && headDots suf) || (!stOks suf || (!noDup ns' (nmss lits suf) || gt1 (n + dotsN suf))))) (ns' ++ nmss lits suf))) ?_ ?_ 0 b0 ns (by omega) (by omega) hns (by omega)
   ·simpa using key
   ·intro n b ns' h0 h1 hs hsm
    refine Ev.shift ?_
    simp only [wids] at hsm
    simp (disch := omega) only [qf.l11, if_neg, headDots, Bool.and_false, stOks, Bool.not_true, nmss, noDup, dotsN, Int.add_zero, Bool.false_or, List.append_nil]
    have e := endd (b || gt1 n) ns' hs (by omega)
    cases b with
    | true => simp only [if_true, Bool.true_or] at e ⊢; exact e
    | false => simp only [Bool.false_eq_true, if_false, Bool.false_or] at e ⊢; exact e
   ·intro i y r i0 i1 hx hm hlen _ _ ihr n b ns' h0 h1 hs hsm
    have hym := hparts y hm
    have hwy := wids_mem hym
    have hwr := (wids_len r).1
    have hwy1 := wid_pos y
    simp only [wids] at hsm
    obtain ⟨f1, f2⟩ := nms_facts lits y
    have hl := fun b => ih y hym (d + 1) (hkids y hym) b ns' hs (by omega) (by omega)
    have hs' : Sml (ns' ++ nms lits y) := hs.snoc (fun z hz => by have := (f2 z hz).2; omega) (by omega)
    have hln : ((ns' ++ nms lits y).length : Int) + wids r + (wid p - wids (partsOf p)) ≤ 1000000000 := by rw [List.length_append]; omega
    have ne : ¬ (i + 1 = 0) := by omega
    refine Ev.shift ?_
    simp (disch := omega) only [qf.l11, if_pos, hx, eTExpForm_eq, w64]
    refine Ev.bind (is_dots y) ?_
    have nx := fun n b h0 h1 => ihr n b (ns' ++ nms lits y) h0 h1 hs' hln
    simp only [decide_eq_false ne, Bool.false_and, Bool.false_or, List.append_assoc] at nx
    have cons : nms lits y ++ nmss lits r = nmss lits (y :: r) := rfl
    simp only [cons] at nx
    cases hdy : isDots y with
    | true =>
     have dn : dotsN (y :: r) = 1 + dotsN r := by simp only [dotsN, hdy, if_true]
     simp only [if_true, headDots, hdy, Bool.and_true]
     have e1 : gt1 (n + 1 + dotsN r) = gt1 (n + dotsN (y :: r)) := by rw [dn, Int.add_assoc]
     cases b with
     | true =>
      simp only [if_true]
      refine Ev.bind (hl true) ?_
      refine Ev.eq (nx (n + 1) _ (by omega) (by omega)) ?_
      simp only [Bool.true_or]
     | false =>
      simp only [Bool.false_eq_true, if_false, Bool.false_or]
      refine Ev.bind (hl _) ?_
      refine Ev.eq (nx (n + 1) _ (by omega) (by omega)) ?_
      rw [e1]
      congr 1
      simp only [stOks, nmss, noDup_append, Bool.not_and]
      cases decide (i = 0) <;> cases stOk y <;> cases noDup ns' (nms lits y) <;> simp
    | false =>
     have dn : dotsN (y :: r) = dotsN r := by simp [dotsN, hdy]
     simp only [Bool.false_eq_true, if_false, headDots, hdy, Bool.and_false, Bool.false_or]
     refine Ev.bind (hl b) ?_
     refine Ev.eq (nx n _ (by omega) (by omega)) ?_
     rw [dn]
     congr 1
     simp only [stOks, nmss, noDup_append, Bool.not_and]
     cases b <;> cases stOk y <;> cases noDup ns' (nms lits y) <;> simp
  have whole : lookEnd lits (if p.vSort = 4 then some (lastOf p) else none) (bad || (headDots (partsOf p) || (!stOks (partsOf p) || (!noDup ns (nmss lits (partsOf p)) || gt1 (dotsN (partsOf p)))))) (ns ++ nmss lits (partsOf p)) = (lits, bad || (!stOk p || !noDup ns (nms lits p)), ns ++ nms lits p) := by
   have n12 : ¬ (p.vSort = 1 ∨ p.vSort = 2) := fun h => h.elim n1 n2
   rw [stOk_mk, if_neg n12, nms_mk, if_neg n1]
   by_cases h4 : p.vSort = 4
   ·have h2k : 2 ≤ (p.vKids.length : Int) := by rcases h34 with h | h <;> omega
    have hk : p.vKids = partsOf p ++ [lastOf p] := by
     unfold partsOf lastOf
     rw [if_pos h4]
     exact (take_last (by omega)).symm
    have e1 : nmss lits p.vKids = nmss lits (partsOf p) ++ nms lits (lastOf p) := by
     conv => lhs; rw [hk]
     rw [nmss_append]; simp [nmss]
    have e2 : stOks p.vKids = (stOks (partsOf p) && stOk (lastOf p)) := by
     conv => lhs; rw [hk]
     rw [stOks_append]; simp [stOks]
    simp only [if_pos h4, lookEnd, decide_eq_true h4, e1, e2, noDup_append, Bool.not_true, Bool.false_or, List.append_assoc]
    congr 2
    cases bad <;> cases headDots (partsOf p) <;> cases gt1 (dotsN (partsOf p)) <;> cases isDots (lastOf p) <;> cases stOks (partsOf p) <;> cases stOk (lastOf p) <;> cases noDup ns (nmss lits (partsOf p)) <;> simp
   ·have hk : partsOf p = p.vKids := by unfold partsOf; rw [if_neg h4]
    simp only [if_neg h4, lookEnd, decide_eq_false h4, hk, Bool.not_false, Bool.true_or, Bool.true_and]
    congr 2
    cases bad <;> cases headDots p.vKids <;> cases gt1 (dotsN p.vKids) <;> cases stOks p.vKids <;> cases noDup ns (nmss lits p.vKids) <;> simp
  have go : Ev (fun k => qf.j8b k (qf.f k) (qf.l11 k) true lits bad p.vSort p.vText p.vScopes p.vFrom p.vKids ns) (lits, bad || (!stOk p || !noDup ns (nms lits p)), ns ++ nms lits p) := by
   simp only [qf.j8b, if_true, mTExpForm]
   refine Ev.bind (parts_impl p (by omega) h34) ?_
   rw [← whole]
   exact loop bad
  by_cases h3 : p.vSort = 3
  ·simp only [if_neg n1, if_pos h3]; exact go
  ·have h4 : p.vSort = 4 := by rcases h34 with h | h <;> omega
   simp only [if_neg n1, if_neg h3, decide_eq_true h4]; exact go
theorem parts_spec (x : TExpForm) (hw : wid x ≤ 1000000000) (h : x.vSort = 3 ∨ (x.vSort = 4 ∧ 2 ≤ (x.vKids.length : Int))) : Ev (fun k => qz.f k x) (partsOf x) := by
 have hp := wid_parts x
 simp only [qz.f, partsOf]
 rcases h with h | ⟨h, h2⟩
 ·have n4 : ¬ x.vSort = 4 := by omega
  simp only [if_neg n4]; exact Ev.now _
 ·simp (disch := omega) only [if_pos h, if_pos, w64, List.drop_zero]
  refine Ev.eq (Ev.now _) ?_
  rw [show ((x.vKids.length : Int) - 1).toNat = x.vKids.length - 1 by omega]
theorem repeat_spec (x : TExpForm) (hw : wid x ≤ 1000000000) (h : x.vSort = 3 ∨ (x.vSort = 4 ∧ 2 ≤ (x.vKids.length : Int))) : Evs (fun k => qr.f k x) (fun r => (decide (r = -2)) = (headDots (partsOf x) || gt1 (dotsN (partsOf x)))) := by
 simp only [qr.f, eTExpForm_eq]
 refine Evs.bind (Evs.of (parts_spec x hw h) (P := fun r => r = partsOf x) rfl) fun r hr => ?_
 subst hr
 have hwp : (( partsOf x).length : Int) ≤ 1000000000 := by
  have hp := wid_parts x
  unfold partsOf; split
  ·rw [List.length_take]; omega
  ·omega
 refine (goList (partsOf x) (P := fun i suf => ∀ (at_ n : Int), 0 ≤ n → -1 ≤ at_ → at_ ≤ i → (0 ≤ at_ ↔ 0 < n) → Evs (fun k => qr.l4 k at_ (partsOf x) i) (fun r => (decide (r = -2)) = ((decide (i = 0) && headDots suf) || (gt1 (n + dotsN suf) && (decide (0 < dotsN suf)))))) ?_ ?_ (-1) 0 (by omega) (by omega) (by omega) (by omega)).mono ?_
 ·intro at_ n h0 h1 h2 h3
  refine Evs.shift ?_
  simp (disch := omega) only [qr.l4, if_neg]
  refine Evs.now ?_
  rw [decide_eq_false (by omega)]
  simp [headDots, dotsN]
 ·intro i y r i0 i1 hx hm hlen _ _ ih at_ n h0 h1 h2 h3
  have hdr := dotsN_pos r
  refine Evs.shift ?_
  simp (disch := omega) only [qr.l4, if_pos, hx, eTExpForm_eq, w64]
  refine Evs.bind (Evs.of (dots_spec y) (P := fun r => r = isDots y) rfl) fun b hb => ?_
  subst hb
  cases hdy : isDots y with
  | true =>
   simp only [if_true, headDots, hdy, Bool.and_true]
   have dn : dotsN (y :: r) = 1 + dotsN r := by simp only [dotsN, hdy, if_true]
   by_cases ha : 0 ≤ at_
   ·simp only [if_pos ha]
    refine Evs.now ?_
    rw [dn, decide_eq_true (rfl : (-2 : Int) = -2), show gt1 (n + (1 + dotsN r)) = true from decide_eq_true (by have := h3.1 ha; omega), decide_eq_true (show 0 < 1 + dotsN r by omega)]
    simp
   ·simp only [if_neg ha]
    by_cases hi : i = 0
    ·simp only [if_pos hi]
     refine Evs.now ?_
     simp [hi]
    ·simp only [if_neg hi]
     refine (ih (i - 1) (n + 1) (by omega) (by omega) (by omega) (by omega)).mono fun s hs => ?_
     have hn : n = 0 := by omega
     subst hn
     rw [hs, dn, decide_eq_false hi, decide_eq_false (show ¬ i + 1 = 0 by omega)]
     simp only [Bool.false_and, Bool.false_or]
     unfold gt1
     rw [Bool.eq_iff_iff]
     simp
     omega
  | false =>
   have dn : dotsN (y :: r) = dotsN r := by simp [dotsN, hdy]
   simp only [Bool.false_eq_true, if_false, headDots, hdy, Bool.and_false, Bool.false_or, dn]
   refine (ih at_ n h0 h1 (by omega) h3).mono fun s hs => ?_
   rw [hs, decide_eq_false (show ¬ i + 1 = 0 by omega)]
   simp
 ·intro r hr
  rw [hr]
  have := dotsN_pos (partsOf x)
  simp only [decide_true, Bool.true_and, Int.zero_add]
  congr 1
  unfold gt1
  rw [Bool.eq_iff_iff]
  simp only [Bool.and_eq_true, decide_eq_true_eq]
  omega
theorem isDots_not {x : TExpForm} (h : ¬ x.vSort = 1) : isDots x = false := by unfold isDots; rw [decide_eq_false h]; rfl
theorem patOk_spec : ∀ (p : TExpForm) (d : Int), okf p d = true → wid p ≤ 1000000000 → Ev (fun k => ql.f k p) (!isDots p && stOk p) := by
 refine indForm fun p ih d hok hw => ?_
 have hp := wid_parts p
 refine Ev.shift ?_
 simp only [ql.f, eTExpForm_eq]
 rcases okf_shape hok with ⟨h1, hk⟩ | ⟨h2, hk⟩ | ⟨h34, hks⟩
 ·rw [stOk_mk, if_pos (Or.inl h1)]
  simp only [if_pos h1]
  refine Ev.bind (dots_spec p) ?_
  cases isDots p <;> exact Ev.now _
 ·rw [stOk_mk, if_pos (Or.inr h2), isDots_not (by omega)]
  have n1 : ¬ p.vSort = 1 := by omega
  simp only [if_neg n1, if_pos h2]; exact Ev.now _
 ·have n1 : ¬ p.vSort = 1 := by rcases h34 with h | h <;> omega
  have n2 : ¬ p.vSort = 2 := by rcases h34 with h | h <;> omega
  have hkids := okfs_mem' hks
  rw [stOk_mk, if_neg (by omega), isDots_not n1]
  simp only [if_neg n1, if_neg n2, Bool.not_false, Bool.true_and]
  obtain ⟨r, hr, e⟩ := repeat_spec p hw h34
  refine Ev.bind e ?_
  have kids : Ev (fun k => ql.j7b k (ql.f k) (ql.l8 k) p.vKids) (stOks p.vKids) := by
   simp only [ql.j7b]
   refine goList p.vKids (P := fun i suf => Ev (fun k => ql.l8 k i p.vKids) (stOks suf)) ?_ ?_
   ·refine Ev.shift ?_
    simp (disch := omega) only [ql.l8, if_neg, stOks]; exact Ev.now _
   ·intro i y r i0 i1 hx hm _ _ _ ihr
    have hy := wids_mem hm
    refine Ev.shift ?_
    simp (disch := omega) only [ql.l8, if_pos, hx, eTExpForm_eq, w64, stOks]
    refine Ev.bind (dots_spec y) ?_
    cases hdy : isDots y with
    | true =>
     have : stOk y = true := by
      rw [stOk_mk, if_pos (Or.inl ?_)]
      unfold isDots at hdy
      simp only [Bool.and_eq_true, decide_eq_true_eq] at hdy
      exact hdy.1
     simp only [not_true_eq_false, if_false, this, Bool.true_and]; exact ihr
    | false =>
     simp only [Bool.false_eq_true, not_false_eq_true, if_true]
     refine Ev.bind (ih y hm (d + 1) (hkids y hm) (by omega)) ?_
     rw [hdy]
     cases stOk y with
     | true => simp only [Bool.not_false, Bool.and_self, not_true_eq_false, if_false, Bool.true_and]; exact ihr
     | false => simp only [Bool.and_false, Bool.false_eq_true, not_false_eq_true, if_true, Bool.false_and]; exact Ev.now _
  by_cases hm2 : r = -2
  ·have : (headDots (partsOf p) || gt1 (dotsN (partsOf p))) = true := by rw [← hr]; exact decide_eq_true hm2
   simp only [if_pos hm2]
   refine Ev.eq (Ev.now _) ?_
   rw [← Bool.not_or, this]; rfl
  ·have : (headDots (partsOf p) || gt1 (dotsN (partsOf p))) = false := by rw [← hr]; exact decide_eq_false hm2
   simp only [if_neg hm2]
   rw [← Bool.not_or, this]
   simp only [Bool.not_false, Bool.true_and]
   by_cases h4 : p.vSort = 4
   ·have h2k : 2 ≤ (p.vKids.length : Int) := by rcases h34 with h | h <;> omega
    simp (disch := omega) only [if_pos h4, if_pos, w64, decide_eq_true h4, Bool.not_true, Bool.false_or]
    refine Ev.bind (dots_spec _) ?_
    show Ev _ (!isDots (lastOf p) && stOks p.vKids)
    show Ev (fun k => if isDots (lastOf p) = true then some false else ql.j7b k (ql.f k) (ql.l8 k) p.vKids) _
    cases isDots (lastOf p) with
    | true => simp only [if_true, Bool.not_true, Bool.false_and]; exact Ev.now _
    | false => simp only [Bool.false_eq_true, if_false, Bool.not_false, Bool.true_and]; exact kids
   ·simp only [if_neg h4, decide_eq_false h4, Bool.not_false, Bool.true_or, Bool.true_and]; exact kids
theorem names_spec (lits : List TExpForm) (hlit : Sml lits) (hl1 : ∀ x ∈ lits, x.vSort = 1) : ∀ (p : TExpForm), wid p ≤ 1000000000 → Ev (fun k => qv.f k p lits) (nms lits p) := by
 refine indForm fun p ih hw => ?_
 have hp := wid_parts p
 refine Ev.shift ?_
 rw [nms_mk]
 simp only [qv.f, eTExpForm_eq]
 by_cases h1 : p.vSort = 1
 ·simp only [if_pos h1]
  refine Ev.bind (dots_spec p) ?_
  cases isDots p with
  | true => simp only [not_true_eq_false, if_false, Bool.true_or, if_true]; exact Ev.now _
  | false =>
   simp only [Bool.false_eq_true, not_false_eq_true, if_true, Bool.false_or]
   refine Ev.bind (blank_spec p) ?_
   cases isBlank p with
   | true => simp only [not_true_eq_false, if_false, Bool.true_or, if_true]; exact Ev.now _
   | false =>
    simp only [Bool.false_eq_true, not_false_eq_true, if_true, Bool.false_or]
    refine Ev.bind (among_spec lits p hlit hl1 h1) ?_
    cases inB lits p with
    | true => simp only [not_true_eq_false, if_false, if_true]; exact Ev.now _
    | false =>
     simp (disch := first | omega | (simp; omega)) only [Bool.false_eq_true, not_false_eq_true, if_true, if_false, if_pos, List.nil_append]
     exact Ev.now _
 ·simp only [if_neg h1]
  refine goList p.vKids (P := fun i suf => ∀ out : List TExpForm, (out.length : Int) + wids suf ≤ 1000000000 → Ev (fun k => qv.l7 k lits i p.vKids out) (out ++ nmss lits suf)) ?_ ?_ [] (by simp; omega)
  ·intro out ho
   refine Ev.shift ?_
   simp (disch := omega) only [qv.l7, if_neg, nmss, List.append_nil]; exact Ev.now _
  ·intro i y r i0 i1 hx hm _ _ _ ihr out ho
   have hy := wids_mem hm
   obtain ⟨f1, _⟩ := nms_facts lits y
   have := (wids_len r).1
   simp only [wids] at ho
   refine Ev.shift ?_
   simp (disch := omega) only [qv.l7, if_pos, hx, eTExpForm_eq, w64, nmss]
   refine Ev.bind (ih y hm (by omega)) ?_
   simp (disch := omega) only [if_pos]
   exact Ev.eq (ihr (out ++ nms lits y) (by rw [List.length_append]; omega)) (by simp)
def patB (p : TExpForm) (lits : List TExpForm) : Bool := okb p && (lits.all litOk && (!isDots p && (stOk p && noDup [] (nms lits p))))
theorem PatternOk_impl (p : TExpForm) (lits : List TExpForm) (hw : wid p ≤ 100000000) (hl : Sml lits) : Ev (fun k => q1t.f k p lits) (patB p lits) := by
 simp only [q1t.f, eTExpForm_eq, q1t.j3, mTExpForm, patB]
 refine Ev.bind (formOk_impl p (by omega)) ?_
 cases hok : okb p with
 | false => simp only [Bool.false_eq_true, not_false_eq_true, if_true, Bool.false_and]; exact Ev.now _
 | true =>
  simp only [not_true_eq_false, if_false, Bool.true_and]
  refine Ev.bind (lits_impl lits hl) ?_
  cases lits.all litOk with
  | false => simp only [Bool.false_eq_true, not_false_eq_true, if_true, Bool.false_and]; exact Ev.now _
  | true =>
   simp only [not_true_eq_false, if_false, Bool.true_and]
   refine Ev.bind (is_dots p) ?_
   cases isDots p with
   | true => simp only [if_true, Bool.not_true, Bool.false_and]; exact Ev.now _
   | false =>
    simp only [Bool.false_eq_true, if_false, Bool.not_false, Bool.true_and]
    have hokf : okf p 0 = true := by unfold okb at hok; rw [Bool.and_eq_true] at hok; exact hok.1
    refine Ev.bind (look_impl lits hl p 0 hokf false [] ⟨by simp, fun x hx => by cases hx⟩ hw (by simp; omega)) ?_
    refine Ev.eq (Ev.now _) ?_
    cases stOk p <;> cases noDup [] (nms lits p) <;> simp
theorem noDup_loop (l : List TExpForm) (hs : Sml l) (h1 : ∀ x ∈ l, x.vSort = 1) : Ev (fun k => q14.l5 k l 0) (noDup [] l) := by
 have hl := hs.1
 refine Ev.eq (goList l (P := fun i suf => 0 ≤ i → Ev (fun k => q14.l5 k l i) (noDup (l.take i.toNat) suf)) ?_ ?_ (by omega)) (by simp)
 ·intro _
  refine Ev.shift ?_
  simp (disch := omega) only [q14.l5, if_neg, noDup]; exact Ev.now _
 ·intro i y r i0 i1 hx hm _ _ htk ih _
  refine Ev.shift ?_
  simp (disch := omega) only [q14.l5, if_pos, hx, eTExpForm_eq, w64, List.drop_zero, noDup]
  refine Ev.bind (among_spec (l.take i.toNat) y ⟨by rw [List.length_take]; omega, fun x hx => hs.2 x (List.mem_of_mem_take hx)⟩ (fun x hx => h1 x (List.mem_of_mem_take hx)) (h1 y hm)) ?_
  have e : (i + 1).toNat = i.toNat + 1 := by omega
  have ih := ih (by omega)
  rw [e, htk] at ih
  cases inB (l.take i.toNat) y with
  | true => simp only [if_true, Bool.not_true, Bool.false_and]; exact Ev.now _
  | false => simp only [Bool.false_eq_true, if_false, Bool.not_false, Bool.true_and]; exact ih
theorem PatternOk_spec (p : TExpForm) (lits : List TExpForm) (hw : wid p ≤ 100000000) (hl : Sml lits) : Ev (fun k => q14.f k p lits) (patB p lits) := by
 simp only [q14.f, eTExpForm_eq, q14.j3, mTExpForm, patB]
 refine Ev.bind (formOk_spec p (by omega)) ?_
 cases hok : okb p with
 | false => simp only [Bool.false_eq_true, not_false_eq_true, if_true, Bool.false_and]; exact Ev.now _
 | true =>
  simp only [not_true_eq_false, if_false, Bool.true_and]
  refine Ev.bind (lits_spec lits hl) ?_
  cases hlo : lits.all litOk with
  | false => simp only [Bool.false_eq_true, not_false_eq_true, if_true, Bool.false_and]; exact Ev.now _
  | true =>
   have hl1 : ∀ x ∈ lits, x.vSort = 1 := by
    intro x hx
    have := List.all_eq_true.1 hlo x hx
    unfold litOk at this
    simp only [Bool.and_eq_true, decide_eq_true_eq] at this
    exact this.1
   have hokf : okf p 0 = true := by unfold okb at hok; rw [Bool.and_eq_true] at hok; exact hok.1
   simp only [not_true_eq_false, if_false, Bool.true_and]
   refine Ev.bind (patOk_spec p 0 hokf (by omega)) ?_
   rw [← Bool.and_assoc]
   cases (!isDots p && stOk p) with
   | false => simp only [Bool.false_eq_true, not_false_eq_true, if_true, Bool.false_and]; exact Ev.now _
   | true =>
    simp only [not_true_eq_false, if_false, Bool.true_and]
    obtain ⟨f1, f2⟩ := nms_facts lits p
    exact Ev.bind (names_spec lits hl hl1 p (by omega)) (noDup_loop _ ⟨by omega, fun x hx => by have := (f2 x hx).2; omega⟩ fun x hx => (f2 x hx).1)
end Go.Proofs.YtmcbhnbemhfifaaGreatDoor.RX
end
section
namespace Go.Proofs.YtmcbhnbemhfifaaGreatDoor.RX
open Go K
set_option autoImplicit false
set_option linter.unusedVariables false
set_option linter.unusedSimpArgs false
def within (a b : List Int) : Bool := a.all fun x => b.contains x
def fitsB (t : ByteArray) (sc : List Int) (b : TExpBind) : Bool := decide (b.vText.toList = t.toList) && within b.vScopes sc
def allIn (l : List TExpBind) (x : TExpBind) : Bool := l.all fun b => within b.vScopes x.vScopes
def findL (all : List TExpBind) : List TExpBind → Option ByteArray
 | [] => none
 | x :: r => if allIn all x then some x.vName else findL all r
def told (c : Int) : Option ByteArray → ByteArray × Int
 | some n => (n, 1)
 | none => (ByteArray.mk #[], c)
def findB (binds : List TExpBind) (t : ByteArray) (sc : List Int) : ByteArray × Int :=
 told (if (binds.filter (fitsB t sc)).isEmpty then 0 else 2) (findL (binds.filter (fitsB t sc)) (binds.filter (fitsB t sc)).reverse)
def SmlB (l : List TExpBind) : Prop := (l.length : Int) ≤ 1000000000 ∧ ∀ x ∈ l, (x.vScopes.length : Int) ≤ 1000000000
theorem fhas_impl (l : List Int) (n : Int) (hl : (l.length : Int) ≤ 1000000000) : Ev (fun k => q20.f k l n) (l.contains n) := by
 simp only [q20.f]
 refine goList l (P := fun i suf => Ev (fun k => q20.l2 k n l (l.length : Int) i) (suf.contains n)) ?_ ?_
 ·refine Ev.shift ?_
  simp (disch := omega) only [q20.l2, if_neg, List.contains_nil]
  exact Ev.now _
 ·intro i x r h0 h1 hx hm _ _ _ ih
  refine Ev.shift ?_
  simp (disch := omega) only [q20.l2, if_pos, hx, w64, List.contains_cons]
  by_cases h : x = n
  ·subst h; simp only [if_true, beq_self_eq_true, Bool.true_or]; exact Ev.now _
  ·have h' : (n == x) = false := by simpa using fun e => h e.symm
   simp only [if_neg h, h', Bool.false_or]; exact ih
theorem fhas_spec (l : List Int) (n : Int) (hl : (l.length : Int) ≤ 1000000000) : Ev (fun k => q23.f k l n) (l.contains n) := by
 simp only [q23.f]
 refine goList l (P := fun i suf => Ev (fun k => q23.l2 k l n i) (suf.contains n)) ?_ ?_
 ·refine Ev.shift ?_
  simp (disch := omega) only [q23.l2, if_neg, List.contains_nil]
  exact Ev.now _
 ·intro i x r h0 h1 hx hm _ _ _ ih
  refine Ev.shift ?_
  simp (disch := omega) only [q23.l2, if_pos, hx, w64, List.contains_cons]
  by_cases h : x = n
  ·subst h; simp only [if_true, beq_self_eq_true, Bool.true_or]; exact Ev.now _
  ·have h' : (n == x) = false := by simpa using fun e => h e.symm
   simp only [if_neg h, h', Bool.false_or]; exact ih
theorem within_impl (a b : List Int) (ha : (a.length : Int) ≤ 1000000000) (hb : (b.length : Int) ≤ 1000000000) : Ev (fun k => q1w.f k a b) (within a b) := by
 simp only [q1w.f, within]
 refine goList a (P := fun i suf => Ev (fun k => q1w.l2 k b a (a.length : Int) i) (suf.all fun x => b.contains x)) ?_ ?_
 ·refine Ev.shift ?_
  simp (disch := omega) only [q1w.l2, if_neg, List.all_nil]
  exact Ev.now _
 ·intro i x r h0 h1 hx hm _ _ _ ih
  refine Ev.shift ?_
  simp (disch := omega) only [q1w.l2, if_pos, hx, w64, List.all_cons]
  refine Ev.bind (fhas_impl b x hb) ?_
  cases b.contains x with
  | true => simp only [not_true, if_false, Bool.true_and]; exact ih
  | false => simp only [Bool.false_eq_true, not_false_eq_true, if_true, Bool.false_and]; exact Ev.now _
theorem within_spec (a b : List Int) (ha : (a.length : Int) ≤ 1000000000) (hb : (b.length : Int) ≤ 1000000000) : Ev (fun k => q1i.f k a b) (within a b) := by
 simp only [q1i.f, within]
 refine goList a (P := fun i suf => Ev (fun k => q1i.l2 k a b i) (suf.all fun x => b.contains x)) ?_ ?_
 ·refine Ev.shift ?_
  simp (disch := omega) only [q1i.l2, if_neg, List.all_nil]
  exact Ev.now _
 ·intro i x r h0 h1 hx hm _ _ _ ih
  refine Ev.shift ?_
  simp (disch := omega) only [q1i.l2, if_pos, hx, w64, List.all_cons]
  refine Ev.bind (fhas_spec b x hb) ?_
  cases b.contains x with
  | true => simp only [not_true, if_false, Bool.true_and]; exact ih
  | false => simp only [Bool.false_eq_true, not_false_eq_true, if_true, Bool.false_and]; exact Ev.now _
theorem fits_spec (b : TExpBind) (x : TExpForm) (hb : (b.vScopes.length : Int) ≤ 1000000000) (hx : (x.vScopes.length : Int) ≤ 1000000000) : Ev (fun k => q2a.f k b x) (fitsB x.vText x.vScopes b) := by
 simp only [q2a.f, fitsB]
 by_cases h : b.vText.toList = x.vText.toList
 ·simp only [if_pos h, decide_eq_true h, Bool.true_and]
  exact Ev.bind (within_spec _ _ hb hx) (Ev.now _)
 ·simp only [if_neg h, decide_eq_false h, Bool.false_and]
  exact Ev.now _
theorem all_spec (l : List TExpBind) (hl : SmlB l) (x : TExpForm) (hx : (x.vScopes.length : Int) ≤ 1000000000) (y : TExpBind) (hy : (y.vScopes.length : Int) ≤ 1000000000) : Ev (fun k => q1s.f k l x y.vScopes) (allIn (l.filter (fitsB x.vText x.vScopes)) y) := by
 obtain ⟨hl, hs⟩ := hl
 simp only [q1s.f, allIn]
 refine goList l (P := fun i suf => Ev (fun k => q1s.l2 k l y.vScopes i x.vSort x.vText x.vScopes x.vFrom x.vKids) ((suf.filter (fitsB x.vText x.vScopes)).all fun b => within b.vScopes y.vScopes)) ?_ ?_
 ·refine Ev.shift ?_
  simp (disch := omega) only [q1s.l2, if_neg, List.filter_nil, List.all_nil]
  exact Ev.now _
 ·intro i b r h0 h1 hb hm _ _ _ ih
  refine Ev.shift ?_
  simp (disch := omega) only [q1s.l2, if_pos, hb, w64, mTExpForm, List.filter_cons]
  refine Ev.bind (fits_spec b x (hs b hm) hx) ?_
  cases fitsB x.vText x.vScopes b with
  | false => simp only [Bool.false_eq_true, if_false]; exact ih
  | true =>
   simp only [if_true, List.all_cons]
   refine Ev.bind (within_spec _ _ (hs b hm) hy) ?_
   cases within b.vScopes y.vScopes with
   | true => simp only [not_true, if_false, Bool.true_and]; exact ih
   | false => simp only [Bool.false_eq_true, not_false_eq_true, if_true, Bool.false_and]; exact Ev.now _
theorem find_spec (l : List TExpBind) (hl : SmlB l) (x : TExpForm) (hx : (x.vScopes.length : Int) ≤ 1000000000) (h1 : x.vSort = 1) : Ev (fun k => q1n.f k l x) (findB l x.vText x.vScopes) := by
 simp (disch := omega) only [q1n.f, if_neg (decide_not_ne h1), w64]
 have hs := hl.2
 have hn := hl.1
 rw [w64 (by omega) (by omega)]
 refine Ev.eq (goBack l (P := fun i pre => ∀ c : Int, Ev (fun k => q1n.l5 k l c i x.vSort x.vText x.vScopes x.vFrom x.vKids) (told (if (pre.filter (fitsB x.vText x.vScopes)).isEmpty then c else 2) (findL (l.filter (fitsB x.vText x.vScopes)) (pre.filter (fitsB x.vText x.vScopes)).reverse))) ?_ ?_ 0) rfl
 ·intro c
  refine Ev.shift ?_
  simp (disch := omega) only [q1n.l5, if_neg]
  exact Ev.now _
 ·intro i b r h0 h1' hb hm _ _ ih c
  refine Ev.shift ?_
  simp (disch := omega) only [q1n.l5, if_pos, hb, w64, mTExpForm, List.filter_append]
  refine Ev.bind (fits_spec b x (hs b hm) hx) ?_
  cases hf : fitsB x.vText x.vScopes b with
  | false =>
   simp only [Bool.false_eq_true, not_false_eq_true, if_true, List.filter_cons, hf, if_false, List.filter_nil, List.append_nil]
   exact ih c
  | true =>
   simp only [not_true, if_false, List.filter_cons, hf, if_true, List.filter_nil, List.reverse_append, List.reverse_cons, List.reverse_nil, List.nil_append, List.singleton_append, findL]
   refine Ev.bind (all_spec l hl x hx b (hs b hm)) ?_
   cases allIn (l.filter (fitsB x.vText x.vScopes)) b with
   | true => simp only [if_true]; exact Ev.now _
   | false =>
    simp only [Bool.false_eq_true, if_false]
    refine (ih 2).eq ?_
    cases h : (r.filter (fitsB x.vText x.vScopes)).isEmpty <;> cases h' : ((r.filter (fitsB x.vText x.vScopes)) ++ [b]).isEmpty <;> simp_all
theorem allIn_loop (a : List TExpBind) (ha : SmlB a) (j : Int) (y : TExpBind) (j0 : 0 ≤ j) (j1 : j < (a.length : Int)) (hj : rdAt zTExpBind a j = y) (g : Bool → ByteArray × Int)
  (hend : ∀ c, Ev (fun k => qn.l17 k j c (a.length : Int) (a.length : Int) a) (g c)) : Ev (fun k => qn.l17 k j true (a.length : Int) 0 a) (g (allIn a y)) := by
 obtain ⟨hl, hs⟩ := ha
 have hy : (y.vScopes.length : Int) ≤ 1000000000 := by rw [← hj]; exact hs _ (rdAt_mem _ _ _ j0 j1)
 refine Ev.eq (goList a (P := fun i suf => ∀ c : Bool, Ev (fun k => qn.l17 k j c (a.length : Int) i a) (g (c && suf.all fun b => within b.vScopes y.vScopes))) ?_ ?_ true) (by simp [allIn])
 ·intro c
  exact (hend c).eq (by simp)
 ·intro i b r h0 h1 hb hm _ _ _ ih c
  refine Ev.shift ?_
  have hb' : a.getD i.toNat zTExpBind = b := hb zTExpBind
  have hj' : a.getD j.toNat zTExpBind = y := hj
  simp (disch := omega) only [qn.l17, if_pos, hb', hj', w64, List.all_cons]
  cases c with
  | true =>
   simp only [if_true, Bool.true_and]
   refine Ev.bind (within_impl _ _ (hs b hm) hy) ?_
   exact ih _
  | false =>
   simp only [Bool.false_eq_true, if_false, Bool.false_and]
   exact (ih false).eq (by simp)
theorem back_impl (a : List TExpBind) (ha : SmlB a) : Ev (fun k => qn.l13 k ((a.length : Int) - 1) a) (told 2 (findL a a.reverse)) := by
 have hl := ha.1
 refine goBack a (P := fun i pre => Ev (fun k => qn.l13 k i a) (told 2 (findL a pre.reverse))) ?_ ?_
 ·refine Ev.shift ?_
  simp (disch := omega) only [qn.l13, if_neg]
  exact Ev.now _
 ·intro i b r h0 h1 hb hm _ _ ih
  refine Ev.shift ?_
  simp (disch := omega) only [qn.l13, if_pos]
  simp only [List.reverse_append, List.reverse_cons, List.reverse_nil, List.nil_append, List.singleton_append, findL]
  refine Ev.eq (allIn_loop a ha i b h0 h1 (hb _) (fun c => told 2 (if c then some b.vName else findL a r.reverse)) ?_) rfl
  intro c
  refine Ev.shift ?_
  have hb' : a.getD i.toNat zTExpBind = b := hb zTExpBind
  simp (disch := omega) only [qn.l17, if_neg, if_pos, hb', w64]
  cases c with
  | true => simp only [if_true]; exact Ev.now _
  | false => simp only [Bool.false_eq_true, if_false]; exact ih
theorem find_impl (l : List TExpBind) (hl : SmlB l) (x : TExpForm) (hx : (x.vScopes.length : Int) ≤ 1000000000) (h1 : x.vSort = 1) : Ev (fun k => qn.f k l x) (findB l x.vText x.vScopes) := by
 obtain ⟨hn, hs⟩ := hl
 simp only [qn.f, if_neg (decide_not_ne h1)]
 refine Ev.eq (goList l (P := fun i suf => ∀ a : List TExpBind, (a.length : Int) ≤ i → SmlB a → Ev (fun k => qn.l5 k l (l.length : Int) i x.vText x.vScopes a) (told (if (a ++ suf.filter (fitsB x.vText x.vScopes)).isEmpty then 0 else 2) (findL (a ++ suf.filter (fitsB x.vText x.vScopes)) (a ++ suf.filter (fitsB x.vText x.vScopes)).reverse))) ?_ ?_ [] (by simp) ⟨by simp, by simp⟩) (by simp [findB])
 ·intro a ha sa
  refine Ev.shift ?_
  simp (disch := omega) only [qn.l5, if_neg, List.filter_nil, List.append_nil]
  by_cases h : (a.length : Int) = 0
  ·have : a = [] := List.eq_nil_of_length_eq_zero (by omega)
   subst this
   simp only [if_pos h]
   exact Ev.now _
  ·have hne : a.isEmpty = false := by cases a <;> simp_all
   simp only [if_neg h, hne, Bool.false_eq_true, if_false]
   rw [w64 (by omega) (by omega)]
   exact back_impl a sa
 ·intro i b r h0 h1' hb hm _ _ _ ih a ha sa
  refine Ev.shift ?_
  simp (disch := omega) only [qn.l5, if_pos, hb, w64, List.filter_cons, fitsB]
  by_cases h : b.vText.toList = x.vText.toList
  ·simp only [if_pos h, decide_eq_true h, Bool.true_and]
   refine Ev.bind (within_impl _ _ (hs b hm) hx) ?_
   cases within b.vScopes x.vScopes with
   | true =>
    simp (disch := (simp only [List.length_cons, List.length_nil]; omega)) only [if_true, if_pos]
    refine (ih (a ++ [b]) (by simp; omega) ⟨by simp; omega, by
     intro y hy
     rcases List.mem_append.1 hy with h | h
     ·exact sa.2 y h
     ·rw [List.mem_singleton.1 h]; exact hs b hm⟩).eq (by simp [fitsB])
   | false => simp only [Bool.false_eq_true, if_false]; exact ih a (by omega) sa
  ·simp only [if_neg h, decide_eq_false h, Bool.false_and, Bool.false_eq_true, if_false]
   exact ih a (by omega) sa
end Go.Proofs.YtmcbhnbemhfifaaGreatDoor.RX
end
section
namespace Go.Proofs.YtmcbhnbemhfifaaGreatDoor.RX
open Go K
set_option autoImplicit false
set_option linter.unusedVariables false
set_option linter.unusedSimpArgs false
abbrev GL := List TExpGot
mutual
def nonD (lits : List TExpForm) : TExpForm → Int → GL
 | ⟨s, t, sc, fr, ks⟩, d => if s = 1 then (if isDots ⟨s, t, sc, fr, ks⟩ || isBlank ⟨s, t, sc, fr, ks⟩ || inB lits ⟨s, t, sc, fr, ks⟩ then [] else [⟨⟨s, t, sc, fr, ks⟩, d, zTExpForm, []⟩]) else nonDs lits ks d
def nonDs (lits : List TExpForm) : List TExpForm → Int → GL
 | [], _ => []
 | x :: l, d => nonD lits x (if headDots l then d + 1 else d) ++ nonDs lits l d
end
theorem nonD_mk (lits : List TExpForm) (x : TExpForm) (d : Int) : nonD lits x d = if x.vSort = 1 then (if isDots x || isBlank x || inB lits x then [] else [⟨x, d, zTExpForm, []⟩]) else nonDs lits x.vKids d := by cases x; simp only [nonD]
theorem nonD_name (lits : List TExpForm) : ∀ x : TExpForm, ∀ d, (nonD lits x d).map (fun g => g.vName) = nms lits x := by
 refine indForm fun x ih d => ?_
 rw [nonD_mk, nms_mk]
 split
 ·split <;> rfl
 ·generalize hl : x.vKids = l
  rw [hl] at ih
  clear hl
  induction l with
  | nil => simp [nonDs, nmss]
  | cons y l ihl =>
   simp only [nonDs, nmss, List.map_append]
   rw [ih y (by simp), ihl (fun z hz => ih z (by simp [hz]))]
theorem nonDs_name (lits : List TExpForm) (l : List TExpForm) (d : Int) : (nonDs lits l d).map (fun g => g.vName) = nmss lits l := by
 induction l with
 | nil => simp [nonDs, nmss]
 | cons y l ihl => simp only [nonDs, nmss, List.map_append, nonD_name, ihl]
theorem nonD_len (lits : List TExpForm) (x : TExpForm) (d : Int) : (nonD lits x d).length = (nms lits x).length := by rw [← nonD_name lits x d, List.length_map]
theorem nonD_many (lits : List TExpForm) : ∀ x : TExpForm, ∀ d, ∀ g ∈ nonD lits x d, g.vMany = [] := by
 refine indForm fun x ih d g hg => ?_
 rw [nonD_mk] at hg
 split at hg
 ·split at hg
  ·cases hg
  ·rw [List.mem_singleton.1 hg]
 ·generalize hl : x.vKids = l at hg
  rw [hl] at ih
  clear hl
  induction l with
  | nil => simp [nonDs] at hg
  | cons y l ihl =>
   simp only [nonDs] at hg
   rcases List.mem_append.1 hg with h | h
   ·exact ih y (by simp) _ g h
   ·exact ihl (fun z hz => ih z (by simp [hz])) h
theorem nonDs_append (lits : List TExpForm) (a : List TExpForm) (e : TExpForm) (he : isDots e = false) (d : Int) : nonDs lits (a ++ [e]) d = nonDs lits a d ++ nonD lits e d := by
 induction a with
 | nil => simp [nonDs, headDots]
 | cons x a ih =>
  simp only [List.cons_append, nonDs, ih, List.append_assoc]
  cases a with
  | nil => simp [headDots, he]
  | cons y a => rfl
def nP : List TExpForm → Nat
 | [] => 0
 | x :: l => (if isDots x then 0 else 1) + nP l
theorem nP_dots (l : List TExpForm) : (nP l : Int) + dotsN l = (l.length : Int) := by
 induction l with
 | nil => simp [nP, dotsN]
 | cons x l ih => simp only [nP, dotsN, List.length_cons]; split <;> omega
def addG : GL → GL → GL
 | n :: ns, g :: gs => { n with vMany := n.vMany ++ [g] } :: addG ns gs
 | ns, _ => ns
theorem addG_len (a b : GL) : (addG a b).length = a.length := by
 induction a generalizing b with
 | nil => cases b <;> simp [addG]
 | cons x a ih => cases b <;> simp [addG, ih]
def manyM (m : TExpForm → Option GL) : GL → List TExpForm → Option GL
 | ns, [] => some ns
 | ns, x :: xs => (m x).bind fun g => manyM m (addG ns g) xs
theorem manyM_len (m : TExpForm → Option GL) (xs : List TExpForm) : ∀ (ns r : GL), manyM m ns xs = some r → r.length = ns.length := by
 induction xs with
 | nil => intro ns r h; simp only [manyM, Option.some.injEq] at h; rw [h]
 | cons x xs ih =>
  intro ns r h
  simp only [manyM, Option.bind_eq_some_iff] at h
  obtain ⟨g, _, h⟩ := h
  rw [ih _ _ h, addG_len]
def pre (g : GL) (q : GL × List TExpForm) : GL × List TExpForm := (g ++ q.1, q.2)
def seqM (m : TExpForm → TExpForm → Option GL) (nd : TExpForm → GL) : List TExpForm → List TExpForm → Option (GL × List TExpForm)
 | [], own => some ([], own)
 | p :: ps, own =>
  if isDots p then seqM m nd ps own
  else if headDots ps then (manyM (m p) (nd p) (own.take (own.length - nP ps))).bind fun g => (seqM m nd ps (own.drop (own.length - nP ps))).map (pre g)
  else match own with
   | [] => none
   | x :: own' => (m p x).bind fun g => (seqM m nd ps own').map (pre g)
def ownOf (f : TExpForm) : List TExpForm := if f.vSort = 3 ∨ f.vSort = 4 then partsOf f else []
def lastO (f : TExpForm) : Option TExpForm := if f.vSort = 3 then none else if f.vSort = 4 then some (lastOf f) else some f
def joinT (ks : List TExpForm) (e : TExpForm) : TExpForm :=
 if ks.length = 0 then e else if e.vSort = 3 ∨ e.vSort = 4 then ⟨e.vSort, ByteArray.empty, [], 0, ks ++ e.vKids⟩ else ⟨4, ByteArray.empty, [], 0, ks ++ [e]⟩
def leftT (ks : List TExpForm) : Option TExpForm → TExpForm
 | none => ⟨3, ByteArray.empty, [], 0, ks⟩
 | some e => joinT ks e
def st2 (a b : ByteArray × Int) (t u : ByteArray) : Bool :=
 (decide (b.2 = 1) && (decide (a.2 = 1) && decide (b.1.toList = a.1.toList))) || (decide (b.2 = 0) && (decide (a.2 = 0) && decide (u.toList = t.toList)))
def standB (binds : List TExpBind) (p f : TExpForm) : Bool := st2 (findB binds p.vText p.vScopes) (findB binds f.vText f.vScopes) p.vText f.vText
def leafM (lits : List TExpForm) (binds : List TExpBind) (p f : TExpForm) : Option GL :=
 if inB lits p then (if f.vSort = 1 then (if standB binds p f then some [] else none) else none)
 else if isBlank p then some [] else some [⟨p, 0, f, []⟩]
def least (p : TExpForm) : Int := (nP (partsOf p) : Int) - dotsN (partsOf p)
def badL (p f : TExpForm) : Bool :=
 (decide (p.vSort = 3) && !decide (f.vSort = 3)) || (decide (((ownOf f).length : Int) < least p) || (decide (p.vSort = 3) && (decide (dotsN (partsOf p) = 0) && decide (least p < ((ownOf f).length : Int)))))
def listM (m : TExpForm → TExpForm → Option GL) (nd : TExpForm → GL) (p f : TExpForm) : Option GL :=
 if badL p f then none
 else (seqM m nd (partsOf p) (ownOf f)).bind fun q => if p.vSort = 4 then (m (lastOf p) (leftT q.2 (lastO f))).map (q.1 ++ ·) else some q.1
def mtn (lits : List TExpForm) (binds : List TExpBind) : Nat → TExpForm → TExpForm → Option GL
 | 0, _, _ => none
 | n + 1, p, f =>
  if p.vSort = 1 then leafM lits binds p f
  else if p.vSort = 2 then (if f.vSort = 2 then (if f.vText.toList = p.vText.toList then some [] else none) else none)
  else listM (mtn lits binds n) (fun x => nonD lits x 1) p f
def outM : Option GL → Bool × GL
 | some g => (true, g)
 | none => (false, [])
end Go.Proofs.YtmcbhnbemhfifaaGreatDoor.RX
end
section
namespace Go.Proofs.YtmcbhnbemhfifaaGreatDoor.RX
open Go K
set_option autoImplicit false
set_option linter.unusedVariables false
set_option linter.unusedSimpArgs false
theorem icopy : ∀ x : TExpForm, wid x ≤ 1000000000 → Ev (fun k => qt.f k x) x := by
 refine indForm fun x ih hw => ?_
 have hp := wid_parts x
 refine Ev.shift ?_
 simp (disch := omega) only [qt.f, if_pos, List.length_nil, Nat.zero_add, List.nil_append]
 refine Ev.eq (goList x.vKids (P := fun i suf => ∀ out : List TExpForm, (out.length : Int) = i → Ev (fun k => qt.l4 k x.vKids (x.vKids.length : Int) i x.vSort x.vText x.vFrom out x.vScopes) ⟨x.vSort, x.vText, x.vScopes, x.vFrom, out ++ suf⟩) ?_ ?_ [] rfl) (by simp [mTExpForm])
 ·intro out ho
  refine Ev.shift ?_
  simp (disch := omega) only [qt.l4, if_neg, List.append_nil]
  exact Ev.now _
 ·intro i y r h0 h1 hx hm hl _ _ ihr out ho
  have hy := wids_mem hm
  refine Ev.shift ?_
  simp (disch := omega) only [qt.l4, if_pos, hx, eTExpForm_eq, w64, List.length_singleton]
  refine Ev.bind (ih y hm (by omega)) ?_
  exact Ev.eq (ihr (out ++ [y]) (by simp; omega)) (by simp)
theorem join_impl (ks : List TExpForm) (e : TExpForm) (hk : (ks.length : Int) ≤ 1000000000) (he : wid e ≤ 1000000000) : Ev (fun k => q1o.f k ks e) (joinT ks e) := by
 have hp := wid_parts e
 simp only [q1o.f, joinT]
 by_cases h : ks.length = 0
 ·have h' : (ks.length : Int) = 0 := by omega
  simp only [if_pos h, if_pos h', eTExpForm_eq]; exact Ev.now _
 ·have h' : ¬ (ks.length : Int) = 0 := by omega
  simp (disch := first | omega | (simp only [List.length_nil, List.length_append, List.length_singleton]; omega)) only [if_neg h, if_neg h', if_pos, List.nil_append, q1o.d5, eTExpForm_eq]
  by_cases h3 : e.vSort = 3
  ·simp (disch := first | omega | (simp only [List.length_nil, List.length_append, List.length_singleton]; omega)) only [if_pos h3, if_pos (Or.inl h3 : e.vSort = 3 ∨ e.vSort = 4), if_pos]; exact Ev.now _
  ·by_cases h4 : e.vSort = 4
   ·simp (disch := first | omega | (simp only [List.length_nil, List.length_append, List.length_singleton]; omega)) only [if_neg h3, if_pos h4, if_pos (Or.inr h4 : e.vSort = 3 ∨ e.vSort = 4), if_pos]; exact Ev.now _
   ·have n : ¬ (e.vSort = 3 ∨ e.vSort = 4) := by omega
    simp only [if_neg h3, if_neg h4, if_neg n]; exact Ev.now _
theorem parts0_impl (x : TExpForm) (h3 : ¬ x.vSort = 3) (h4 : ¬ x.vSort = 4) : Ev (fun k => q1a.f k x) ([], some x) := by
 simp only [q1a.f, if_neg h3, if_neg h4, eTExpForm_eq, mTExpForm]
 exact Ev.now _
theorem partsAny_impl (x : TExpForm) (hw : wid x ≤ 1000000000) {d : Int} (h : okf x d = true) : Ev (fun k => q1a.f k x) (ownOf x, lastO x) := by
 rcases okf_shape h with ⟨h1, hk⟩ | ⟨h1, hk⟩ | ⟨h1, _⟩
 ·have := parts0_impl x (by omega) (by omega)
  simpa [ownOf, lastO, h1] using this
 ·have := parts0_impl x (by omega) (by omega)
  simpa [ownOf, lastO, h1] using this
 ·refine (parts_impl x hw h1).eq ?_
  rcases h1 with h1 | ⟨h1, _⟩ <;> simp [ownOf, lastO, h1]
theorem last_sort {x : TExpForm} {d : Int} (h : okf x d = true) (h4 : x.vSort = 4) : (lastOf x).vSort = 1 ∨ (lastOf x).vSort = 2 := by
 rw [okf_mk, h4] at h
 simp at h
 have := h.2.2.2.2.2
 unfold lastOk at this
 simp at this
 exact this.2
theorem ends_of {x : TExpForm} (h : 2 ≤ (x.vKids.length : Int)) (h4 : x.vSort = 4) : partsOf x ++ [lastOf x] = x.vKids := by
 unfold partsOf lastOf
 rw [if_pos h4]
 exact take_last (by omega)
def endG (lits : List TExpForm) (d : Int) : Option TExpForm → GL
 | some y => nonD lits y d
 | none => []
theorem none_impl (lits : List TExpForm) (binds : List TExpBind) (hlit : Sml lits) : ∀ (p : TExpForm) (e : Int), okf p e = true → stOk p = true → ∀ d : Int, 0 ≤ d → wid p + d ≤ 1000000000 → Ev (fun k => qg.f k p d lits binds) (lits, binds, nonD lits p d) := by
 refine indForm fun p ih e hok hst d hd hw => ?_
 have hp := wid_parts p
 have hnl := (nms_facts lits p).1
 refine Ev.shift ?_
 rcases okf_shape hok with ⟨h1, hk⟩ | ⟨h1, hk⟩ | ⟨h1, hks⟩
 ·have s : p.vSort = 1 := h1
  have e1 : isDots p = decide (bytesOf p.vText = [46, 46, 46]) := by simp [isDots, s]
  have e2 : isBlank p = decide (bytesOf p.vText = [95]) := by simp [isBlank, s]
  simp only [qg.f, if_pos s, eTExpForm_eq]
  rw [nonD_mk, if_pos s, e1, e2]
  have b1 : (p.vText.toList = (ByteArray.mk #[46, 46, 46]).toList) ↔ bytesOf p.vText = [46, 46, 46] := lit_eq _ _ (by decide)
  have b2 : (p.vText.toList = (ByteArray.mk #[95]).toList) ↔ bytesOf p.vText = [95] := lit_eq _ _ (by decide)
  by_cases d1 : bytesOf p.vText = [46, 46, 46]
  ·simp only [if_neg (decide_not_ne (b1.2 d1)), qg.j5, Bool.false_eq_true, if_false, decide_eq_true d1, Bool.true_or, if_true]
   exact Ev.now _
  ·have d1' : ¬ p.vText.toList = (ByteArray.mk #[46, 46, 46]).toList := fun h => d1 (b1.1 h)
   by_cases d2 : bytesOf p.vText = [95]
   ·simp only [if_pos d1', if_neg (decide_not_ne (b2.2 d2)), qg.j5, Bool.false_eq_true, if_false, decide_eq_true d2, Bool.true_or, Bool.or_true, if_true]
    exact Ev.now _
   ·have d2' : ¬ p.vText.toList = (ByteArray.mk #[95]).toList := fun h => d2 (b2.1 h)
    simp only [if_pos d1', if_pos d2', decide_eq_false d1, decide_eq_false d2, Bool.false_or]
    refine Ev.bind (in_impl lits p hlit) ?_
    cases inB lits p with
    | true =>
     simp only [qg.j5, not_true, decide_false, Bool.false_eq_true, if_false, if_true]
     exact Ev.now _
    | false =>
     simp only [qg.j5, Bool.false_eq_true, not_false_eq_true, decide_true, if_true, if_false, mTExpForm]
     refine Ev.bind (icopy p (by omega)) ?_
     simp only [eTExpForm_eq, List.length_nil, List.length_singleton, List.nil_append]
     exact Ev.now _
 ·have n1 : ¬ p.vSort = 1 := by omega
  have n3 : ¬ p.vSort = 3 := by omega
  have n4 : ¬ p.vSort = 4 := by omega
  simp only [qg.f, if_neg n1, if_neg n3, decide_eq_false n4, qg.j8b, Bool.false_eq_true, if_false]
  rw [nonD_mk, if_neg n1, hk]
  exact Ev.now _
 ·have n1 : ¬ p.vSort = 1 := by omega
  have n2 : ¬ p.vSort = 2 := by omega
  rw [stOk_mk, if_neg (by omega)] at hst
  simp only [Bool.and_eq_true, Bool.or_eq_true, Bool.not_eq_true', decide_eq_false_iff_not] at hst
  obtain ⟨_, hle, hsk⟩ := hst
  have hokm := okfs_mem' hks
  have hstm : ∀ x ∈ p.vKids, stOk x = true := by
   generalize p.vKids = l at hsk
   intro x hx
   induction l with
   | nil => cases hx
   | cons y l ihl =>
    simp only [stOks, Bool.and_eq_true] at hsk
    rcases List.mem_cons.1 hx with rfl | hx
    ·exact hsk.1
    ·exact ihl hsk.2 hx
  have hsub : ∀ x ∈ partsOf p, x ∈ p.vKids := by
   intro x hx
   unfold partsOf at hx
   split at hx
   ·exact List.mem_of_mem_take hx
   ·exact hx
  have hpl : ((partsOf p).length : Int) ≤ (p.vKids.length : Int) := by
   unfold partsOf
   split
   ·rw [List.length_take]; omega
   ·omega
  have hnp : ((nmss lits (partsOf p)).length : Int) ≤ wids p.vKids := by
   refine Int.le_trans (nmss_facts lits (partsOf p)).1 ?_
   unfold partsOf
   split
   ·exact wids_take_le _ _
   ·exact Int.le_refl _
  have hend : ∀ y, (if p.vSort = 4 then some (lastOf p) else none) = some y → y ∈ p.vKids := by
   intro y hy
   split at hy
   ·injection hy with hy
    rw [← hy]
    exact rdAt_mem _ _ _ (by omega) (by omega)
   ·cases hy
  have whole : nonD lits p d = nonDs lits (partsOf p) d ++ endG lits d (if p.vSort = 4 then some (lastOf p) else none) := by
   rw [nonD_mk, if_neg n1]
   rcases h1 with h1 | ⟨h1, h2⟩
   ·have n4 : ¬ p.vSort = 4 := by omega
    simp only [partsOf, if_neg n4, endG, List.append_nil]
   ·rw [if_pos h1]
    simp only [endG]
    have := ends_of h2 h1
    rw [← this, nonDs_append]
    exact hle.resolve_left (by omega)
  have body : Ev (fun k => qg.l10 k d (partsOf p) (if p.vSort = 4 then some (lastOf p) else none) (partsOf p) ((partsOf p).length : Int) 0 lits binds []) (lits, binds, nonD lits p d) := by
   rw [whole]
   generalize (if p.vSort = 4 then some (lastOf p) else none) = eo at hend ⊢
   refine goList (partsOf p) (P := fun i suf => ∀ a : GL, (a.length : Int) + ((nmss lits suf).length : Int) ≤ 500000000000 → Ev (fun k => qg.l10 k d (partsOf p) eo (partsOf p) ((partsOf p).length : Int) i lits binds a) (lits, binds, a ++ (nonDs lits suf d ++ endG lits d eo))) ?_ ?_ [] (by simp; omega)
   ·intro a ha
    refine Ev.shift ?_
    simp (disch := omega) only [qg.l10, if_neg, nonDs, List.nil_append]
    cases eo with
    | none => simp only [Option.isSome, Bool.false_eq_true, if_false, endG, List.append_nil]; exact Ev.now _
    | some y =>
     simp only [Option.isSome, if_true, Option.bind_some, eTExpForm_eq, endG]
     have hy := hend y rfl
     have hwy := wids_mem hy
     refine Ev.bind (ih y hy _ (hokm y hy) (hstm y hy) d hd (by omega)) ?_
     have := (nms_facts lits y).1
     have h5 := nonD_len lits y d
     simp (disch := (simp only [nmss, List.length_nil] at ha; omega)) only [if_pos]
     exact Ev.now _
   ·intro i x r h0 h1 hx hm hl hdr _ ihr a ha
    have hmx := hsub x hm
    have hwx := wids_mem hmx
    have hlx := nonD_len lits x
    simp only [nmss, List.length_append] at ha
    refine Ev.shift ?_
    simp (disch := omega) only [qg.l10, if_pos, hx, w64, eTExpForm_eq, qg.j15b, mTExpForm]
    have go : ∀ d', 0 ≤ d' → wid x + d' ≤ 1000000000 → (if headDots r then d + 1 else d) = d' → Ev (fun k => (qg.f k x d' lits binds).bind fun r1 => if a.length + r1.2.2.length ≤ 733007751850 then qg.l10 k d (partsOf p) eo (partsOf p) ((partsOf p).length : Int) (i + 1) r1.1 r1.2.1 (a ++ r1.2.2) else none) (lits, binds, a ++ (nonDs lits (x :: r) d ++ endG lits d eo)) := by
     intro d' hd' hwd he
     refine Ev.bind (ih x hmx _ (hokm x hmx) (hstm x hmx) d' hd' hwd) ?_
     have h5 := hlx d'
     simp (disch := omega) only [if_pos]
     refine (ihr (a ++ nonD lits x d') (by rw [List.length_append]; omega)).eq ?_
     simp only [nonDs, he, List.append_assoc]
    by_cases hlast : i + 1 < ((partsOf p).length : Int)
    ·obtain ⟨y, r', hr⟩ : ∃ y r', r = y :: r' := by
      cases r with
      | nil => simp at hl; omega
      | cons y r' => exact ⟨y, r', rfl⟩
     have hy : rdAt zTExpForm (partsOf p) (i + 1) = y := by
      have e : (partsOf p).drop (i.toNat + 1) = y :: r' := by
       have := congrArg (List.drop 1) hdr
       rw [List.drop_drop] at this
       simpa [hr] using this
      have hlt : i.toNat + 1 < (partsOf p).length := by omega
      rw [List.drop_eq_getElem_cons hlt] at e
      rw [show i + 1 = ((i.toNat + 1 : Nat) : Int) by omega, rdAt_at _ _ _ hlt]
      exact (List.cons.inj e).1
     simp (disch := omega) only [if_pos hlast, if_pos, hy]
     refine Ev.bind (is_dots y) ?_
     cases hdy : isDots y with
     | true => simp only [if_true]; exact go (d + 1) (by omega) (by omega) (by simp [hr, headDots, hdy])
     | false => simp only [Bool.false_eq_true, if_false]; exact go d hd (by omega) (by simp [hr, headDots, hdy])
    ·have hr : r = [] := List.eq_nil_of_length_eq_zero (by omega)
     simp only [if_neg hlast]
     exact go d hd (by omega) (by simp [hr, headDots])
  have pr := parts_impl p (by omega) h1
  by_cases s3 : p.vSort = 3
  ·simp only [qg.f, if_neg n1, if_pos s3, qg.j8b, if_true, mTExpForm]
   exact Ev.bind pr body
  ·have s4 : p.vSort = 4 := by omega
   simp only [qg.f, if_neg n1, if_neg s3, decide_eq_true s4, qg.j8b, if_true, mTExpForm]
   exact Ev.bind pr body
end Go.Proofs.YtmcbhnbemhfifaaGreatDoor.RX
end
section
namespace Go.Proofs.YtmcbhnbemhfifaaGreatDoor.RX
open Go K
set_option autoImplicit false
set_option linter.unusedVariables false
set_option linter.unusedSimpArgs false
def repF (i r : Int) : List TExpForm → Int
 | [] => r
 | x :: l => repF (i + 1) (if isDots x then i - 1 else r) l
structure RepAt (l : List TExpForm) (r : Int) : Prop where
 hit : ∀ (i : Int) (x : TExpForm) (t : List TExpForm), 0 ≤ i → l.drop i.toNat = x :: t → (i = r ↔ headDots t = true)
 pos : 0 ≤ r ↔ 1 ≤ dotsN l
 low : -1 ≤ r
theorem noDots {l : List TExpForm} (h : dotsN l = 0) : ∀ y ∈ l, isDots y = false := by
 induction l with
 | nil => intro y hy; cases hy
 | cons x l ih =>
  have hp := (dotsN_pos l).1
  simp only [dotsN] at h
  cases hx : isDots x with
  | true => rw [if_pos hx] at h; omega
  | false =>
   rw [hx] at h
   simp only [Bool.false_eq_true, if_false] at h
   intro y hy
   rcases List.mem_cons.1 hy with rfl | hy
   ·exact hx
   ·exact ih (by omega) y hy
theorem headDots_of {l : List TExpForm} (h : ∀ y ∈ l, isDots y = false) : headDots l = false := by
 cases l with
 | nil => rfl
 | cons x l => exact h x (by simp)
theorem repF_no {l : List TExpForm} (h : dotsN l = 0) : ∀ i r, repF i r l = r := by
 induction l with
 | nil => intro i r; rfl
 | cons x l ih =>
  intro i r
  have hx := noDots h x (by simp)
  simp only [dotsN, hx, Bool.false_eq_true, if_false] at h
  simp only [repF, hx, Bool.false_eq_true, if_false]
  exact ih (by omega) _ _
theorem repF_one : ∀ (l : List TExpForm), dotsN l = 1 → ∃ a d b, l = a ++ d :: b ∧ isDots d = true ∧ dotsN a = 0 ∧ dotsN b = 0 ∧ ∀ i r, repF i r l = i + (a.length : Int) - 1
 | [], h => by simp [dotsN] at h
 | x :: l, h => by
  cases hx : isDots x with
  | true =>
   simp only [dotsN, hx, if_true] at h
   refine ⟨[], x, l, rfl, hx, rfl, by omega, fun i r => ?_⟩
   simp only [repF, hx, if_true, repF_no (show dotsN l = 0 by omega), List.length_nil]
   omega
  | false =>
   simp only [dotsN, hx, Bool.false_eq_true, if_false] at h
   obtain ⟨a, d, b, h1, h2, h3, h4, h5⟩ := repF_one l (by omega)
   refine ⟨x :: a, d, b, by rw [h1]; rfl, h2, by simp only [dotsN, hx, Bool.false_eq_true, if_false]; omega, h4, fun i r => ?_⟩
   simp only [repF, h5, List.length_cons]
   omega
theorem repF_ok {l : List TExpForm} (h1 : dotsN l ≤ 1) (h0 : headDots l = false) : RepAt l (repF 0 (-1) l) := by
 have hp := (dotsN_pos l).1
 by_cases h : dotsN l = 0
 ·rw [repF_no h]
  refine ⟨fun i x t hi hd => ⟨fun e => by omega, fun e => ?_⟩, ⟨fun e => by omega, fun e => by omega⟩, by omega⟩
  have : headDots t = false := headDots_of fun y hy => noDots h y (List.mem_of_mem_drop (by rw [hd]; exact List.mem_cons_of_mem _ hy))
  rw [this] at e; cases e
 ·obtain ⟨a, d, b, e1, e2, e3, e4, e5⟩ := repF_one l (by omega)
  rw [e5]
  have ha : a ≠ [] := by
   intro e
   rw [e1, e] at h0
   simp [headDots, e2] at h0
  have hal : 1 ≤ a.length := by
   rcases a with _ | ⟨y, a⟩
   ·exact absurd rfl ha
   ·simp
  refine ⟨fun i x t hi hd => ?_, ⟨fun _ => by omega, fun _ => by omega⟩, by omega⟩
  have ht : t = l.drop (i.toNat + 1) := by
   have := congrArg (List.drop 1) hd
   rw [List.drop_drop] at this
   simpa using this.symm
  rw [ht, e1]
  rcases Nat.lt_trichotomy (i.toNat + 1) a.length with hlt | heq | hgt
  ·refine ⟨fun e => by omega, fun e => ?_⟩
   rw [List.drop_append_of_le_length (by omega), List.drop_eq_getElem_cons hlt] at e
   have := noDots e3 a[i.toNat + 1] (List.getElem_mem _)
   simp only [List.cons_append, headDots] at e
   rw [this] at e; cases e
  ·refine ⟨fun _ => ?_, fun _ => by omega⟩
   rw [heq, List.drop_left]
   exact e2
  ·refine ⟨fun e => by omega, fun e => ?_⟩
   have : headDots ((a ++ d :: b).drop (i.toNat + 1)) = false := by
    refine headDots_of fun y hy => noDots e4 y ?_
    rw [List.drop_append, List.drop_eq_nil_of_le (by omega), List.nil_append, show i.toNat + 1 - a.length = (i.toNat - a.length) + 1 by omega, List.drop_succ_cons] at hy
    exact List.mem_of_mem_drop hy
   rw [this] at e; cases e
theorem rep_impl (parts : List TExpForm) (hl : (parts.length : Int) ≤ 1000000000) (x13 : Option TExpForm) (x14 : List TExpForm) (x15 : Option TExpForm) (lits : List TExpForm) (binds : List TExpBind) (s : Int) (q : Bool × List TExpForm × List TExpBind × GL)
  (hend : Ev (fun k => q7.l22 k parts x13 x14 x15 (repF 0 (-1) parts) parts (parts.length : Int) (parts.length : Int) lits binds s) q) :
  Ev (fun k => q7.l22 k parts x13 x14 x15 (-1) parts (parts.length : Int) 0 lits binds s) q := by
 refine goList parts (P := fun i suf => ∀ r, repF i r suf = repF 0 (-1) parts → Ev (fun k => q7.l22 k parts x13 x14 x15 r parts (parts.length : Int) i lits binds s) q) ?_ ?_ (-1) rfl
 ·intro r hr
  rw [show r = repF 0 (-1) parts from hr]
  exact hend
 ·intro i x t h0 h1 hx hm hl' _ _ ih r hr
  refine Ev.shift ?_
  simp (disch := omega) only [q7.l22, if_pos, hx, w64, eTExpForm_eq]
  refine Ev.bind (is_dots x) ?_
  cases hd : isDots x with
  | true =>
   simp only [if_true]
   exact ih _ (by rw [← hr]; simp only [repF, hd, if_true])
  | false =>
   simp only [Bool.false_eq_true, if_false]
   exact ih _ (by rw [← hr]; simp only [repF, hd, Bool.false_eq_true, if_false])
theorem put_last {α : Type} (l : List α) (z y : α) : (l ++ [z]).set ((l.length : Int).toNat) y = l ++ [y] := by simp
theorem add_impl (parts : List TExpForm) (x13 : Option TExpForm) (own : List TExpForm) (x15 : Option TExpForm) (rep oth at' x22 n : Int) (hn : 0 < n) (hat : 0 ≤ at') (hatb : at' ≤ 1000000000) (hnb : n ≤ 1000000000) (lits : List TExpForm) (binds : List TExpBind) (a1 : GL) (q : Bool × List TExpForm × List TExpBind × GL) :
  ∀ (todo done gd g : GL) (i : Int), (done.length : Int) = i → (gd.length : Int) = i → todo.length ≤ g.length → ((done ++ todo).length : Int) ≤ 1000000000 → (∀ y ∈ todo, (y.vMany.length : Int) ≤ 1000000000) →
  Ev (fun k => q7.l46 k parts x13 own x15 rep oth (at' + 1) x22 (n - 1) lits binds a1 (done ++ addG todo g)) q →
  Ev (fun k => q7.l52 k parts x13 own x15 rep oth at' x22 n ((done ++ todo).length : Int) i lits binds a1 (done ++ todo) (gd ++ g)) q := by
 intro todo
 induction todo with
 | nil =>
  intro done gd g i h1 h2 h3 h4 h5 hk
  refine Ev.shift ?_
  rw [List.append_nil] at h4 ⊢
  simp (disch := omega) only [q7.l52, if_neg, w64]
  have : addG [] g = [] := by cases g <;> rfl
  rw [this, List.append_nil] at hk
  exact hk
 | cons t todo ih =>
  intro done gd g i h1 h2 h3 h4 h5 hk
  cases g with
  | nil => simp at h3
  | cons y g =>
   have ht := h5 t (by simp)
   have hlen : ((done ++ t :: todo).length : Int) = i + 1 + (todo.length : Int) := by rw [List.length_append, List.length_cons]; omega
   have hlen2 : ((gd ++ y :: g).length : Int) = i + 1 + (g.length : Int) := by rw [List.length_append, List.length_cons]; omega
   have i0 : 0 ≤ i := by omega
   refine Ev.shift ?_
   have e1 : (done ++ t :: todo).getD i.toNat zTExpGot = t := mid_getD h1
   have e2 : (gd ++ y :: g).getD i.toNat zTExpGot = y := mid_getD h2
   rw [hlen] at h4
   simp (disch := first | omega | (simp only [List.length_append, List.length_singleton]; omega)) only [q7.l52, q7.d54b, if_pos, e1, e2, eTExpForm_eq, mTExpGot, put_last, hlen, hlen2, mid_set h1, w64]
   have := ih (done ++ [{ t with vMany := t.vMany ++ [y] }]) (gd ++ [y]) g (i + 1) (by rw [List.length_append, List.length_singleton]; omega) (by rw [List.length_append, List.length_singleton]; omega) (by simpa using h3) (by simp only [List.length_append, List.length_singleton]; omega) (fun z hz => h5 z (by simp [hz])) (by simpa [addG] using hk)
   have hlen3 : ((done ++ [{ t with vMany := t.vMany ++ [y] }] ++ todo).length : Int) = i + 1 + (todo.length : Int) := by simp only [List.length_append, List.length_singleton]; omega
   rw [hlen3] at this
   simpa using this
theorem addG_many (n : Int) : ∀ (a g : GL), (∀ y ∈ a, (y.vMany.length : Int) ≤ n) → ∀ y ∈ addG a g, (y.vMany.length : Int) ≤ n + 1
 | [], g, h, y, hy => by cases g <;> cases hy
 | x :: a, [], h, y, hy => by have := h y hy; omega
 | x :: a, z :: g, h, y, hy => by
  simp only [addG] at hy
  rcases List.mem_cons.1 hy with rfl | hy
  ·have := h x (by simp)
   simp only [List.length_append, List.length_singleton]; omega
  ·exact addG_many n a g (fun w hw => h w (by simp [hw])) y hy
def ends (lits : List TExpForm) (binds : List TExpBind) {α : Type} (E : α → Bool × List TExpForm × List TExpBind × GL) : Option α → Bool × List TExpForm × List TExpBind × GL
 | some a => E a
 | none => (false, lits, binds, [])
theorem many_impl (parts : List TExpForm) (x13 : Option TExpForm) (own : List TExpForm) (x15 : Option TExpForm) (rep oth x22 : Int) (lits : List TExpForm) (binds : List TExpBind) (a1 : GL) (hown : (own.length : Int) ≤ 500000000) (h0 : 0 ≤ rep) (h1 : rep < (parts.length : Int)) (p : TExpForm) (hp : rdAt zTExpForm parts rep = p)
  (m : TExpForm → Option GL) (N : Nat) (hN : (N : Int) ≤ 1000000000) (hm : ∀ f ∈ own, Ev (fun k => q7.f k p f lits binds) ((outM (m f)).1, lits, binds, (outM (m f)).2)) (hlen : ∀ f g, m f = some g → g.length = N)
  (E : GL → Bool × List TExpForm × List TExpBind × GL) :
  ∀ (xs : List TExpForm) (at' : Int) (ns : GL) (n : Int), 0 ≤ at' → (∃ r, own.drop at'.toNat = xs ++ r) → (xs.length : Int) = n → ns.length = N → (∀ y ∈ ns, (y.vMany.length : Int) ≤ at') →
  (∀ g : GL, g.length = N → Ev (fun k => q7.l46 k parts x13 own x15 rep oth (at' + n) x22 0 lits binds a1 g) (E g)) →
  Ev (fun k => q7.l46 k parts x13 own x15 rep oth at' x22 n lits binds a1 ns) (ends lits binds E (manyM m ns xs)) := by
 intro xs
 induction xs with
 | nil =>
  intro at' ns n ha hr hn hns hmm hk
  simp only [manyM, ends]
  have := hk ns hns
  have e : n = 0 := by simp at hn; omega
  subst e
  simpa using this
 | cons x xs ih =>
  intro at' ns n ha hr hn hns hmm hk
  obtain ⟨r, hr⟩ := hr
  have hlt : at'.toNat < own.length := by
   rcases Nat.lt_or_ge at'.toNat own.length with h | h
   ·exact h
   ·rw [List.drop_eq_nil_of_le h] at hr; simp at hr
  have hx : rdAt zTExpForm own at' = x := by
   rw [List.drop_eq_getElem_cons hlt] at hr
   rw [show at' = ((at'.toNat : Nat) : Int) by omega, rdAt_at _ _ _ hlt]
   exact (List.cons.inj hr).1
  have hxm : x ∈ own := by rw [← hx]; exact rdAt_mem _ _ _ ha (by omega)
  rw [List.length_cons] at hn
  have hxl : at' + n ≤ (own.length : Int) := by
   have := congrArg List.length hr
   simp only [List.length_drop, List.length_append, List.length_cons] at this
   omega
  refine Ev.shift ?_
  simp (disch := omega) only [q7.l46, if_pos, hp, hx, eTExpForm_eq]
  refine Ev.bind (hm x hxm) ?_
  simp only [manyM]
  cases hmx : m x with
  | none => simp only [outM, Bool.false_eq_true, not_false_eq_true, if_true, Option.bind_none, ends]; exact Ev.now _
  | some g =>
   simp only [outM, not_true, if_false, Option.bind_some]
   have hg := hlen x g hmx
   have := add_impl parts x13 own x15 rep oth at' x22 n (by omega) ha (by omega) (by omega) lits binds a1 (ends lits binds E (manyM m (addG ns g) xs)) ns [] [] g 0 rfl rfl (by omega) (by simp; omega) (fun y hy => by have := hmm y hy; omega) (by
    simp only [List.nil_append]
    refine ih (at' + 1) (addG ns g) (n - 1) (by omega) ⟨r, ?_⟩ (by omega) (by rw [addG_len]; exact hns) (addG_many at' ns g hmm) ?_
    ·rw [show (at' + 1).toNat = at'.toNat + 1 by omega, ← List.drop_drop, hr]; rfl
    ·intro g' hg'
     have := hk g' hg'
     rwa [show at' + 1 + (n - 1) = at' + n by omega])
   simpa using this
end Go.Proofs.YtmcbhnbemhfifaaGreatDoor.RX
end
section
namespace Go.Proofs.YtmcbhnbemhfifaaGreatDoor.RX
open Go K
set_option autoImplicit false
set_option linter.unusedVariables false
set_option linter.unusedSimpArgs false
abbrev nd1 (lits : List TExpForm) : TExpForm → GL := fun x => nonD lits x 1
theorem drop_rd {α : Type} {d : α} {l : List α} {i : Int} (h0 : 0 ≤ i) (h1 : i < (l.length : Int)) : l.drop i.toNat = rdAt d l i :: l.drop (i.toNat + 1) := by
 have h8 : i.toNat < l.length := by omega
 have := rdAt_at d l i.toNat h8
 rw [show ((i.toNat : Nat) : Int) = i by omega] at this
 rw [List.drop_eq_getElem_cons h8, this]
theorem nP_one {l : List TExpForm} (h : headDots l = false) (h1 : 1 ≤ dotsN l) : 1 ≤ nP l := by
 cases l with
 | nil => simp [dotsN] at h1
 | cons x l =>
  simp only [headDots] at h
  simp only [nP, h, Bool.false_eq_true, if_false]; omega
theorem seq_impl (parts : List TExpForm) (x13 : Option TExpForm) (own : List TExpForm) (x15 : Option TExpForm) (rep oth : Int) (lits : List TExpForm) (binds : List TExpBind) (m : TExpForm → TExpForm → Option GL)
  (hown : (own.length : Int) ≤ 500000000) (hpl : (parts.length : Int) ≤ 500000000) (hrep : RepAt parts rep) (hd1 : dotsN parts ≤ 1) (hd0 : headDots parts = false) (hoth : oth = (parts.length : Int) - (if 0 ≤ rep then 2 else 0))
  (hm : ∀ p ∈ parts, isDots p = false → ∀ f ∈ own, Ev (fun k => q7.f k p f lits binds) ((outM (m p f)).1, lits, binds, (outM (m p f)).2))
  (hn : ∀ p ∈ parts, Ev (fun k => qg.f k p 1 lits binds) (lits, binds, nonD lits p 1))
  (hlen : ∀ p ∈ parts, isDots p = false → ∀ f g, m p f = some g → g.length = (nms lits p).length)
  (hs : ((nmss lits parts).length : Int) ≤ 500000000) (E : GL × List TExpForm → Bool × List TExpForm × List TExpBind × GL)
  (hend : ∀ (at' : Int) (a1 : GL), 0 ≤ at' → at' ≤ (own.length : Int) → (a1.length : Int) ≤ 1000000000 → Ev (fun k => q7.l35 k parts x13 own x15 rep oth at' (parts.length : Int) lits binds a1) (E (a1, own.drop at'.toNat)))
  (hle : (nP parts : Int) - dotsN parts ≤ (own.length : Int)) :
  Ev (fun k => q7.l35 k parts x13 own x15 rep oth 0 0 lits binds []) (ends lits binds E (seqM m (nd1 lits) parts own)) := by
 let Q : Int → List TExpForm → Prop := fun i suf => ∀ (at' : Int) (a1 : GL), 0 ≤ at' → at' ≤ (own.length : Int) → (1 ≤ dotsN suf → at' = i) → (nP suf : Int) - dotsN suf ≤ (own.length : Int) - at' → (a1.length : Int) + ((nmss lits suf).length : Int) ≤ 1000000000 →
  Ev (fun k => q7.l35 k parts x13 own x15 rep oth at' i lits binds a1) (ends lits binds E ((seqM m (nd1 lits) suf (own.drop at'.toNat)).map (pre a1)))
 have key : ∀ (d : headDots parts = false), dotsN parts ≤ 1 → Q 0 parts := by
  intro d h1
  have := goList parts (P := fun i suf => dotsN suf ≤ 1 → if headDots suf = true then Q (i + 1) suf.tail else Q i suf) ?_ ?_ h1
  ·rw [d] at this; simpa using this
  ·intro _
   simp only [headDots, Bool.false_eq_true, if_false]
   intro at' a1 h2 h3 _ _ h6
   simp only [seqM, Option.map_some, pre, List.append_nil, ends]
   exact hend at' a1 h2 h3 (by simp only [nmss, List.length_nil] at h6; omega)
  ·intro i x t i0 i1 hx hxm hl hdr _ ih hds
   have hdp := (dotsN_pos t).1
   have hit := hrep.hit i x t i0 hdr
   have hnp := nP_dots t
   have hnm := nonD_len lits x 1
   cases hdx : isDots x with
   | true =>
    simp only [headDots, hdx, if_true, List.tail_cons]
    simp only [dotsN, hdx, if_true] at hds
    have hz : headDots t = false := headDots_of (noDots (by omega))
    have := ih (by omega)
    rw [hz] at this
    simpa using this
   | false =>
    simp only [headDots, hdx, Bool.false_eq_true, if_false]
    simp only [dotsN, hdx, Bool.false_eq_true, if_false] at hds
    have ih := ih (by omega)
    intro at' a1 h2 h3 h4 h5 h6
    simp only [dotsN, nP, hdx, Bool.false_eq_true, if_false] at h4 h5
    simp only [nmss, List.length_append] at h6
    refine Ev.shift ?_
    cases hdt : headDots t with
    | true =>
     obtain ⟨dd, ps, ht⟩ : ∃ dd ps, t = dd :: ps := by
      cases t with
      | nil => simp [headDots] at hdt
      | cons dd ps => exact ⟨dd, ps, rfl⟩
     subst ht
     have hdd : isDots dd = true := hdt
     rw [if_pos hdt] at ih
     simp only [List.tail_cons] at ih
     simp only [dotsN, nP, hdd, if_true] at hds h4 h5 hnp hdp
     have hps := (dotsN_pos ps).1
     have z : dotsN ps = 0 := by omega
     have hir : i = rep := hit.2 hdt
     have hai : at' = i := h4 (by omega)
     simp only [List.length_cons] at hl hnp
     rw [if_pos (show 0 ≤ rep by omega)] at hoth
     have hnps := nP_dots ps
     simp (disch := omega) only [q7.l35, if_pos, if_neg (decide_not_ne hir), w64, eTExpForm_eq]
     rw [show rdAt zTExpForm parts rep = x by rw [← hir]; exact hx _]
     refine Ev.bind (hn x hxm) ?_
     have hrl : (own.drop at'.toNat).length - nP (dd :: ps) = ((own.length : Int) - oth).toNat := by
      rw [List.length_drop]
      simp only [nP, hdd, if_true]
      omega
     have := many_impl parts x13 own x15 rep oth (i + 1) lits binds a1 hown (by omega) (by omega) x (by rw [← hir]; exact hx _) (m x) (nms lits x).length (by omega) (hm x hxm hdx) (hlen x hxm hdx)
      (fun g => ends lits binds E ((seqM m (nd1 lits) ps (own.drop (at' + ((own.length : Int) - oth)).toNat)).map (pre (a1 ++ g)))) ((own.drop at'.toNat).take ((own.length : Int) - oth).toNat) at' (nonD lits x 1) ((own.length : Int) - oth) (by omega) ⟨_, (List.take_append_drop _ _).symm⟩ (by rw [List.length_take, List.length_drop]; omega) hnm
      (fun y hy => by rw [nonD_many lits x 1 y hy]; simp; omega) ?_
     ·refine this.eq ?_
      simp only [seqM, hdx, hdt, hdd, Bool.false_eq_true, if_false, if_true]
      rw [hrl, List.drop_drop]
      rw [show (at' + ((own.length : Int) - oth)).toNat = at'.toNat + ((own.length : Int) - oth).toNat by omega]
      cases manyM (m x) (nonD lits x 1) ((own.drop at'.toNat).take ((own.length : Int) - oth).toNat) with
      | none => rfl
      | some g =>
       simp only [ends, Option.bind_some]
       cases seqM m (nd1 lits) ps (own.drop (at'.toNat + ((own.length : Int) - oth).toNat)) with
       | none => rfl
       | some q => simp only [Option.map_some, pre, List.append_assoc]
     ·intro g hg
      refine Ev.shift ?_
      simp (disch := omega) only [q7.l46, if_neg, if_pos, w64]
      have e := ih (at' + ((own.length : Int) - oth)) (a1 ++ g) (by omega) (by omega) (fun h => by omega) (by omega) (by
       have hn2 : ((nms lits dd).length : Int) = 0 := by
        rw [nms_mk]
        split
        ·simp [hdd]
        ·unfold isDots at hdd; simp at hdd; omega
       simp only [nmss, List.length_append] at h6
       rw [List.length_append]; omega)
      rwa [show i + 1 + 1 = i + 1 + 1 from rfl] at e
    | false =>
     rw [if_neg (by rw [hdt]; decide)] at ih
     have hir : ¬ i = rep := fun e => by rw [hit.1 e] at hdt; cases hdt
     have hlt : at' < (own.length : Int) := by
      by_cases z : 1 ≤ dotsN t
      ·have := nP_one hdt z; omega
      ·omega
     have hdo := drop_rd (d := zTExpForm) (l := own) h2 hlt
     have hym : rdAt zTExpForm own at' ∈ own := rdAt_mem _ _ _ h2 hlt
     generalize hy : rdAt zTExpForm own at' = y at hdo hym
     simp (disch := omega) only [q7.l35, if_pos, if_pos hir, hx, hy, w64, eTExpForm_eq]
     have hb := hm x hxm hdx y hym
     rw [hdo]
     simp only [seqM, hdx, hdt, Bool.false_eq_true, if_false]
     cases hmx : m x y with
     | none =>
      rw [hmx] at hb
      have hb : Ev (fun k => q7.f k x y lits binds) (false, lits, binds, []) := hb
      refine Ev.bind hb ?_
      simp only [Bool.false_eq_true, not_false_eq_true, if_true, Option.bind_none, Option.map_none, ends]; exact Ev.now _
     | some g =>
      rw [hmx] at hb
      have hb : Ev (fun k => q7.f k x y lits binds) (true, lits, binds, g) := hb
      refine Ev.bind hb ?_
      have hg := hlen x hxm hdx y g hmx
      simp only [not_true, if_false, Option.bind_some]
      simp (disch := omega) only [if_pos]
      have e := ih (at' + 1) (a1 ++ g) (by omega) (by omega) (fun h => by have := h4 (by omega); omega) (by omega) (by rw [List.length_append]; omega)
      refine e.eq ?_
      rw [show (at' + 1).toNat = at'.toNat + 1 by omega]
      cases seqM m (nd1 lits) t (own.drop (at'.toNat + 1)) with
      | none => rfl
      | some q => simp only [Option.map_some, pre, List.append_assoc]
 have := key hd0 hd1 0 [] (by omega) (by omega) (fun _ => rfl) (by omega) (by simp; omega)
 simp only [Int.toNat_zero, List.drop_zero] at this
 refine this.eq ?_
 cases seqM m (nd1 lits) parts own with
 | none => rfl
 | some q => rfl
end Go.Proofs.YtmcbhnbemhfifaaGreatDoor.RX
end
section
namespace Go.Proofs.YtmcbhnbemhfifaaGreatDoor.RX
open Go K
set_option autoImplicit false
set_option linter.unusedVariables false
set_option linter.unusedSimpArgs false
structure PatL (lits : List TExpForm) (p : TExpForm) (e : Int) : Prop where
 head : headDots (partsOf p) = false
 one : dotsN (partsOf p) ≤ 1
 fin : p.vSort = 4 → isDots (lastOf p) = false ∧ lastOf p ∈ p.vKids ∧ ((lastOf p).vSort = 1 ∨ (lastOf p).vSort = 2) ∧ partsOf p ++ [lastOf p] = p.vKids
 kids : ∀ x ∈ p.vKids, okf x (e + 1) = true ∧ stOk x = true
 sub : ∀ x ∈ partsOf p, x ∈ p.vKids
 plen : ((partsOf p).length : Int) ≤ (p.vKids.length : Int)
 pwid : wids (partsOf p) ≤ wids p.vKids
 nm : nms lits p = nmss lits (partsOf p) ++ (if p.vSort = 4 then nms lits (lastOf p) else [])
 sh : p.vSort = 3 ∨ (p.vSort = 4 ∧ 2 ≤ (p.vKids.length : Int))
theorem stOks_mem {l : List TExpForm} (h : stOks l = true) : ∀ x ∈ l, stOk x = true := by
 intro x hx
 induction l with
 | nil => cases hx
 | cons y l ihl =>
  simp only [stOks, Bool.and_eq_true] at h
  rcases List.mem_cons.1 hx with rfl | hx
  ·exact h.1
  ·exact ihl h.2 hx
theorem patL (lits : List TExpForm) {p : TExpForm} {e : Int} (hok : okf p e = true) (hst : stOk p = true) (h1 : ¬ p.vSort = 1) (h2 : ¬ p.vSort = 2) : PatL lits p e := by
 rcases okf_shape hok with ⟨h, _⟩ | ⟨h, _⟩ | ⟨hsh, hks⟩
 ·exact absurd h h1
 ·exact absurd h h2
 rw [stOk_mk, if_neg (by omega)] at hst
 simp only [Bool.and_eq_true, Bool.or_eq_true, Bool.not_eq_true', decide_eq_false_iff_not, gt1, decide_eq_true_eq] at hst
 obtain ⟨⟨g1, g2⟩, hle, hsk⟩ := hst
 have hsub : ∀ x ∈ partsOf p, x ∈ p.vKids := by
  intro x hx
  unfold partsOf at hx
  split at hx
  ·exact List.mem_of_mem_take hx
  ·exact hx
 have hfin : p.vSort = 4 → isDots (lastOf p) = false ∧ lastOf p ∈ p.vKids ∧ ((lastOf p).vSort = 1 ∨ (lastOf p).vSort = 2) ∧ partsOf p ++ [lastOf p] = p.vKids := by
  intro h4
  have h5 : 2 ≤ (p.vKids.length : Int) := by omega
  exact ⟨hle.resolve_left (by omega), rdAt_mem _ _ _ (by omega) (by omega), last_sort hok h4, ends_of h5 h4⟩
 refine ⟨g1, by omega, hfin, fun x hx => ⟨okfs_mem' hks x hx, stOks_mem hsk x hx⟩, hsub, ?_, ?_, ?_, hsh⟩
 ·unfold partsOf; split
  ·rw [List.length_take]; omega
  ·omega
 ·unfold partsOf; split
  ·exact wids_take_le _ _
  ·exact Int.le_refl _
 ·rw [nms_mk, if_neg h1]
  rcases hsh with h3 | ⟨h4, h5⟩
  ·have n4 : ¬ p.vSort = 4 := by omega
   simp only [partsOf, if_neg n4, List.append_nil]
  ·rw [if_pos h4]
   have := (hfin h4).2.2.2
   rw [← this, nmss_append]
   simp [nmss]
theorem nms_dots (lits : List TExpForm) {x : TExpForm} (h : isDots x = true) : nms lits x = [] := by
 rw [nms_mk]
 split
 ·simp [h]
 ·unfold isDots at h; simp at h; omega
theorem seqM_len (lits : List TExpForm) (m : TExpForm → TExpForm → Option GL) : ∀ (suf own : List TExpForm) (q : GL × List TExpForm), (∀ p ∈ suf, isDots p = false → ∀ f g, m p f = some g → g.length = (nms lits p).length) → seqM m (nd1 lits) suf own = some q → q.1.length = (nmss lits suf).length
 | [], own, q, _, h => by simp only [seqM, Option.some.injEq] at h; rw [← h]; rfl
 | p :: ps, own, q, hm, h => by
  have ih := fun own q => seqM_len lits m ps own q (fun x hx => hm x (List.mem_cons_of_mem _ hx))
  simp only [seqM] at h
  simp only [nmss, List.length_append]
  cases hd : isDots p with
  | true =>
   rw [hd] at h
   simp only [if_true] at h
   rw [nms_dots lits hd]
   simpa using ih own q h
  | false =>
   rw [hd] at h
   simp only [Bool.false_eq_true, if_false] at h
   have hp := hm p (by simp) hd
   split at h
   ·simp only [Option.bind_eq_some_iff, Option.map_eq_some_iff] at h
    obtain ⟨g, h1, q', h2, h3⟩ := h
    rw [← h3]
    simp only [pre, List.length_append]
    rw [ih _ _ h2, manyM_len _ _ _ _ h1, nonD_len]
   ·cases own with
    | nil => cases h
    | cons x own =>
     simp only [Option.bind_eq_some_iff, Option.map_eq_some_iff] at h
     obtain ⟨g, h1, q', h2, h3⟩ := h
     rw [← h3]
     simp only [pre, List.length_append]
     rw [ih _ _ h2, hp x g h1]
theorem mtn_len (lits : List TExpForm) (binds : List TExpBind) : ∀ (n : Nat) (p : TExpForm) (e : Int) (f : TExpForm) (g : GL), okf p e = true → stOk p = true → isDots p = false → mtn lits binds n p f = some g → g.length = (nms lits p).length := by
 intro n
 induction n with
 | zero => intro p e f g _ _ _ h; cases h
 | succ n ih =>
  intro p e f g hok hst hd h
  simp only [mtn] at h
  by_cases h1 : p.vSort = 1
  ·rw [if_pos h1] at h
   rw [nms_mk, if_pos h1, hd]
   unfold leafM at h
   cases hl : inB lits p with
   | true =>
    rw [hl] at h
    simp only [if_true] at h
    split at h
    ·split at h
     ·injection h with h; subst h; simp
     ·cases h
    ·cases h
   | false =>
    rw [hl] at h
    simp only [Bool.false_eq_true, if_false] at h
    cases hb : isBlank p with
    | true => rw [hb] at h; simp only [if_true, Option.some.injEq] at h; subst h; simp
    | false => rw [hb] at h; simp only [Bool.false_eq_true, if_false, Option.some.injEq] at h; subst h; simp
  rw [if_neg h1] at h
  by_cases h2 : p.vSort = 2
  ·rw [if_pos h2] at h
   have hk : p.vKids = [] := by
    rcases okf_shape hok with ⟨h', k⟩ | ⟨_, k⟩ | ⟨h', _⟩
    ·exact k
    ·exact k
    ·omega
   rw [nms_mk, if_neg h1, hk]
   split at h
   ·split at h
    ·injection h with h; subst h; rfl
    ·cases h
   ·cases h
  rw [if_neg h2] at h
  have P := patL lits hok hst h1 h2
  unfold listM at h
  split at h
  ·cases h
  simp only [Option.bind_eq_some_iff] at h
  obtain ⟨q, hq, h⟩ := h
  have hl := seqM_len lits _ _ _ _ (fun x hx hdx f' g' hg' => ih x (e + 1) f' g' (P.kids x (P.sub x hx)).1 (P.kids x (P.sub x hx)).2 hdx hg') hq
  rw [P.nm, List.length_append]
  split at h
  ·rename_i h4
   rw [if_pos h4]
   obtain ⟨f1, f2, _⟩ := P.fin h4
   simp only [Option.map_eq_some_iff] at h
   obtain ⟨g', hg', rfl⟩ := h
   rw [List.length_append, hl, ih _ _ _ _ (P.kids _ f2).1 (P.kids _ f2).2 f1 hg']
  ·rename_i h4
   rw [if_neg h4]
   injection h with h
   rw [← h, hl]
   rfl
theorem cnt_mem {l : List TExpForm} {x : TExpForm} (h : x ∈ l) : cnt x ≤ cnts l := by
 induction l with
 | nil => cases h
 | cons y l ih =>
  simp only [cnts]
  have := (cnts_le l).1
  have hy := (cnt_pos y).1
  rcases List.mem_cons.1 h with rfl | h
  ·omega
  ·have := ih h; omega
def outL (lits : List TExpForm) (binds : List TExpBind) (o : Option GL) : Bool × List TExpForm × List TExpBind × GL := ((outM o).1, lits, binds, (outM o).2)
theorem join_wid (ks : List TExpForm) (e : TExpForm) : wid (joinT ks e) ≤ 1 + wids ks + wid e := by
 have := wids_len ks
 have hp := wid_parts e
 unfold joinT
 split
 ·omega
 ·split
  ·rw [wid_c, wids_append]; simp; omega
  ·rw [wid_c, wids_append, wids_one]; simp; omega
theorem stands_impl (a b : ByteArray × Int) (t u : ByteArray) (lits : List TExpForm) (binds : List TExpBind) :
  (if (b.2 = (1 : Int)) then (if (a.2 = (1 : Int)) then (if (b.1.toList = a.1.toList) then (some (true, lits, binds, ([] : GL))) else (if (b.2 = (0 : Int)) then (if (a.2 = (0 : Int)) then (some ((decide (u.toList = t.toList)), lits, binds, [])) else (some (false, lits, binds, []))) else (some (false, lits, binds, [])))) else (if (b.2 = (0 : Int)) then (if (a.2 = (0 : Int)) then (some ((decide (u.toList = t.toList)), lits, binds, [])) else (some (false, lits, binds, []))) else (some (false, lits, binds, [])))) else (if (b.2 = (0 : Int)) then (if (a.2 = (0 : Int)) then (some ((decide (u.toList = t.toList)), lits, binds, [])) else (some (false, lits, binds, []))) else (some (false, lits, binds, []))))
   = some (outL lits binds (if st2 a b t u = true then some [] else none)) := by
 unfold st2
 by_cases b1 : b.2 = 1
 ·have b0 : ¬ b.2 = 0 := by omega
  by_cases a1 : a.2 = 1
  ·by_cases n : b.1.toList = a.1.toList <;> simp [b1, a1, n, outL, outM]
  ·simp [b1, a1, outL, outM]
 ·by_cases b0 : b.2 = 0
  ·by_cases a0 : a.2 = 0
   ·by_cases n : u.toList = t.toList <;> simp [b0, a0, n, outL, outM]
   ·simp [b0, a0, outL, outM]
  ·simp [b1, b0, outL, outM]
def endE (lits : List TExpForm) (binds : List TExpBind) (m : TExpForm → TExpForm → Option GL) (eo lo : Option TExpForm) (q : GL × List TExpForm) : Bool × List TExpForm × List TExpBind × GL :=
 outL lits binds (match eo with | some y => (m y (leftT q.2 lo)).map (q.1 ++ ·) | none => some q.1)
theorem end_impl (parts own : List TExpForm) (eo lo : Option TExpForm) (rep oth : Int) (lits : List TExpForm) (binds : List TExpBind) (m : TExpForm → TExpForm → Option GL) (at' : Int) (a1 : GL) (h0 : 0 ≤ at') (h1 : at' ≤ (own.length : Int)) (ha : (a1.length : Int) ≤ 1000000000)
  (hown : (own.length : Int) ≤ 500000000) (how : wids own ≤ 400000000) (hlo : ∀ y, lo = some y → wid y ≤ 400000000)
  (hm : ∀ y, eo = some y → ∀ f', wid f' ≤ 1000000000 → Ev (fun k => q7.f k y f' lits binds) (outL lits binds (m y f')))
  (hml : ∀ y, eo = some y → ∀ f' g, m y f' = some g → (g.length : Int) ≤ 100000000) :
  Ev (fun k => q7.l35 k parts eo own lo rep oth at' (parts.length : Int) lits binds a1) (endE lits binds m eo lo (a1, own.drop at'.toNat)) := by
 have nl : ¬ (parts.length : Int) < (parts.length : Int) := Int.lt_irrefl _
 refine Ev.shift ?_
 cases eo with
 | none =>
  simp only [q7.l35, if_neg nl, Option.isSome, if_true, endE]
  exact Ev.now _
 | some y =>
  have hdrop : (own.take (own.length : Int).toNat).drop at'.toNat = own.drop at'.toNat := by rw [Int.toNat_natCast, List.take_length]
  have ns : ¬ (Option.isSome (some y) = false) := by simp
  have hdw : wids (own.drop at'.toNat) ≤ 400000000 ∧ ((own.drop at'.toNat).length : Int) ≤ 500000000 := by
   have := wids_append (own.take at'.toNat) (own.drop at'.toNat)
   rw [List.take_append_drop] at this
   have h9 := (wids_len (own.take at'.toNat)).1
   rw [List.length_drop]
   omega
  have go : ∀ z : TExpForm, wid z ≤ 1000000000 → z = leftT (own.drop at'.toNat) lo → Ev (fun k => q7.j63 k (some y) lits binds a1 z.vSort z.vText z.vScopes z.vFrom z.vKids) (endE lits binds m (some y) lo (a1, own.drop at'.toNat)) := by
   intro z hz e
   simp only [q7.j63, q7.j63b, Option.bind_some, eTExpForm_eq, mTExpForm, endE]
   have hb := hm y rfl z hz
   have hl := hml y rfl z
   rw [← e]
   cases hmz : m y z with
   | none =>
    rw [hmz] at hb
    have hb : Ev (fun k => q7.f k y z lits binds) (false, lits, binds, []) := hb
    refine Ev.bind hb ?_
    simp only [Bool.false_eq_true, not_false_eq_true, if_true]
    exact Ev.now _
   | some g =>
    rw [hmz] at hb
    have hb : Ev (fun k => q7.f k y z lits binds) (true, lits, binds, g) := hb
    have hg := hl g hmz
    refine Ev.bind hb ?_
    simp only [not_true, if_false]
    rw [if_pos (by omega)]
    exact Ev.now _
  have c1 : at' ≤ (own.length : Int) := h1
  have c2 : (own.length : Int) ≤ (own.length : Int) := Int.le_refl _
  simp only [q7.l35, if_neg nl, if_neg ns, if_pos h0, if_pos c1, if_pos c2, hdrop]
  cases lo with
  | none =>
   simp only [Option.isSome, Bool.false_eq_true, if_false]
   exact go ⟨3, ByteArray.empty, [], 0, own.drop at'.toNat⟩ (by rw [wid_c]; simp; omega) rfl
  | some l =>
   simp only [Option.isSome, if_true, Option.bind_some, eTExpForm_eq]
   have hwl := hlo l rfl
   refine Ev.bind (join_impl (own.drop at'.toNat) l (by omega) (by omega)) ?_
   exact go (joinT (own.drop at'.toNat) l) (by have := join_wid (own.drop at'.toNat) l; omega) rfl
theorem match_impl (lits : List TExpForm) (binds : List TExpBind) (hlit : Sml lits) (hb : SmlB binds) : ∀ (n : Nat) (p : TExpForm) (e : Int) (f : TExpForm), cnt p ≤ (n : Int) → okf p e = true → stOk p = true → (p.vSort = 3 ∨ p.vSort = 4 → ∃ d, okf f d = true ∧ wid f ≤ 300000000) → wid p ≤ 100000000 → wid f ≤ 1000000000 →
  Ev (fun k => q7.f k p f lits binds) (outL lits binds (mtn lits binds n p f)) := by
 intro n
 induction n with
 | zero => intro p e f hc; have := (cnt_pos p).1; omega
 | succ n ih =>
  intro p e f hc hok hst hf hwp hwf
  have hpp := wid_parts p
  have hpf := wid_parts f
  refine Ev.shift ?_
  by_cases h1 : p.vSort = 1
  ·have b2 : (p.vText.toList = (ByteArray.mk #[95]).toList) ↔ bytesOf p.vText = [95] := lit_eq _ _ (by decide)
   have e2 : isBlank p = decide (bytesOf p.vText = [95]) := by simp [isBlank, h1]
   simp only [q7.f, if_pos h1, eTExpForm_eq, mtn, leafM]
   refine Ev.bind (in_impl lits p hlit) ?_
   cases inB lits p with
   | true =>
    simp only [if_true]
    by_cases f1 : f.vSort = 1
    ·simp only [if_neg (decide_not_ne f1), if_pos f1, q7.j8, mTExpForm]
     refine Ev.bind (find_impl binds hb f (by omega) f1) ?_
     refine Ev.bind (find_impl binds hb p (by omega) h1) ?_
     simp only [stands_impl]
     exact Ev.now _
    ·simp only [if_pos f1, if_neg f1]
     exact Ev.now _
   | false =>
    simp only [Bool.false_eq_true, if_false]
    rw [e2]
    by_cases d2 : bytesOf p.vText = [95]
    ·simp only [if_pos (b2.2 d2), decide_eq_true d2, if_true]
     exact Ev.now _
    ·have d2' : ¬ p.vText.toList = (ByteArray.mk #[95]).toList := fun h => d2 (b2.1 h)
     simp only [if_neg d2', decide_eq_false d2, Bool.false_eq_true, if_false, q7.d13, mTExpForm]
     refine Ev.bind (icopy p (by omega)) ?_
     refine Ev.bind (icopy f (by omega)) ?_
     simp only [eTExpForm_eq]
     exact Ev.now _
  by_cases h2 : p.vSort = 2
  ·simp only [q7.f, if_neg h1, if_pos h2, mtn]
   by_cases f2 : f.vSort = 2
   ·simp only [if_pos f2]
    by_cases t : f.vText.toList = p.vText.toList
    ·simp only [if_pos t, decide_eq_true t]; exact Ev.now _
    ·simp only [if_neg t, decide_eq_false t]; exact Ev.now _
   ·simp only [if_neg f2]; exact Ev.now _
  have P := patL lits hok hst h1 h2
  obtain ⟨d, hokf, hwf3⟩ := hf (by have := P.sh; omega)
  have hnpl := nP_dots (partsOf p)
  have hdp := (dotsN_pos (partsOf p)).1
  have hoks : ∀ y ∈ ownOf f, okf y (d + 1) = true ∧ wid y ≤ 300000000 := by
   intro y hy
   unfold ownOf at hy
   split at hy
   ·rename_i hs
    have hmem : y ∈ f.vKids := by
     unfold partsOf at hy
     split at hy
     ·exact List.mem_of_mem_take hy
     ·exact hy
    have hwy := wids_mem hmem
    rcases okf_shape hokf with ⟨h', _⟩ | ⟨h', _⟩ | ⟨_, h'⟩
    ·omega
    ·omega
    ·exact ⟨okfs_mem' h' y hmem, by omega⟩
   ·cases hy
  have hown : ((ownOf f).length : Int) ≤ 500000000 ∧ wids (ownOf f) ≤ 400000000 := by
   unfold ownOf
   split
   ·unfold partsOf
    split
    ·have := wids_take_le f.vKids (f.vKids.length - 1)
     rw [List.length_take]; omega
    ·omega
   ·simp [wids]
  have hrep := repF_ok P.one P.head
  generalize hr : repF 0 (-1) (partsOf p) = rep at hrep
  have hoth : least p = ((partsOf p).length : Int) - (if 0 ≤ rep then 2 else 0) := by
   unfold least
   have := hrep.pos
   have := P.one
   split <;> omega
  have hpl := P.plen
  have hpw := P.pwid
  have hnm := (nmss_facts lits (partsOf p)).1
  have hck : cnt p = 1 + cnts p.vKids := cnt_mk p
  have hsub : ∀ x ∈ p.vKids, cnt x ≤ (n : Int) ∧ wid x ≤ 100000000 := fun x hx => ⟨by have := cnt_mem hx; omega, by have := wids_mem hx; omega⟩
  have hlenm : ∀ x ∈ p.vKids, isDots x = false → ∀ f' g, mtn lits binds n x f' = some g → g.length = (nms lits x).length := fun x hx hd f' g hg => mtn_len lits binds n x (e + 1) f' g (P.kids x hx).1 (P.kids x hx).2 hd hg
  have hlo : ∀ y, lastO f = some y → wid y ≤ 400000000 := by
   intro y hy
   unfold lastO at hy
   split at hy
   ·cases hy
   ·split at hy
    ·rename_i s4
     injection hy with hy
     rw [← hy]
     rcases okf_shape hokf with ⟨h', _⟩ | ⟨h', _⟩ | ⟨h', _⟩
     ·omega
     ·omega
     ·have hmem : lastOf f ∈ f.vKids := rdAt_mem _ _ _ (by omega) (by omega)
      have := wids_mem hmem; omega
    ·injection hy with hy
     rw [← hy]; omega
  have fine : (nP (partsOf p) : Int) - dotsN (partsOf p) ≤ ((ownOf f).length : Int) → Ev (fun k => q7.l35 k (partsOf p) (if p.vSort = 4 then some (lastOf p) else none) (ownOf f) (lastO f) rep (least p) 0 0 lits binds []) (ends lits binds (endE lits binds (mtn lits binds n) (if p.vSort = 4 then some (lastOf p) else none) (lastO f)) (seqM (mtn lits binds n) (nd1 lits) (partsOf p) (ownOf f))) := by
   intro hle
   have heo : ∀ y, (if p.vSort = 4 then some (lastOf p) else none) = some y → p.vSort = 4 ∧ y = lastOf p := by
    intro y hy
    split at hy
    ·rename_i s4; injection hy with hy; exact ⟨s4, hy.symm⟩
    ·cases hy
   refine seq_impl (partsOf p) _ (ownOf f) _ rep (least p) lits binds (mtn lits binds n) hown.1 (by omega) hrep P.one P.head hoth (fun x hx hd y hy => ?_) (fun x hx => ?_) (fun x hx hd f' g hg => hlenm x (P.sub x hx) hd f' g hg) (by omega) _ (fun at' a1 g3 g4 g5 => ?_) hle
   ·have hk := P.kids x (P.sub x hx)
    exact ih x (e + 1) y (hsub x (P.sub x hx)).1 hk.1 hk.2 (fun _ => ⟨d + 1, hoks y hy⟩) (hsub x (P.sub x hx)).2 (by have := (hoks y hy).2; omega)
   ·have hk := P.kids x (P.sub x hx)
    exact none_impl lits binds hlit x (e + 1) hk.1 hk.2 1 (by omega) (by have := (hsub x (P.sub x hx)).2; omega)
   ·refine end_impl (partsOf p) (ownOf f) _ (lastO f) rep (least p) lits binds (mtn lits binds n) at' a1 g3 g4 g5 hown.1 hown.2 hlo (fun y hy f' hf' => ?_) (fun y hy f' g hg => ?_)
    ·obtain ⟨s4, rfl⟩ := heo y hy
     obtain ⟨l1, l2, l3, _⟩ := P.fin s4
     exact ih (lastOf p) (e + 1) f' (hsub _ l2).1 (P.kids _ l2).1 (P.kids _ l2).2 (fun h => by omega) (hsub _ l2).2 hf'
    ·obtain ⟨s4, rfl⟩ := heo y hy
     obtain ⟨l1, l2, l3, _⟩ := P.fin s4
     rw [hlenm _ l2 l1 f' g hg]
     have := (nms_facts lits (lastOf p)).1
     have := (hsub _ l2).2
     omega
  have same : ends lits binds (endE lits binds (mtn lits binds n) (if p.vSort = 4 then some (lastOf p) else none) (lastO f)) (seqM (mtn lits binds n) (nd1 lits) (partsOf p) (ownOf f)) = outL lits binds ((seqM (mtn lits binds n) (nd1 lits) (partsOf p) (ownOf f)).bind fun q => if p.vSort = 4 then (mtn lits binds n (lastOf p) (leftT q.2 (lastO f))).map (q.1 ++ ·) else some q.1) := by
   cases seqM (mtn lits binds n) (nd1 lits) (partsOf p) (ownOf f) with
   | none => rfl
   | some q =>
    simp only [ends, endE, Option.bind_some]
    by_cases s4 : p.vSort = 4
    ·simp only [if_pos s4]
    ·simp only [if_neg s4]
  rw [same] at fine
  have loop : ∀ s : Int, s = p.vSort → ¬ (p.vSort = 3 ∧ ¬ f.vSort = 3) → Ev (fun k => q7.l22 k (partsOf p) (if p.vSort = 4 then some (lastOf p) else none) (ownOf f) (lastO f) (-1) (partsOf p) ((partsOf p).length : Int) 0 lits binds s) (outL lits binds (mtn lits binds (n + 1) p f)) := by
   intro s hs hns
   subst hs
   refine rep_impl (partsOf p) (by omega) _ _ _ lits binds p.vSort _ ?_
   rw [hr]
   refine Ev.shift ?_
   have nl : ¬ ((partsOf p).length : Int) < ((partsOf p).length : Int) := Int.lt_irrefl _
   have step : Ev (fun k => q7.j30 k (partsOf p) (if p.vSort = 4 then some (lastOf p) else none) (ownOf f) (lastO f) rep (least p) lits binds p.vSort) (outL lits binds (mtn lits binds (n + 1) p f)) := by
    have hm1 : mtn lits binds (n + 1) p f = if badL p f = true then none else (seqM (mtn lits binds n) (nd1 lits) (partsOf p) (ownOf f)).bind fun q => if p.vSort = 4 then (mtn lits binds n (lastOf p) (leftT q.2 (lastO f))).map (q.1 ++ ·) else some q.1 := by
     simp only [mtn, if_neg h1, if_neg h2, listM]
    have b1 : (decide (p.vSort = 3) && !decide (f.vSort = 3)) = false := by
     by_cases u : p.vSort = 3 <;> by_cases v : f.vSort = 3 <;> simp_all
    have hbad : badL p f = (decide (((ownOf f).length : Int) < least p) || (decide (p.vSort = 3) && (decide (dotsN (partsOf p) = 0) && decide (least p < ((ownOf f).length : Int))))) := by
     unfold badL
     rw [b1, Bool.false_or]
    rw [hm1]
    simp only [q7.j30, q7.j30b, q7.j32b]
    by_cases c1 : ((ownOf f).length : Int) < least p
    ·have bt : badL p f = true := by rw [hbad, decide_eq_true c1, Bool.true_or]
     simp only [if_pos c1, if_pos bt]
     exact Ev.now _
    have fin := fine (by unfold least at c1; omega)
    simp only [if_neg c1]
    by_cases s3 : p.vSort = 3
    ·by_cases c2 : rep < 0
     ·have z : dotsN (partsOf p) = 0 := by
       have := hrep.pos
       omega
      by_cases c3 : least p < ((ownOf f).length : Int)
      ·have bt : badL p f = true := by rw [hbad, decide_eq_true s3, decide_eq_true z, decide_eq_true c3]; simp
       simp only [if_pos s3, if_pos c2, if_pos c3, if_pos bt]
       exact Ev.now _
      ·have bt : ¬ badL p f = true := by rw [hbad, decide_eq_false c1, decide_eq_false c3]; simp
       simp only [if_pos s3, if_pos c2, if_neg c3, if_neg bt]
       exact fin
     ·have z : ¬ dotsN (partsOf p) = 0 := by
       have := hrep.pos
       omega
      have bt : ¬ badL p f = true := by rw [hbad, decide_eq_false c1, decide_eq_false z]; simp
      simp only [if_pos s3, if_neg c2, if_neg bt]
      exact fin
    ·have bt : ¬ badL p f = true := by rw [hbad, decide_eq_false c1, decide_eq_false s3]; simp
     simp only [if_neg s3, if_neg bt] at fin ⊢
     exact fin
   by_cases c0 : 0 ≤ rep
   ·rw [if_pos c0] at hoth
    simp only [q7.l22, if_neg nl, if_pos c0]
    rw [hoth] at step
    rw [w64 (by omega) (by omega)]
    exact step
   ·rw [if_neg c0, Int.sub_zero] at hoth
    simp only [q7.l22, if_neg nl, if_neg c0]
    rw [hoth] at step
    exact step
  simp only [q7.f, if_neg h1, if_neg h2, eTExpForm_eq]
  refine Ev.bind (parts_impl p (by omega) P.sh) ?_
  refine Ev.bind (partsAny_impl f (by omega) hokf) ?_
  by_cases s3 : p.vSort = 3
  ·simp only [if_pos s3]
   by_cases f3 : f.vSort = 3
   ·simp only [if_neg (decide_not_ne f3)]
    exact loop _ rfl (fun h => h.2 f3)
   ·simp only [if_pos f3]
    have : mtn lits binds (n + 1) p f = none := by
     simp [mtn, h1, h2, listM, badL, s3, f3]
    rw [this]
    exact Ev.now _
  ·simp only [if_neg s3]
   exact loop _ rfl (fun h => s3 h.1)
end Go.Proofs.YtmcbhnbemhfifaaGreatDoor.RX
end
