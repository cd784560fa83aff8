/- MADE BY PROGRAM (gen.py) -/
import Derived.Test.YtmcbhnbemhfifaaDoorScRxLib
import Derived.Test.YtmcbhnbemhfifaaDoorScRxPz
namespace Go.Proofs.YtmcbhnbemhfifaaDoor.RX
open Go Go.RowKit
set_option autoImplicit false
def spec_l1Open.ct (k : Nat) : Ct sg := ⟨false, ⟨[(0, .one (.val (.sl 5 (.int .u8))))], []⟩, ⟨[(0, .one (.ptr 0 0))], [.cells [] [.val (.sl 5 (.int .u8)), .val (.int .i64)]]⟩, [(.sl 5 (.int .u8))], [(.sl 5 (.int .u8)), (.int .i64)], fun h => spec_l1Open.f k h⟩
def spec_l1Open.cts (k : Nat) : List (Nat × Ct sg) := []
def spec_l1Open.env (k : Nat) : Env sg (HL sg.S [(.sl 5 (.int .u8)), (.int .i64)]) := ⟨11, [], k, get (spec_l1Open.cts k), [], [], []⟩
theorem spec_l1Open.eq (k : Nat) (h : HL sg.S (spec_l1Open.ct k).its) : (spec_l1Open.ct k).F h = semF (spec_l1Open.ct k) (spec_l1Open.env k) Tryd.f50 (bodyOf Tryd.f50) h := by kernel_rfl
noncomputable def spec_l1Open.pts (m : Nat) := used spec_l1Open.env (ptsOf spec_l1Open.env (bodyOf Tryd.f50) (fun _ => retK Tryd.f50 (spec_l1Open.ct m)))
theorem spec_l1Open.n (m : Nat) : len (spec_l1Open.pts m) = 0 := by kernel_rfl
theorem spec_l1Open.good (m : Nat) : AllGood spec_l1Open.env (ptsOf spec_l1Open.env (bodyOf Tryd.f50) (fun _ => retK Tryd.f50 (spec_l1Open.ct m))) := allGood 0 (spec_l1Open.n m) (fun i hi => match i with | i + 0 => absurd hi (by omega))
theorem spec_l1Open.ordsOK : ordsB sg (spec_l1Open.env 0).ords (bodyOf Tryd.f50) = true := by kernel_rfl
theorem spec_l1Open.holds (k : Nat) : (spec_l1Open.ct k).Holds Tryd.prog 50 :=
  fn_ok (fn := Tryd.f50) (body := (bodyOf Tryd.f50)) sg.ok sg.tab sg.mixed (by kernel_rfl) (by kernel_rfl) (by kernel_rfl) (spec_l1Open.ct k) spec_l1Open.env k (fun _ => by kernel_rfl) (fun _ => rfl) (fun _ => by kernel_rfl) (fun _ => rfl) (fun _ => rfl) (fun _ => rfl) spec_l1Open.ordsOK (fun j hj => ctsOK (l := spec_l1Open.cts j) trivial) (spec_l1Open.good k) (spec_l1Open.eq k) (Nat.le_of_ble_eq_true (by kernel_rfl)) (by kernel_rfl) (by kernel_rfl) (by kernel_rfl) (fun h => by cases h)
def spec_l8Least.ct (k : Nat) : Ct sg := ⟨true, ⟨[(0, .one (.val (.int .i64))), (1, .one (.val (.int .i64)))], []⟩, ⟨[(0, .one (.val (.int .i64)))], []⟩, [(.int .i64), (.int .i64)], [(.int .i64)], fun h => spec_l8Least.f k h.1 h.2⟩
def spec_l8Least.cts (k : Nat) : List (Nat × Ct sg) := []
def spec_l8Least.env (k : Nat) : Env sg (HL sg.S [(.int .i64)]) := ⟨10, [], k, get (spec_l8Least.cts k), [], [], []⟩
theorem spec_l8Least.eq (k : Nat) (h : HL sg.S (spec_l8Least.ct k).its) : (spec_l8Least.ct k).F h = semF (spec_l8Least.ct k) (spec_l8Least.env k) Tryd.f94 (bodyOf Tryd.f94) h := by kernel_rfl
noncomputable def spec_l8Least.pts (m : Nat) := used spec_l8Least.env (ptsOf spec_l8Least.env (bodyOf Tryd.f94) (fun _ => retK Tryd.f94 (spec_l8Least.ct m)))
theorem spec_l8Least.n (m : Nat) : len (spec_l8Least.pts m) = 0 := by kernel_rfl
theorem spec_l8Least.good (m : Nat) : AllGood spec_l8Least.env (ptsOf spec_l8Least.env (bodyOf Tryd.f94) (fun _ => retK Tryd.f94 (spec_l8Least.ct m))) := allGood 0 (spec_l8Least.n m) (fun i hi => match i with | i + 0 => absurd hi (by omega))
theorem spec_l8Least.ordsOK : ordsB sg (spec_l8Least.env 0).ords (bodyOf Tryd.f94) = true := by kernel_rfl
theorem spec_l8Least.holds (k : Nat) : (spec_l8Least.ct k).Holds Tryd.prog 94 :=
  fn_ok (fn := Tryd.f94) (body := (bodyOf Tryd.f94)) sg.ok sg.tab sg.mixed (by kernel_rfl) (by kernel_rfl) (by kernel_rfl) (spec_l8Least.ct k) spec_l8Least.env k (fun _ => by kernel_rfl) (fun _ => rfl) (fun _ => by kernel_rfl) (fun _ => rfl) (fun _ => rfl) (fun _ => rfl) spec_l8Least.ordsOK (fun j hj => ctsOK (l := spec_l8Least.cts j) trivial) (spec_l8Least.good k) (spec_l8Least.eq k) (Nat.le_of_ble_eq_true (by kernel_rfl)) (by kernel_rfl) (by kernel_rfl) (by kernel_rfl) (fun _ => by kernel_rfl)
def spec_l1Rd_pick.p_j4 : Pat := ⟨[(0, .one (.ptr 0 0)), (1, .one (.val (.int .i64)))], [.cells [] [.val (.sl 5 (.int .u8)), .val (.int .i64)]]⟩
def spec_l1Rd_pick.c_j4 : Cut sg (HL sg.S [(.int .i64), (.sl 5 (.int .u8)), (.int .i64)]) := ⟨spec_l1Rd_pick.p_j4, [(.int .i64), (.sl 5 (.int .u8)), (.int .i64)], fun k h => spec_l1Rd_pick.j4 k h.1 h.2.1 h.2.2⟩
def spec_l1Rd_pick.ct (k : Nat) : Ct sg := ⟨false, ⟨[(0, .one (.ptr 0 0)), (1, .one (.val (.int .i64)))], [.cells [] [.val (.sl 5 (.int .u8)), .val (.int .i64)]]⟩, ⟨[(0, .one (.val (.int .i64)))], [.cells [] [.val (.sl 5 (.int .u8)), .val (.int .i64)]]⟩, [(.int .i64), (.sl 5 (.int .u8)), (.int .i64)], [(.int .i64), (.sl 5 (.int .u8)), (.int .i64)], fun h => spec_l1Rd_pick.f k h.1 h.2.1 h.2.2⟩
def spec_l1Rd_pick.cts (k : Nat) : List (Nat × Ct sg) := []
def spec_l1Rd_pick.env (k : Nat) : Env sg (HL sg.S [(.int .i64), (.sl 5 (.int .u8)), (.int .i64)]) := ⟨99, [0], k, get (spec_l1Rd_pick.cts k), [], [(4, spec_l1Rd_pick.c_j4)], [(7, [[0, 1, 2, 3, 4, 5, 6, 7, 8, 9, 10, 11, 12, 13, 14, 15, 16, 17, 18, 19, 20, 21, 22, 23, 24, 25, 26, 27, 28, 29, 30, 31, 32, 33, 34, 35, 36, 37, 38, 39, 40, 41, 42, 43, 44, 45]])]⟩
theorem spec_l1Rd_pick.eq (k : Nat) (h : HL sg.S (spec_l1Rd_pick.ct k).its) : (spec_l1Rd_pick.ct k).F h = semF (spec_l1Rd_pick.ct k) (spec_l1Rd_pick.env k) Tryd.f52 (bodyOf Tryd.f52) h := by kernel_rfl
noncomputable def spec_l1Rd_pick.pts (m : Nat) := used spec_l1Rd_pick.env (ptsOf spec_l1Rd_pick.env (bodyOf Tryd.f52) (fun _ => retK Tryd.f52 (spec_l1Rd_pick.ct m)))
theorem spec_l1Rd_pick.n (m : Nat) : len (spec_l1Rd_pick.pts m) = 1 := by kernel_rfl
theorem spec_l1Rd_pick.g0 (m : Nat) : AtGood spec_l1Rd_pick.env (nth (spec_l1Rd_pick.pts m) 0) := joinGood spec_l1Rd_pick.c_j4 (by kernel_rfl) (by kernel_rfl) (fun k h => by kernel_rfl)
theorem spec_l1Rd_pick.good (m : Nat) : AllGood spec_l1Rd_pick.env (ptsOf spec_l1Rd_pick.env (bodyOf Tryd.f52) (fun _ => retK Tryd.f52 (spec_l1Rd_pick.ct m))) := allGood 1 (spec_l1Rd_pick.n m) (fun i hi => match i with | 0 => spec_l1Rd_pick.g0 m | i + 1 => absurd hi (by omega))
theorem spec_l1Rd_pick.ordsOK : ordsB sg (spec_l1Rd_pick.env 0).ords (bodyOf Tryd.f52) = true := by kernel_rfl
theorem spec_l1Rd_pick.holds (k : Nat) : (spec_l1Rd_pick.ct k).Holds Tryd.prog 52 :=
  fn_ok (fn := Tryd.f52) (body := (bodyOf Tryd.f52)) sg.ok sg.tab sg.mixed (by kernel_rfl) (by kernel_rfl) (by kernel_rfl) (spec_l1Rd_pick.ct k) spec_l1Rd_pick.env k (fun _ => by kernel_rfl) (fun _ => rfl) (fun _ => by kernel_rfl) (fun _ => rfl) (fun _ => rfl) (fun _ => rfl) spec_l1Rd_pick.ordsOK (fun j hj => ctsOK (l := spec_l1Rd_pick.cts j) trivial) (spec_l1Rd_pick.good k) (spec_l1Rd_pick.eq k) (Nat.le_of_ble_eq_true (by kernel_rfl)) (by kernel_rfl) (by kernel_rfl) (by kernel_rfl) (fun h => by cases h)
def spec_l1Rd_of.ct (k : Nat) : Ct sg := ⟨false, ⟨[(0, .one (.ptr 0 0)), (1, .one (.val (.sl 9 .str)))], [.cells [] [.val (.sl 5 (.int .u8)), .val (.int .i64)]]⟩, ⟨[(0, .one (.val .str))], [.cells [] [.val (.sl 5 (.int .u8)), .val (.int .i64)]]⟩, [(.sl 9 .str), (.sl 5 (.int .u8)), (.int .i64)], [.str, (.sl 5 (.int .u8)), (.int .i64)], fun h => spec_l1Rd_of.f k h.1 h.2.1 h.2.2⟩
def spec_l1Rd_of.cts (k : Nat) : List (Nat × Ct sg) := [(52, spec_l1Rd_pick.ct k)]
def spec_l1Rd_of.env (k : Nat) : Env sg (HL sg.S [.str, (.sl 5 (.int .u8)), (.int .i64)]) := ⟨12, [0], k, get (spec_l1Rd_of.cts k), [], [], []⟩
theorem spec_l1Rd_of.eq (k : Nat) (h : HL sg.S (spec_l1Rd_of.ct k).its) : (spec_l1Rd_of.ct k).F h = semF (spec_l1Rd_of.ct k) (spec_l1Rd_of.env k) Tryd.f96 (bodyOf Tryd.f96) h := by kernel_rfl
noncomputable def spec_l1Rd_of.pts (m : Nat) := used spec_l1Rd_of.env (ptsOf spec_l1Rd_of.env (bodyOf Tryd.f96) (fun _ => retK Tryd.f96 (spec_l1Rd_of.ct m)))
theorem spec_l1Rd_of.n (m : Nat) : len (spec_l1Rd_of.pts m) = 0 := by kernel_rfl
theorem spec_l1Rd_of.good (m : Nat) : AllGood spec_l1Rd_of.env (ptsOf spec_l1Rd_of.env (bodyOf Tryd.f96) (fun _ => retK Tryd.f96 (spec_l1Rd_of.ct m))) := allGood 0 (spec_l1Rd_of.n m) (fun i hi => match i with | i + 0 => absurd hi (by omega))
theorem spec_l1Rd_of.ordsOK : ordsB sg (spec_l1Rd_of.env 0).ords (bodyOf Tryd.f96) = true := by kernel_rfl
theorem spec_l1Rd_of.holds (k : Nat) : (spec_l1Rd_of.ct k).Holds Tryd.prog 96 :=
  fn_ok (fn := Tryd.f96) (body := (bodyOf Tryd.f96)) sg.ok sg.tab sg.mixed (by kernel_rfl) (by kernel_rfl) (by kernel_rfl) (spec_l1Rd_of.ct k) spec_l1Rd_of.env k (fun _ => by kernel_rfl) (fun _ => rfl) (fun _ => by kernel_rfl) (fun _ => rfl) (fun _ => rfl) (fun _ => rfl) spec_l1Rd_of.ordsOK (fun j hj => ctsOK (l := spec_l1Rd_of.cts j) ⟨(spec_l1Rd_pick.holds j), trivial⟩) (spec_l1Rd_of.good k) (spec_l1Rd_of.eq k) (Nat.le_of_ble_eq_true (by kernel_rfl)) (by kernel_rfl) (by kernel_rfl) (by kernel_rfl) (fun h => by cases h)
def spec_l8Id.p_l3 : Pat := ⟨[(0, .one (.ptr 0 0)), (2, .one (.ptr 1 0)), (3, .one (.ptr 2 0)), (4, .one (.val (.int .i64)))], [.cells [] [.val (.sl 5 (.int .u8)), .val (.int .i64)], .cells [] [.any, .any, .any, .any, .any], .cells [] [.val (.int .i64), .val .str, .arr 3, .val (.int .i64), .val (.sl 29 (.st 0))], .arr 3 (.int .i64)]⟩
def spec_l8Id.c_l3 : Cut sg (HL sg.S [(.st 0), (.sl 5 (.int .u8)), (.int .i64)]) := ⟨spec_l8Id.p_l3, [(.int .i64), (.sl 5 (.int .u8)), (.int .i64), (.int .i64), .str, (.int .i64), (.sl 29 (.st 0)), (.sl 3 (.int .i64))], fun k h => spec_l8Id.l3 k h.1 h.2.1 h.2.2.1 h.2.2.2.1 h.2.2.2.2.1 h.2.2.2.2.2.1 h.2.2.2.2.2.2.1 h.2.2.2.2.2.2.2⟩
def spec_l8Id.ct (k : Nat) : Ct sg := ⟨false, ⟨[(0, .one (.ptr 0 0))], [.cells [] [.val (.sl 5 (.int .u8)), .val (.int .i64)]]⟩, ⟨[(0, .st 0)], [.cells [] [.val (.sl 5 (.int .u8)), .val (.int .i64)]]⟩, [(.sl 5 (.int .u8)), (.int .i64)], [(.st 0), (.sl 5 (.int .u8)), (.int .i64)], fun h => spec_l8Id.f k h.1 h.2⟩
def spec_l8Id.cts (k : Nat) : List (Nat × Ct sg) := [(52, spec_l1Rd_pick.ct k), (96, spec_l1Rd_of.ct k)]
def spec_l8Id.env (k : Nat) : Env sg (HL sg.S [(.st 0), (.sl 5 (.int .u8)), (.int .i64)]) := ⟨25, [0], k, get (spec_l8Id.cts k), [(3, spec_l8Id.c_l3)], [], []⟩
theorem spec_l8Id.eq (k : Nat) (h : HL sg.S (spec_l8Id.ct k).its) : (spec_l8Id.ct k).F h = semF (spec_l8Id.ct k) (spec_l8Id.env k) Tryd.f95 (bodyOf Tryd.f95) h := by kernel_rfl
noncomputable def spec_l8Id.pts (m : Nat) := used spec_l8Id.env (ptsOf spec_l8Id.env (bodyOf Tryd.f95) (fun _ => retK Tryd.f95 (spec_l8Id.ct m)))
theorem spec_l8Id.n (m : Nat) : len (spec_l8Id.pts m) = 1 := by kernel_rfl
theorem spec_l8Id.g0 (m : Nat) : AtGood spec_l8Id.env (nth (spec_l8Id.pts m) 0) := loopGood spec_l8Id.c_l3 (by kernel_rfl) (by kernel_rfl) (fun _ => rfl) (fun k h => by kernel_rfl)
theorem spec_l8Id.good (m : Nat) : AllGood spec_l8Id.env (ptsOf spec_l8Id.env (bodyOf Tryd.f95) (fun _ => retK Tryd.f95 (spec_l8Id.ct m))) := allGood 1 (spec_l8Id.n m) (fun i hi => match i with | 0 => spec_l8Id.g0 m | i + 1 => absurd hi (by omega))
theorem spec_l8Id.ordsOK : ordsB sg (spec_l8Id.env 0).ords (bodyOf Tryd.f95) = true := by kernel_rfl
theorem spec_l8Id.holds (k : Nat) : (spec_l8Id.ct k).Holds Tryd.prog 95 :=
  fn_ok (fn := Tryd.f95) (body := (bodyOf Tryd.f95)) sg.ok sg.tab sg.mixed (by kernel_rfl) (by kernel_rfl) (by kernel_rfl) (spec_l8Id.ct k) spec_l8Id.env k (fun _ => by kernel_rfl) (fun _ => rfl) (fun _ => by kernel_rfl) (fun _ => rfl) (fun _ => rfl) (fun _ => rfl) spec_l8Id.ordsOK (fun j hj => ctsOK (l := spec_l8Id.cts j) ⟨(spec_l1Rd_pick.holds j), (spec_l1Rd_of.holds j), trivial⟩) (spec_l8Id.good k) (spec_l8Id.eq k) (Nat.le_of_ble_eq_true (by kernel_rfl)) (by kernel_rfl) (by kernel_rfl) (by kernel_rfl) (fun h => by cases h)
def spec_l8Form.p_d14 : Pat := ⟨[(0, .one (.ptr 0 0)), (1, .one (.val (.int .i64))), (4, .one (.ptr 1 0)), (5, .one (.ptr 2 0)), (6, .one (.val (.int .i64)))], [.cells [] [.val (.sl 5 (.int .u8)), .val (.int .i64)], .cells [] [.any, .any, .any, .any, .any], .cells [] [.val (.int .i64), .val .str, .val (.sl 3 (.int .i64)), .val (.int .i64), .arr 3], .arr 29 (.st 0)]⟩
def spec_l8Form.c_d14 : Cut sg (HL sg.S [(.st 0), (.sl 5 (.int .u8)), (.int .i64)]) := ⟨spec_l8Form.p_d14, [(.int .i64), (.int .i64), (.sl 5 (.int .u8)), (.int .i64), (.int .i64), .str, (.sl 3 (.int .i64)), (.int .i64), (.sl 29 (.st 0))], fun k h => spec_l8Form.d14 k h.1 h.2.1 h.2.2.1 h.2.2.2.1 h.2.2.2.2.1 h.2.2.2.2.2.1 h.2.2.2.2.2.2.1 h.2.2.2.2.2.2.2.1 h.2.2.2.2.2.2.2.2⟩
def spec_l8Form.p_d15 : Pat := ⟨[(0, .one (.ptr 0 0)), (4, .one (.ptr 1 0)), (5, .one (.ptr 2 0))], [.cells [] [.val (.sl 5 (.int .u8)), .val (.int .i64)], .cells [] [.any, .any, .any, .any, .any], .cells [] [.val (.int .i64), .val .str, .val (.sl 3 (.int .i64)), .val (.int .i64), .arr 3], .arr 29 (.st 0)]⟩
def spec_l8Form.c_d15 : Cut sg (HL sg.S [(.st 0), (.sl 5 (.int .u8)), (.int .i64)]) := ⟨spec_l8Form.p_d15, [(.sl 5 (.int .u8)), (.int .i64), (.int .i64), .str, (.sl 3 (.int .i64)), (.int .i64), (.sl 29 (.st 0))], fun k h => spec_l8Form.d15 k h.1 h.2.1 h.2.2.1 h.2.2.2.1 h.2.2.2.2.1 h.2.2.2.2.2.1 h.2.2.2.2.2.2⟩
def spec_l8Form.p_d21 : Pat := ⟨[(0, .one (.ptr 0 0)), (1, .one (.val (.int .i64))), (4, .one (.ptr 1 0)), (7, .one (.ptr 2 0)), (8, .one (.val (.int .i64)))], [.cells [] [.val (.sl 5 (.int .u8)), .val (.int .i64)], .cells [] [.any, .any, .any, .any, .any], .cells [] [.val (.int .i64), .val .str, .val (.sl 3 (.int .i64)), .val (.int .i64), .arr 3], .arr 29 (.st 0)]⟩
def spec_l8Form.c_d21 : Cut sg (HL sg.S [(.st 0), (.sl 5 (.int .u8)), (.int .i64)]) := ⟨spec_l8Form.p_d21, [(.int .i64), (.int .i64), (.sl 5 (.int .u8)), (.int .i64), (.int .i64), .str, (.sl 3 (.int .i64)), (.int .i64), (.sl 29 (.st 0))], fun k h => spec_l8Form.d21 k h.1 h.2.1 h.2.2.1 h.2.2.2.1 h.2.2.2.2.1 h.2.2.2.2.2.1 h.2.2.2.2.2.2.1 h.2.2.2.2.2.2.2.1 h.2.2.2.2.2.2.2.2⟩
def spec_l8Form.p_j4 : Pat := ⟨[(0, .one (.ptr 0 0)), (1, .one (.val (.int .i64))), (4, .one (.ptr 1 0)), (14, .one (.val (.int .i64))), (15, .one (.val .bool))], [.cells [] [.val (.sl 5 (.int .u8)), .val (.int .i64)], .cells [] [.any, .any, .any, .any, .any]]⟩
def spec_l8Form.c_j4 : Cut sg (HL sg.S [(.st 0), (.sl 5 (.int .u8)), (.int .i64)]) := ⟨spec_l8Form.p_j4, [(.int .i64), (.int .i64), .bool, (.sl 5 (.int .u8)), (.int .i64)], fun k h => spec_l8Form.j4 k h.1 h.2.1 h.2.2.1 h.2.2.2.1 h.2.2.2.2⟩
def spec_l8Form.p_l12 : Pat := ⟨[(0, .one (.ptr 0 0)), (1, .one (.val (.int .i64))), (4, .one (.ptr 1 0)), (5, .one (.ptr 2 0)), (6, .one (.val (.int .i64)))], [.cells [] [.val (.sl 5 (.int .u8)), .val (.int .i64)], .cells [] [.any, .any, .any, .any, .any], .cells [] [.val (.int .i64), .val .str, .val (.sl 3 (.int .i64)), .val (.int .i64), .arr 3], .arr 29 (.st 0)]⟩
def spec_l8Form.c_l12 : Cut sg (HL sg.S [(.st 0), (.sl 5 (.int .u8)), (.int .i64)]) := ⟨spec_l8Form.p_l12, [(.int .i64), (.int .i64), (.sl 5 (.int .u8)), (.int .i64), (.int .i64), .str, (.sl 3 (.int .i64)), (.int .i64), (.sl 29 (.st 0))], fun k h => spec_l8Form.l12 k h.1 h.2.1 h.2.2.1 h.2.2.2.1 h.2.2.2.2.1 h.2.2.2.2.2.1 h.2.2.2.2.2.2.1 h.2.2.2.2.2.2.2.1 h.2.2.2.2.2.2.2.2⟩
def spec_l8Form.p_l19 : Pat := ⟨[(0, .one (.ptr 0 0)), (1, .one (.val (.int .i64))), (4, .one (.ptr 1 0)), (7, .one (.ptr 2 0)), (8, .one (.val (.int .i64)))], [.cells [] [.val (.sl 5 (.int .u8)), .val (.int .i64)], .cells [] [.any, .any, .any, .any, .any], .cells [] [.val (.int .i64), .val .str, .val (.sl 3 (.int .i64)), .val (.int .i64), .arr 3], .arr 29 (.st 0)]⟩
def spec_l8Form.c_l19 : Cut sg (HL sg.S [(.st 0), (.sl 5 (.int .u8)), (.int .i64)]) := ⟨spec_l8Form.p_l19, [(.int .i64), (.int .i64), (.sl 5 (.int .u8)), (.int .i64), (.int .i64), .str, (.sl 3 (.int .i64)), (.int .i64), (.sl 29 (.st 0))], fun k h => spec_l8Form.l19 k h.1 h.2.1 h.2.2.1 h.2.2.2.1 h.2.2.2.2.1 h.2.2.2.2.2.1 h.2.2.2.2.2.2.1 h.2.2.2.2.2.2.2.1 h.2.2.2.2.2.2.2.2⟩
def spec_l8Form.ct (k : Nat) : Ct sg := ⟨false, ⟨[(0, .one (.ptr 0 0)), (1, .one (.val (.int .i64)))], [.cells [] [.val (.sl 5 (.int .u8)), .val (.int .i64)]]⟩, ⟨[(0, .st 0)], [.cells [] [.val (.sl 5 (.int .u8)), .val (.int .i64)]]⟩, [(.int .i64), (.sl 5 (.int .u8)), (.int .i64)], [(.st 0), (.sl 5 (.int .u8)), (.int .i64)], fun h => spec_l8Form.f k h.1 h.2.1 h.2.2⟩
def spec_l8Form.cts (k : Nat) : List (Nat × Ct sg) := [(52, spec_l1Rd_pick.ct k), (82, spec_l8Form.ct k), (94, spec_l8Least.ct k), (95, spec_l8Id.ct k), (96, spec_l1Rd_of.ct k)]
def spec_l8Form.env (k : Nat) : Env sg (HL sg.S [(.st 0), (.sl 5 (.int .u8)), (.int .i64)]) := ⟨73, [0], k, get (spec_l8Form.cts k), [(12, spec_l8Form.c_l12), (19, spec_l8Form.c_l19)], [(100014, spec_l8Form.c_d14), (100015, spec_l8Form.c_d15), (100021, spec_l8Form.c_d21), (4, spec_l8Form.c_j4)], [(14, [[0, 2, 3, 4, 1, 5, 6, 7, 8, 9], [0, 2, 3, 4, 5, 1, 6, 7, 8, 9], [0, 2, 3, 4, 5, 6, 1, 7, 8, 9]]), (15, [[0, 2, 1, 3, 4, 5, 6, 7], [0, 2, 3, 1, 4, 5, 6, 7], [0, 2, 3, 4, 1, 5, 6, 7]]), (21, [[0, 2, 3, 4, 1, 5, 6, 7, 8, 9], [0, 2, 3, 4, 5, 1, 6, 7, 8, 9], [0, 2, 3, 4, 5, 6, 1, 7, 8, 9]])]⟩
theorem spec_l8Form.eq (k : Nat) (h : HL sg.S (spec_l8Form.ct (k + 1)).its) : (spec_l8Form.ct (k + 1)).F h = semF (spec_l8Form.ct (k + 1)) (spec_l8Form.env k) Tryd.f82 (bodyOf Tryd.f82) h := by kernel_rfl
noncomputable def spec_l8Form.pts (m : Nat) := used spec_l8Form.env (ptsOf spec_l8Form.env (bodyOf Tryd.f82) (fun _ => retK Tryd.f82 (spec_l8Form.ct m)))
theorem spec_l8Form.n (m : Nat) : len (spec_l8Form.pts m) = 12 := by kernel_rfl
theorem spec_l8Form.g0 (m : Nat) : AtGood spec_l8Form.env (nth (spec_l8Form.pts m) 0) := joinGood spec_l8Form.c_j4 (by kernel_rfl) (by kernel_rfl) (fun k h => by kernel_rfl)
theorem spec_l8Form.g1 (m : Nat) : AtGood spec_l8Form.env (nth (spec_l8Form.pts m) 1) := loopGood spec_l8Form.c_l12 (by kernel_rfl) (by kernel_rfl) (fun _ => rfl) (fun k h => by kernel_rfl)
theorem spec_l8Form.g2 (m : Nat) : AtGood spec_l8Form.env (nth (spec_l8Form.pts m) 2) := joinGood spec_l8Form.c_d14 (by kernel_rfl) (by kernel_rfl) (fun k h => by kernel_rfl)
theorem spec_l8Form.g3 (m : Nat) : AtGood spec_l8Form.env (nth (spec_l8Form.pts m) 3) := joinGood spec_l8Form.c_d14 (by kernel_rfl) (by kernel_rfl) (fun k h => by kernel_rfl)
theorem spec_l8Form.g4 (m : Nat) : AtGood spec_l8Form.env (nth (spec_l8Form.pts m) 4) := joinGood spec_l8Form.c_d14 (by kernel_rfl) (by kernel_rfl) (fun k h => by kernel_rfl)
theorem spec_l8Form.g5 (m : Nat) : AtGood spec_l8Form.env (nth (spec_l8Form.pts m) 5) := joinGood spec_l8Form.c_d15 (by kernel_rfl) (by kernel_rfl) (fun k h => by kernel_rfl)
theorem spec_l8Form.g6 (m : Nat) : AtGood spec_l8Form.env (nth (spec_l8Form.pts m) 6) := joinGood spec_l8Form.c_d15 (by kernel_rfl) (by kernel_rfl) (fun k h => by kernel_rfl)
theorem spec_l8Form.g7 (m : Nat) : AtGood spec_l8Form.env (nth (spec_l8Form.pts m) 7) := joinGood spec_l8Form.c_d15 (by kernel_rfl) (by kernel_rfl) (fun k h => by kernel_rfl)
theorem spec_l8Form.g8 (m : Nat) : AtGood spec_l8Form.env (nth (spec_l8Form.pts m) 8) := loopGood spec_l8Form.c_l19 (by kernel_rfl) (by kernel_rfl) (fun _ => rfl) (fun k h => by kernel_rfl)
theorem spec_l8Form.g9 (m : Nat) : AtGood spec_l8Form.env (nth (spec_l8Form.pts m) 9) := joinGood spec_l8Form.c_d21 (by kernel_rfl) (by kernel_rfl) (fun k h => by kernel_rfl)
theorem spec_l8Form.g10 (m : Nat) : AtGood spec_l8Form.env (nth (spec_l8Form.pts m) 10) := joinGood spec_l8Form.c_d21 (by kernel_rfl) (by kernel_rfl) (fun k h => by kernel_rfl)
theorem spec_l8Form.g11 (m : Nat) : AtGood spec_l8Form.env (nth (spec_l8Form.pts m) 11) := joinGood spec_l8Form.c_d21 (by kernel_rfl) (by kernel_rfl) (fun k h => by kernel_rfl)
theorem spec_l8Form.good (m : Nat) : AllGood spec_l8Form.env (ptsOf spec_l8Form.env (bodyOf Tryd.f82) (fun _ => retK Tryd.f82 (spec_l8Form.ct m))) := allGood 12 (spec_l8Form.n m) (fun i hi => match i with | 0 => spec_l8Form.g0 m | 1 => spec_l8Form.g1 m | 2 => spec_l8Form.g2 m | 3 => spec_l8Form.g3 m | 4 => spec_l8Form.g4 m | 5 => spec_l8Form.g5 m | 6 => spec_l8Form.g6 m | 7 => spec_l8Form.g7 m | 8 => spec_l8Form.g8 m | 9 => spec_l8Form.g9 m | 10 => spec_l8Form.g10 m | 11 => spec_l8Form.g11 m | i + 12 => absurd hi (by omega))
theorem spec_l8Form.ordsOK : ordsB sg (spec_l8Form.env 0).ords (bodyOf Tryd.f82) = true := by kernel_rfl
theorem spec_l8Form.all (k : Nat) : (spec_l8Form.ct k).Holds Tryd.prog 82 := by
  induction k using Nat.strongRecOn with
  | _ k ih => cases k with
    | zero => exact ⟨by kernel_rfl, by kernel_rfl, (fun h => by cases h), fun _ _ _ _ _ _ _ h => absurd (show none = some _ from h) (by intro e; cases e)⟩
    | succ k => exact fn_ok (fn := Tryd.f82) (body := (bodyOf Tryd.f82)) sg.ok sg.tab sg.mixed (by kernel_rfl) (by kernel_rfl) (by kernel_rfl) (spec_l8Form.ct (k + 1)) spec_l8Form.env k (fun _ => by kernel_rfl) (fun _ => rfl) (fun _ => by kernel_rfl) (fun _ => rfl) (fun _ => rfl) (fun _ => rfl) spec_l8Form.ordsOK (fun j hj => ctsOK (l := spec_l8Form.cts j) ⟨(spec_l1Rd_pick.holds j), (ih j (by omega)), (spec_l8Least.holds j), (spec_l8Id.holds j), (spec_l1Rd_of.holds j), trivial⟩) (spec_l8Form.good (k + 1)) (spec_l8Form.eq k) (Nat.le_of_ble_eq_true (by kernel_rfl)) (by kernel_rfl) (by kernel_rfl) (by kernel_rfl) (fun h => by cases h)
theorem spec_l8Form.holds (k : Nat) : (spec_l8Form.ct k).Holds Tryd.prog 82 := (spec_l8Form.all k)
def spec_l1Copy.ct (k : Nat) : Ct sg := ⟨false, ⟨[(0, .st 0)], []⟩, ⟨[(0, .agg [.val (.int .i64), .val .str, .arr 0, .val (.int .i64), .arr 1])], [.arr 3 (.int .i64), .arr 29 (.st 0)]⟩, [(.st 0)], [(.int .i64), .str, (.int .i64), (.sl 3 (.int .i64)), (.sl 29 (.st 0))], fun h => spec_l1Copy.f k h⟩
def spec_l1Copies.p_l3 : Pat := ⟨[(0, .one (.val (.sl 29 (.st 0)))), (3, .one (.arr 0)), (4, .one (.val (.int .i64)))], [.arr 29 (.st 0)]⟩
def spec_l1Copies.c_l3 : Cut sg (HL sg.S [(.sl 29 (.st 0))]) := ⟨spec_l1Copies.p_l3, [(.sl 29 (.st 0)), (.int .i64), (.sl 29 (.st 0))], fun k h => spec_l1Copies.l3 k h.1 h.2.1 h.2.2⟩
def spec_l1Copies.ct (k : Nat) : Ct sg := ⟨false, ⟨[(0, .one (.val (.sl 29 (.st 0))))], []⟩, ⟨[(0, .one (.arr 0))], [.arr 29 (.st 0)]⟩, [(.sl 29 (.st 0))], [(.sl 29 (.st 0))], fun h => spec_l1Copies.f k h⟩
def spec_l1Copy.cts (k : Nat) : List (Nat × Ct sg) := [(59, spec_l1Copies.ct k)]
def spec_l1Copy.env (k : Nat) : Env sg (HL sg.S [(.int .i64), .str, (.int .i64), (.sl 3 (.int .i64)), (.sl 29 (.st 0))]) := ⟨15, [], k, get (spec_l1Copy.cts k), [], [], []⟩
theorem spec_l1Copy.eq (k : Nat) (h : HL sg.S (spec_l1Copy.ct (k + 1)).its) : (spec_l1Copy.ct (k + 1)).F h = semF (spec_l1Copy.ct (k + 1)) (spec_l1Copy.env k) Tryd.f65 (bodyOf Tryd.f65) h := by kernel_rfl
noncomputable def spec_l1Copy.pts (m : Nat) := used spec_l1Copy.env (ptsOf spec_l1Copy.env (bodyOf Tryd.f65) (fun _ => retK Tryd.f65 (spec_l1Copy.ct m)))
theorem spec_l1Copy.n (m : Nat) : len (spec_l1Copy.pts m) = 0 := by kernel_rfl
theorem spec_l1Copy.good (m : Nat) : AllGood spec_l1Copy.env (ptsOf spec_l1Copy.env (bodyOf Tryd.f65) (fun _ => retK Tryd.f65 (spec_l1Copy.ct m))) := allGood 0 (spec_l1Copy.n m) (fun i hi => match i with | i + 0 => absurd hi (by omega))
theorem spec_l1Copy.ordsOK : ordsB sg (spec_l1Copy.env 0).ords (bodyOf Tryd.f65) = true := by kernel_rfl
def spec_l1Copies.cts (k : Nat) : List (Nat × Ct sg) := [(65, spec_l1Copy.ct k)]
def spec_l1Copies.env (k : Nat) : Env sg (HL sg.S [(.sl 29 (.st 0))]) := ⟨21, [], k, get (spec_l1Copies.cts k), [(3, spec_l1Copies.c_l3)], [], []⟩
theorem spec_l1Copies.eq (k : Nat) (h : HL sg.S (spec_l1Copies.ct (k + 1)).its) : (spec_l1Copies.ct (k + 1)).F h = semF (spec_l1Copies.ct (k + 1)) (spec_l1Copies.env k) Tryd.f59 (bodyOf Tryd.f59) h := by kernel_rfl
noncomputable def spec_l1Copies.pts (m : Nat) := used spec_l1Copies.env (ptsOf spec_l1Copies.env (bodyOf Tryd.f59) (fun _ => retK Tryd.f59 (spec_l1Copies.ct m)))
theorem spec_l1Copies.n (m : Nat) : len (spec_l1Copies.pts m) = 1 := by kernel_rfl
theorem spec_l1Copies.g0 (m : Nat) : AtGood spec_l1Copies.env (nth (spec_l1Copies.pts m) 0) := loopGood spec_l1Copies.c_l3 (by kernel_rfl) (by kernel_rfl) (fun _ => rfl) (fun k h => by kernel_rfl)
theorem spec_l1Copies.good (m : Nat) : AllGood spec_l1Copies.env (ptsOf spec_l1Copies.env (bodyOf Tryd.f59) (fun _ => retK Tryd.f59 (spec_l1Copies.ct m))) := allGood 1 (spec_l1Copies.n m) (fun i hi => match i with | 0 => spec_l1Copies.g0 m | i + 1 => absurd hi (by omega))
theorem spec_l1Copies.ordsOK : ordsB sg (spec_l1Copies.env 0).ords (bodyOf Tryd.f59) = true := by kernel_rfl
theorem spec_l1Copy.all (k : Nat) : (spec_l1Copy.ct k).Holds Tryd.prog 65 ∧ (spec_l1Copies.ct k).Holds Tryd.prog 59 := by
  induction k using Nat.strongRecOn with
  | _ k ih => cases k with
    | zero => exact ⟨⟨by kernel_rfl, by kernel_rfl, (fun h => by cases h), fun _ _ _ _ _ _ _ h => absurd (show none = some _ from h) (by intro e; cases e)⟩, ⟨by kernel_rfl, by kernel_rfl, (fun h => by cases h), fun _ _ _ _ _ _ _ h => absurd (show none = some _ from h) (by intro e; cases e)⟩⟩
    | succ k => exact ⟨fn_ok (fn := Tryd.f65) (body := (bodyOf Tryd.f65)) sg.ok sg.tab sg.mixed (by kernel_rfl) (by kernel_rfl) (by kernel_rfl) (spec_l1Copy.ct (k + 1)) spec_l1Copy.env k (fun _ => by kernel_rfl) (fun _ => rfl) (fun _ => by kernel_rfl) (fun _ => rfl) (fun _ => rfl) (fun _ => rfl) spec_l1Copy.ordsOK (fun j hj => ctsOK (l := spec_l1Copy.cts j) ⟨(ih j (by omega)).2, trivial⟩) (spec_l1Copy.good (k + 1)) (spec_l1Copy.eq k) (Nat.le_of_ble_eq_true (by kernel_rfl)) (by kernel_rfl) (by kernel_rfl) (by kernel_rfl) (fun h => by cases h), fn_ok (fn := Tryd.f59) (body := (bodyOf Tryd.f59)) sg.ok sg.tab sg.mixed (by kernel_rfl) (by kernel_rfl) (by kernel_rfl) (spec_l1Copies.ct (k + 1)) spec_l1Copies.env k (fun _ => by kernel_rfl) (fun _ => rfl) (fun _ => by kernel_rfl) (fun _ => rfl) (fun _ => rfl) (fun _ => rfl) spec_l1Copies.ordsOK (fun j hj => ctsOK (l := spec_l1Copies.cts j) ⟨(ih j (by omega)).1, trivial⟩) (spec_l1Copies.good (k + 1)) (spec_l1Copies.eq k) (Nat.le_of_ble_eq_true (by kernel_rfl)) (by kernel_rfl) (by kernel_rfl) (by kernel_rfl) (fun h => by cases h)⟩
theorem spec_l1Copy.holds (k : Nat) : (spec_l1Copy.ct k).Holds Tryd.prog 65 := (spec_l1Copy.all k).1
theorem spec_l1Copies.holds (k : Nat) : (spec_l1Copies.ct k).Holds Tryd.prog 59 := (spec_l1Copy.all k).2
def spec_l8Spoil.p_d12 : Pat := ⟨[(0, .one (.ptr 0 0)), (4, .one (.ptr 1 0)), (5, .one (.ptr 2 0))], [.cells [] [.val (.sl 5 (.int .u8)), .val (.int .i64)], .cells [] [.any, .any, .any, .any, .any], .cells [] [.val (.int .i64), .val .str, .arr 3, .val (.int .i64), .arr 4], .arr 3 (.int .i64), .arr 29 (.st 0)]⟩
def spec_l8Spoil.c_d12 : Cut sg (HL sg.S [(.st 0), (.sl 5 (.int .u8)), (.int .i64)]) := ⟨spec_l8Spoil.p_d12, [(.sl 5 (.int .u8)), (.int .i64), (.int .i64), .str, (.int .i64), (.sl 3 (.int .i64)), (.sl 29 (.st 0))], fun k h => spec_l8Spoil.d12 k h.1 h.2.1 h.2.2.1 h.2.2.2.1 h.2.2.2.2.1 h.2.2.2.2.2.1 h.2.2.2.2.2.2⟩
def spec_l8Spoil.p_l4 : Pat := ⟨[(4, .one (.ptr 1 0)), (5, .one (.ptr 2 0)), (6, .one (.val (.int .i64)))], [.cells [] [.val (.sl 5 (.int .u8)), .val (.int .i64)], .cells [] [.any, .any, .any, .any, .any], .cells [] [.val (.int .i64), .val .str, .arr 3, .val (.int .i64), .arr 4], .arr 3 (.int .i64), .arr 29 (.st 0)]⟩
def spec_l8Spoil.c_l4 : Cut sg (HL sg.S [(.st 0), (.sl 5 (.int .u8)), (.int .i64)]) := ⟨spec_l8Spoil.p_l4, [(.int .i64), (.sl 5 (.int .u8)), (.int .i64), (.int .i64), .str, (.int .i64), (.sl 3 (.int .i64)), (.sl 29 (.st 0))], fun k h => spec_l8Spoil.l4 k h.1 h.2.1 h.2.2.1 h.2.2.2.1 h.2.2.2.2.1 h.2.2.2.2.2.1 h.2.2.2.2.2.2.1 h.2.2.2.2.2.2.2⟩
def spec_l8Spoil.ct (k : Nat) : Ct sg := ⟨false, ⟨[(0, .one (.ptr 0 0)), (1, .st 0)], [.cells [] [.val (.sl 5 (.int .u8)), .val (.int .i64)]]⟩, ⟨[(0, .st 0)], [.cells [] [.val (.sl 5 (.int .u8)), .val (.int .i64)]]⟩, [(.st 0), (.sl 5 (.int .u8)), (.int .i64)], [(.st 0), (.sl 5 (.int .u8)), (.int .i64)], fun h => spec_l8Spoil.f k h.1 h.2.1 h.2.2⟩
def spec_l8Spoil.cts (k : Nat) : List (Nat × Ct sg) := [(52, spec_l1Rd_pick.ct k), (65, spec_l1Copy.ct k), (96, spec_l1Rd_of.ct k)]
def spec_l8Spoil.env (k : Nat) : Env sg (HL sg.S [(.st 0), (.sl 5 (.int .u8)), (.int .i64)]) := ⟨63, [0], k, get (spec_l8Spoil.cts k), [(4, spec_l8Spoil.c_l4)], [(100012, spec_l8Spoil.c_d12)], [(12, [[0, 3, 1, 2, 4, 5, 6, 7, 8, 9, 10], [0, 3, 1, 4, 2, 5, 6, 7, 8, 9, 10], [0, 3, 2, 1, 4, 5, 6, 7, 8, 9, 10], [0, 3, 2, 4, 5, 6, 1, 7, 8, 9, 10], [0, 3, 2, 4, 5, 6, 7, 1, 8, 9, 10], [0, 3, 4, 1, 2, 5, 6, 7, 8, 9, 10], [0, 3, 4, 2, 5, 6, 1, 7, 8, 9, 10], [0, 3, 4, 2, 5, 6, 7, 1, 8, 9, 10]])]⟩
theorem spec_l8Spoil.eq (k : Nat) (h : HL sg.S (spec_l8Spoil.ct k).its) : (spec_l8Spoil.ct k).F h = semF (spec_l8Spoil.ct k) (spec_l8Spoil.env k) Tryd.f83 (bodyOf Tryd.f83) h := by kernel_rfl
noncomputable def spec_l8Spoil.pts (m : Nat) := used spec_l8Spoil.env (ptsOf spec_l8Spoil.env (bodyOf Tryd.f83) (fun _ => retK Tryd.f83 (spec_l8Spoil.ct m)))
theorem spec_l8Spoil.n (m : Nat) : len (spec_l8Spoil.pts m) = 9 := by kernel_rfl
theorem spec_l8Spoil.g0 (m : Nat) : AtGood spec_l8Spoil.env (nth (spec_l8Spoil.pts m) 0) := joinGood spec_l8Spoil.c_d12 (by kernel_rfl) (by kernel_rfl) (fun k h => by kernel_rfl)
theorem spec_l8Spoil.g1 (m : Nat) : AtGood spec_l8Spoil.env (nth (spec_l8Spoil.pts m) 1) := joinGood spec_l8Spoil.c_d12 (by kernel_rfl) (by kernel_rfl) (fun k h => by kernel_rfl)
theorem spec_l8Spoil.g2 (m : Nat) : AtGood spec_l8Spoil.env (nth (spec_l8Spoil.pts m) 2) := joinGood spec_l8Spoil.c_d12 (by kernel_rfl) (by kernel_rfl) (fun k h => by kernel_rfl)
theorem spec_l8Spoil.g3 (m : Nat) : AtGood spec_l8Spoil.env (nth (spec_l8Spoil.pts m) 3) := joinGood spec_l8Spoil.c_d12 (by kernel_rfl) (by kernel_rfl) (fun k h => by kernel_rfl)
theorem spec_l8Spoil.g4 (m : Nat) : AtGood spec_l8Spoil.env (nth (spec_l8Spoil.pts m) 4) := joinGood spec_l8Spoil.c_d12 (by kernel_rfl) (by kernel_rfl) (fun k h => by kernel_rfl)
theorem spec_l8Spoil.g5 (m : Nat) : AtGood spec_l8Spoil.env (nth (spec_l8Spoil.pts m) 5) := joinGood spec_l8Spoil.c_d12 (by kernel_rfl) (by kernel_rfl) (fun k h => by kernel_rfl)
theorem spec_l8Spoil.g6 (m : Nat) : AtGood spec_l8Spoil.env (nth (spec_l8Spoil.pts m) 6) := joinGood spec_l8Spoil.c_d12 (by kernel_rfl) (by kernel_rfl) (fun k h => by kernel_rfl)
theorem spec_l8Spoil.g7 (m : Nat) : AtGood spec_l8Spoil.env (nth (spec_l8Spoil.pts m) 7) := joinGood spec_l8Spoil.c_d12 (by kernel_rfl) (by kernel_rfl) (fun k h => by kernel_rfl)
theorem spec_l8Spoil.g8 (m : Nat) : AtGood spec_l8Spoil.env (nth (spec_l8Spoil.pts m) 8) := loopGood spec_l8Spoil.c_l4 (by kernel_rfl) (by kernel_rfl) (fun _ => rfl) (fun k h => by kernel_rfl)
theorem spec_l8Spoil.good (m : Nat) : AllGood spec_l8Spoil.env (ptsOf spec_l8Spoil.env (bodyOf Tryd.f83) (fun _ => retK Tryd.f83 (spec_l8Spoil.ct m))) := allGood 9 (spec_l8Spoil.n m) (fun i hi => match i with | 0 => spec_l8Spoil.g0 m | 1 => spec_l8Spoil.g1 m | 2 => spec_l8Spoil.g2 m | 3 => spec_l8Spoil.g3 m | 4 => spec_l8Spoil.g4 m | 5 => spec_l8Spoil.g5 m | 6 => spec_l8Spoil.g6 m | 7 => spec_l8Spoil.g7 m | 8 => spec_l8Spoil.g8 m | i + 9 => absurd hi (by omega))
theorem spec_l8Spoil.ordsOK : ordsB sg (spec_l8Spoil.env 0).ords (bodyOf Tryd.f83) = true := by kernel_rfl
theorem spec_l8Spoil.holds (k : Nat) : (spec_l8Spoil.ct k).Holds Tryd.prog 83 :=
  fn_ok (fn := Tryd.f83) (body := (bodyOf Tryd.f83)) sg.ok sg.tab sg.mixed (by kernel_rfl) (by kernel_rfl) (by kernel_rfl) (spec_l8Spoil.ct k) spec_l8Spoil.env k (fun _ => by kernel_rfl) (fun _ => rfl) (fun _ => by kernel_rfl) (fun _ => rfl) (fun _ => rfl) (fun _ => rfl) spec_l8Spoil.ordsOK (fun j hj => ctsOK (l := spec_l8Spoil.cts j) ⟨(spec_l1Rd_pick.holds j), (spec_l1Copy.holds j), (spec_l1Rd_of.holds j), trivial⟩) (spec_l8Spoil.good k) (spec_l8Spoil.eq k) (Nat.le_of_ble_eq_true (by kernel_rfl)) (by kernel_rfl) (by kernel_rfl) (by kernel_rfl) (fun h => by cases h)
def spec_l8Any.ct (k : Nat) : Ct sg := ⟨false, ⟨[(0, .one (.ptr 0 0))], [.cells [] [.val (.sl 5 (.int .u8)), .val (.int .i64)]]⟩, ⟨[(0, .st 0)], [.cells [] [.val (.sl 5 (.int .u8)), .val (.int .i64)]]⟩, [(.sl 5 (.int .u8)), (.int .i64)], [(.st 0), (.sl 5 (.int .u8)), (.int .i64)], fun h => spec_l8Any.f k h.1 h.2⟩
def spec_l8Any.cts (k : Nat) : List (Nat × Ct sg) := [(52, spec_l1Rd_pick.ct k), (82, spec_l8Form.ct k), (83, spec_l8Spoil.ct k)]
def spec_l8Any.env (k : Nat) : Env sg (HL sg.S [(.st 0), (.sl 5 (.int .u8)), (.int .i64)]) := ⟨13, [0], k, get (spec_l8Any.cts k), [], [], []⟩
theorem spec_l8Any.eq (k : Nat) (h : HL sg.S (spec_l8Any.ct k).its) : (spec_l8Any.ct k).F h = semF (spec_l8Any.ct k) (spec_l8Any.env k) Tryd.f51 (bodyOf Tryd.f51) h := by kernel_rfl
noncomputable def spec_l8Any.pts (m : Nat) := used spec_l8Any.env (ptsOf spec_l8Any.env (bodyOf Tryd.f51) (fun _ => retK Tryd.f51 (spec_l8Any.ct m)))
theorem spec_l8Any.n (m : Nat) : len (spec_l8Any.pts m) = 0 := by kernel_rfl
theorem spec_l8Any.good (m : Nat) : AllGood spec_l8Any.env (ptsOf spec_l8Any.env (bodyOf Tryd.f51) (fun _ => retK Tryd.f51 (spec_l8Any.ct m))) := allGood 0 (spec_l8Any.n m) (fun i hi => match i with | i + 0 => absurd hi (by omega))
theorem spec_l8Any.ordsOK : ordsB sg (spec_l8Any.env 0).ords (bodyOf Tryd.f51) = true := by kernel_rfl
theorem spec_l8Any.holds (k : Nat) : (spec_l8Any.ct k).Holds Tryd.prog 51 :=
  fn_ok (fn := Tryd.f51) (body := (bodyOf Tryd.f51)) sg.ok sg.tab sg.mixed (by kernel_rfl) (by kernel_rfl) (by kernel_rfl) (spec_l8Any.ct k) spec_l8Any.env k (fun _ => by kernel_rfl) (fun _ => rfl) (fun _ => by kernel_rfl) (fun _ => rfl) (fun _ => rfl) (fun _ => rfl) spec_l8Any.ordsOK (fun j hj => ctsOK (l := spec_l8Any.cts j) ⟨(spec_l1Rd_pick.holds j), (spec_l8Form.holds j), (spec_l8Spoil.holds j), trivial⟩) (spec_l8Any.good k) (spec_l8Any.eq k) (Nat.le_of_ble_eq_true (by kernel_rfl)) (by kernel_rfl) (by kernel_rfl) (by kernel_rfl) (fun h => by cases h)
def spec_DrawExpWith.ct (k : Nat) : Ct sg := ⟨false, ⟨[(0, .one (.val (.sl 5 (.int .u8))))], []⟩, ⟨[(0, .st 0), (1, .one (.val (.int .i64)))], []⟩, [(.sl 5 (.int .u8))], [(.st 0), (.int .i64)], fun h => spec_DrawExpWith.f k h⟩
def spec_DrawExpWith.cts (k : Nat) : List (Nat × Ct sg) := [(50, spec_l1Open.ct k), (51, spec_l8Any.ct k), (52, spec_l1Rd_pick.ct k)]
def spec_DrawExpWith.env (k : Nat) : Env sg (HL sg.S [(.st 0), (.int .i64)]) := ⟨12, [], k, get (spec_DrawExpWith.cts k), [], [], []⟩
theorem spec_DrawExpWith.eq (k : Nat) (h : HL sg.S (spec_DrawExpWith.ct k).its) : (spec_DrawExpWith.ct k).F h = semF (spec_DrawExpWith.ct k) (spec_DrawExpWith.env k) Tryd.f22 (bodyOf Tryd.f22) h := by kernel_rfl
noncomputable def spec_DrawExpWith.pts (m : Nat) := used spec_DrawExpWith.env (ptsOf spec_DrawExpWith.env (bodyOf Tryd.f22) (fun _ => retK Tryd.f22 (spec_DrawExpWith.ct m)))
theorem spec_DrawExpWith.n (m : Nat) : len (spec_DrawExpWith.pts m) = 0 := by kernel_rfl
theorem spec_DrawExpWith.good (m : Nat) : AllGood spec_DrawExpWith.env (ptsOf spec_DrawExpWith.env (bodyOf Tryd.f22) (fun _ => retK Tryd.f22 (spec_DrawExpWith.ct m))) := allGood 0 (spec_DrawExpWith.n m) (fun i hi => match i with | i + 0 => absurd hi (by omega))
theorem spec_DrawExpWith.ordsOK : ordsB sg (spec_DrawExpWith.env 0).ords (bodyOf Tryd.f22) = true := by kernel_rfl
theorem spec_DrawExpWith.holds (k : Nat) : (spec_DrawExpWith.ct k).Holds Tryd.prog 22 :=
  fn_ok (fn := Tryd.f22) (body := (bodyOf Tryd.f22)) sg.ok sg.tab sg.mixed (by kernel_rfl) (by kernel_rfl) (by kernel_rfl) (spec_DrawExpWith.ct k) spec_DrawExpWith.env k (fun _ => by kernel_rfl) (fun _ => rfl) (fun _ => by kernel_rfl) (fun _ => rfl) (fun _ => rfl) (fun _ => rfl) spec_DrawExpWith.ordsOK (fun j hj => ctsOK (l := spec_DrawExpWith.cts j) ⟨(spec_l1Open.holds j), (spec_l8Any.holds j), (spec_l1Rd_pick.holds j), trivial⟩) (spec_DrawExpWith.good k) (spec_DrawExpWith.eq k) (Nat.le_of_ble_eq_true (by kernel_rfl)) (by kernel_rfl) (by kernel_rfl) (by kernel_rfl) (fun h => by cases h)
def internal_stringslite_HasPrefix.ct (k : Nat) : Ct sg := ⟨true, ⟨[(0, .one (.val .str)), (1, .one (.val .str))], []⟩, ⟨[(0, .one (.val .bool))], []⟩, [.str, .str], [.bool], fun h => internal_stringslite_HasPrefix.f k h.1 h.2⟩
def internal_stringslite_HasPrefix.cts (k : Nat) : List (Nat × Ct sg) := []
def internal_stringslite_HasPrefix.env (k : Nat) : Env sg (HL sg.S [.bool]) := ⟨18, [], k, get (internal_stringslite_HasPrefix.cts k), [], [], []⟩
theorem internal_stringslite_HasPrefix.eq (k : Nat) (h : HL sg.S (internal_stringslite_HasPrefix.ct k).its) : (internal_stringslite_HasPrefix.ct k).F h = semF (internal_stringslite_HasPrefix.ct k) (internal_stringslite_HasPrefix.env k) Tryd.f119 (bodyOf Tryd.f119) h := by kernel_rfl
noncomputable def internal_stringslite_HasPrefix.pts (m : Nat) := used internal_stringslite_HasPrefix.env (ptsOf internal_stringslite_HasPrefix.env (bodyOf Tryd.f119) (fun _ => retK Tryd.f119 (internal_stringslite_HasPrefix.ct m)))
theorem internal_stringslite_HasPrefix.n (m : Nat) : len (internal_stringslite_HasPrefix.pts m) = 0 := by kernel_rfl
theorem internal_stringslite_HasPrefix.good (m : Nat) : AllGood internal_stringslite_HasPrefix.env (ptsOf internal_stringslite_HasPrefix.env (bodyOf Tryd.f119) (fun _ => retK Tryd.f119 (internal_stringslite_HasPrefix.ct m))) := allGood 0 (internal_stringslite_HasPrefix.n m) (fun i hi => match i with | i + 0 => absurd hi (by omega))
theorem internal_stringslite_HasPrefix.ordsOK : ordsB sg (internal_stringslite_HasPrefix.env 0).ords (bodyOf Tryd.f119) = true := by kernel_rfl
theorem internal_stringslite_HasPrefix.holds (k : Nat) : (internal_stringslite_HasPrefix.ct k).Holds Tryd.prog 119 :=
  fn_ok (fn := Tryd.f119) (body := (bodyOf Tryd.f119)) sg.ok sg.tab sg.mixed (by kernel_rfl) (by kernel_rfl) (by kernel_rfl) (internal_stringslite_HasPrefix.ct k) internal_stringslite_HasPrefix.env k (fun _ => by kernel_rfl) (fun _ => rfl) (fun _ => by kernel_rfl) (fun _ => rfl) (fun _ => rfl) (fun _ => rfl) internal_stringslite_HasPrefix.ordsOK (fun j hj => ctsOK (l := internal_stringslite_HasPrefix.cts j) trivial) (internal_stringslite_HasPrefix.good k) (internal_stringslite_HasPrefix.eq k) (Nat.le_of_ble_eq_true (by kernel_rfl)) (by kernel_rfl) (by kernel_rfl) (by kernel_rfl) (fun _ => by kernel_rfl)
def internal_stringslite_TrimPrefix.ct (k : Nat) : Ct sg := ⟨true, ⟨[(0, .one (.val .str)), (1, .one (.val .str))], []⟩, ⟨[(0, .one (.val .str))], []⟩, [.str, .str], [.str], fun h => internal_stringslite_TrimPrefix.f k h.1 h.2⟩
def internal_stringslite_TrimPrefix.cts (k : Nat) : List (Nat × Ct sg) := [(119, internal_stringslite_HasPrefix.ct k)]
def internal_stringslite_TrimPrefix.env (k : Nat) : Env sg (HL sg.S [.str]) := ⟨13, [], k, get (internal_stringslite_TrimPrefix.cts k), [], [], []⟩
theorem internal_stringslite_TrimPrefix.eq (k : Nat) (h : HL sg.S (internal_stringslite_TrimPrefix.ct k).its) : (internal_stringslite_TrimPrefix.ct k).F h = semF (internal_stringslite_TrimPrefix.ct k) (internal_stringslite_TrimPrefix.env k) Tryd.f107 (bodyOf Tryd.f107) h := by kernel_rfl
noncomputable def internal_stringslite_TrimPrefix.pts (m : Nat) := used internal_stringslite_TrimPrefix.env (ptsOf internal_stringslite_TrimPrefix.env (bodyOf Tryd.f107) (fun _ => retK Tryd.f107 (internal_stringslite_TrimPrefix.ct m)))
theorem internal_stringslite_TrimPrefix.n (m : Nat) : len (internal_stringslite_TrimPrefix.pts m) = 0 := by kernel_rfl
theorem internal_stringslite_TrimPrefix.good (m : Nat) : AllGood internal_stringslite_TrimPrefix.env (ptsOf internal_stringslite_TrimPrefix.env (bodyOf Tryd.f107) (fun _ => retK Tryd.f107 (internal_stringslite_TrimPrefix.ct m))) := allGood 0 (internal_stringslite_TrimPrefix.n m) (fun i hi => match i with | i + 0 => absurd hi (by omega))
theorem internal_stringslite_TrimPrefix.ordsOK : ordsB sg (internal_stringslite_TrimPrefix.env 0).ords (bodyOf Tryd.f107) = true := by kernel_rfl
theorem internal_stringslite_TrimPrefix.holds (k : Nat) : (internal_stringslite_TrimPrefix.ct k).Holds Tryd.prog 107 :=
  fn_ok (fn := Tryd.f107) (body := (bodyOf Tryd.f107)) sg.ok sg.tab sg.mixed (by kernel_rfl) (by kernel_rfl) (by kernel_rfl) (internal_stringslite_TrimPrefix.ct k) internal_stringslite_TrimPrefix.env k (fun _ => by kernel_rfl) (fun _ => rfl) (fun _ => by kernel_rfl) (fun _ => rfl) (fun _ => rfl) (fun _ => rfl) internal_stringslite_TrimPrefix.ordsOK (fun j hj => ctsOK (l := internal_stringslite_TrimPrefix.cts j) ⟨(internal_stringslite_HasPrefix.holds j), trivial⟩) (internal_stringslite_TrimPrefix.good k) (internal_stringslite_TrimPrefix.eq k) (Nat.le_of_ble_eq_true (by kernel_rfl)) (by kernel_rfl) (by kernel_rfl) (by kernel_rfl) (fun _ => by kernel_rfl)
def strings_TrimPrefix.ct (k : Nat) : Ct sg := ⟨true, ⟨[(0, .one (.val .str)), (1, .one (.val .str))], []⟩, ⟨[(0, .one (.val .str))], []⟩, [.str, .str], [.str], fun h => strings_TrimPrefix.f k h.1 h.2⟩
def strings_TrimPrefix.cts (k : Nat) : List (Nat × Ct sg) := [(107, internal_stringslite_TrimPrefix.ct k)]
def strings_TrimPrefix.env (k : Nat) : Env sg (HL sg.S [.str]) := ⟨8, [], k, get (strings_TrimPrefix.cts k), [], [], []⟩
theorem strings_TrimPrefix.eq (k : Nat) (h : HL sg.S (strings_TrimPrefix.ct k).its) : (strings_TrimPrefix.ct k).F h = semF (strings_TrimPrefix.ct k) (strings_TrimPrefix.env k) Tryd.f98 (bodyOf Tryd.f98) h := by kernel_rfl
noncomputable def strings_TrimPrefix.pts (m : Nat) := used strings_TrimPrefix.env (ptsOf strings_TrimPrefix.env (bodyOf Tryd.f98) (fun _ => retK Tryd.f98 (strings_TrimPrefix.ct m)))
theorem strings_TrimPrefix.n (m : Nat) : len (strings_TrimPrefix.pts m) = 0 := by kernel_rfl
theorem strings_TrimPrefix.good (m : Nat) : AllGood strings_TrimPrefix.env (ptsOf strings_TrimPrefix.env (bodyOf Tryd.f98) (fun _ => retK Tryd.f98 (strings_TrimPrefix.ct m))) := allGood 0 (strings_TrimPrefix.n m) (fun i hi => match i with | i + 0 => absurd hi (by omega))
theorem strings_TrimPrefix.ordsOK : ordsB sg (strings_TrimPrefix.env 0).ords (bodyOf Tryd.f98) = true := by kernel_rfl
theorem strings_TrimPrefix.holds (k : Nat) : (strings_TrimPrefix.ct k).Holds Tryd.prog 98 :=
  fn_ok (fn := Tryd.f98) (body := (bodyOf Tryd.f98)) sg.ok sg.tab sg.mixed (by kernel_rfl) (by kernel_rfl) (by kernel_rfl) (strings_TrimPrefix.ct k) strings_TrimPrefix.env k (fun _ => by kernel_rfl) (fun _ => rfl) (fun _ => by kernel_rfl) (fun _ => rfl) (fun _ => rfl) (fun _ => rfl) strings_TrimPrefix.ordsOK (fun j hj => ctsOK (l := strings_TrimPrefix.cts j) ⟨(internal_stringslite_TrimPrefix.holds j), trivial⟩) (strings_TrimPrefix.good k) (strings_TrimPrefix.eq k) (Nat.le_of_ble_eq_true (by kernel_rfl)) (by kernel_rfl) (by kernel_rfl) (by kernel_rfl) (fun _ => by kernel_rfl)
def impl_expAtom.p_j3 : Pat := ⟨[(0, .one (.val .str))], []⟩
def impl_expAtom.c_j3 : Cut sg (HL sg.S [.bool]) := ⟨impl_expAtom.p_j3, [.str], fun k h => impl_expAtom.j3 k h⟩
def impl_expAtom.p_j5 : Pat := ⟨[(0, .one (.val .str)), (3, .one (.val (.int .i64))), (28, .one (.val .bool))], []⟩
def impl_expAtom.c_j5 : Cut sg (HL sg.S [.bool]) := ⟨impl_expAtom.p_j5, [.str, (.int .i64), .bool], fun k h => impl_expAtom.j5 k h.1 h.2.1 h.2.2⟩
def impl_expAtom.p_l6 : Pat := ⟨[(33, .one (.val (.sl 5 (.int .u8)))), (34, .one (.val (.int .i64))), (35, .one (.val (.int .i64)))], []⟩
def impl_expAtom.c_l6 : Cut sg (HL sg.S [.bool]) := ⟨impl_expAtom.p_l6, [(.sl 5 (.int .u8)), (.int .i64), (.int .i64)], fun k h => impl_expAtom.l6 k h.1 h.2.1 h.2.2⟩
def impl_expAtom.ct (k : Nat) : Ct sg := ⟨true, ⟨[(0, .one (.val .str))], []⟩, ⟨[(0, .one (.val .bool))], []⟩, [.str], [.bool], fun h => impl_expAtom.f k h⟩
def impl_expAtom.cts (k : Nat) : List (Nat × Ct sg) := [(98, strings_TrimPrefix.ct k), (99, LTrim.ct)]
def impl_expAtom.env (k : Nat) : Env sg (HL sg.S [.bool]) := ⟨59, [], k, get (impl_expAtom.cts k), [(6, impl_expAtom.c_l6)], [(3, impl_expAtom.c_j3), (5, impl_expAtom.c_j5)], []⟩
theorem impl_expAtom.eq (k : Nat) (h : HL sg.S (impl_expAtom.ct k).its) : (impl_expAtom.ct k).F h = semF (impl_expAtom.ct k) (impl_expAtom.env k) Tryd.f85 (bodyOf Tryd.f85) h := by kernel_rfl
noncomputable def impl_expAtom.pts (m : Nat) := used impl_expAtom.env (ptsOf impl_expAtom.env (bodyOf Tryd.f85) (fun _ => retK Tryd.f85 (impl_expAtom.ct m)))
theorem impl_expAtom.n (m : Nat) : len (impl_expAtom.pts m) = 3 := by kernel_rfl
theorem impl_expAtom.g0 (m : Nat) : AtGood impl_expAtom.env (nth (impl_expAtom.pts m) 0) := joinGood impl_expAtom.c_j3 (by kernel_rfl) (by kernel_rfl) (fun k h => by kernel_rfl)
theorem impl_expAtom.g1 (m : Nat) : AtGood impl_expAtom.env (nth (impl_expAtom.pts m) 1) := joinGood impl_expAtom.c_j5 (by kernel_rfl) (by kernel_rfl) (fun k h => by kernel_rfl)
theorem impl_expAtom.g2 (m : Nat) : AtGood impl_expAtom.env (nth (impl_expAtom.pts m) 2) := loopGood impl_expAtom.c_l6 (by kernel_rfl) (by kernel_rfl) (fun _ => rfl) (fun k h => by kernel_rfl)
theorem impl_expAtom.good (m : Nat) : AllGood impl_expAtom.env (ptsOf impl_expAtom.env (bodyOf Tryd.f85) (fun _ => retK Tryd.f85 (impl_expAtom.ct m))) := allGood 3 (impl_expAtom.n m) (fun i hi => match i with | 0 => impl_expAtom.g0 m | 1 => impl_expAtom.g1 m | 2 => impl_expAtom.g2 m | i + 3 => absurd hi (by omega))
theorem impl_expAtom.ordsOK : ordsB sg (impl_expAtom.env 0).ords (bodyOf Tryd.f85) = true := by kernel_rfl
theorem impl_expAtom.holds (k : Nat) : (impl_expAtom.ct k).Holds Tryd.prog 85 :=
  fn_ok (fn := Tryd.f85) (body := (bodyOf Tryd.f85)) sg.ok sg.tab sg.mixed (by kernel_rfl) (by kernel_rfl) (by kernel_rfl) (impl_expAtom.ct k) impl_expAtom.env k (fun _ => by kernel_rfl) (fun _ => rfl) (fun _ => by kernel_rfl) (fun _ => rfl) (fun _ => rfl) (fun _ => rfl) impl_expAtom.ordsOK (fun j hj => ctsOK (l := impl_expAtom.cts j) ⟨(strings_TrimPrefix.holds j), LTrim.holds, trivial⟩) (impl_expAtom.good k) (impl_expAtom.eq k) (Nat.le_of_ble_eq_true (by kernel_rfl)) (by kernel_rfl) (by kernel_rfl) (by kernel_rfl) (fun _ => by kernel_rfl)
def impl_expId.p_l2 : Pat := ⟨[(0, .one (.val .str)), (6, .one (.val (.sl 5 (.int .u8)))), (7, .one (.val (.int .i64))), (8, .one (.val (.int .i64)))], []⟩
def impl_expId.c_l2 : Cut sg (HL sg.S [.bool]) := ⟨impl_expId.p_l2, [.str, (.sl 5 (.int .u8)), (.int .i64), (.int .i64)], fun k h => impl_expId.l2 k h.1 h.2.1 h.2.2.1 h.2.2.2⟩
def impl_expId.ct (k : Nat) : Ct sg := ⟨true, ⟨[(0, .one (.val .str))], []⟩, ⟨[(0, .one (.val .bool))], []⟩, [.str], [.bool], fun h => impl_expId.f k h⟩
def impl_expId.cts (k : Nat) : List (Nat × Ct sg) := [(85, impl_expAtom.ct k), (97, LIndexByte.ct)]
def impl_expId.env (k : Nat) : Env sg (HL sg.S [.bool]) := ⟨40, [], k, get (impl_expId.cts k), [(2, impl_expId.c_l2)], [], []⟩
theorem impl_expId.eq (k : Nat) (h : HL sg.S (impl_expId.ct k).its) : (impl_expId.ct k).F h = semF (impl_expId.ct k) (impl_expId.env k) Tryd.f84 (bodyOf Tryd.f84) h := by kernel_rfl
noncomputable def impl_expId.pts (m : Nat) := used impl_expId.env (ptsOf impl_expId.env (bodyOf Tryd.f84) (fun _ => retK Tryd.f84 (impl_expId.ct m)))
theorem impl_expId.n (m : Nat) : len (impl_expId.pts m) = 1 := by kernel_rfl
theorem impl_expId.g0 (m : Nat) : AtGood impl_expId.env (nth (impl_expId.pts m) 0) := loopGood impl_expId.c_l2 (by kernel_rfl) (by kernel_rfl) (fun _ => rfl) (fun k h => by kernel_rfl)
theorem impl_expId.good (m : Nat) : AllGood impl_expId.env (ptsOf impl_expId.env (bodyOf Tryd.f84) (fun _ => retK Tryd.f84 (impl_expId.ct m))) := allGood 1 (impl_expId.n m) (fun i hi => match i with | 0 => impl_expId.g0 m | i + 1 => absurd hi (by omega))
theorem impl_expId.ordsOK : ordsB sg (impl_expId.env 0).ords (bodyOf Tryd.f84) = true := by kernel_rfl
theorem impl_expId.holds (k : Nat) : (impl_expId.ct k).Holds Tryd.prog 84 :=
  fn_ok (fn := Tryd.f84) (body := (bodyOf Tryd.f84)) sg.ok sg.tab sg.mixed (by kernel_rfl) (by kernel_rfl) (by kernel_rfl) (impl_expId.ct k) impl_expId.env k (fun _ => by kernel_rfl) (fun _ => rfl) (fun _ => by kernel_rfl) (fun _ => rfl) (fun _ => rfl) (fun _ => rfl) impl_expId.ordsOK (fun j hj => ctsOK (l := impl_expId.cts j) ⟨(impl_expAtom.holds j), LIndexByte.holds, trivial⟩) (impl_expId.good k) (impl_expId.eq k) (Nat.le_of_ble_eq_true (by kernel_rfl)) (by kernel_rfl) (by kernel_rfl) (by kernel_rfl) (fun _ => by kernel_rfl)
def impl_expCount.p_j20 : Pat := ⟨[(1, .one (.val (.int .i64))), (2, .one (.ptr 0 0)), (5, .one (.val (.int .i64))), (93, .one (.val .bool))], [.cells [] [.val (.int .i64), .val .str, .val (.sl 3 (.int .i64)), .val (.int .i64), .val (.sl 29 (.st 0))]]⟩
def impl_expCount.c_j20 : Cut sg (HL sg.S [(.int .i64)]) := ⟨impl_expCount.p_j20, [(.int .i64), (.int .i64), .bool, (.int .i64), .str, (.sl 3 (.int .i64)), (.int .i64), (.sl 29 (.st 0))], fun k h => impl_expCount.j20 k h.1 h.2.1 h.2.2.1 h.2.2.2.1 h.2.2.2.2.1 h.2.2.2.2.2.1 h.2.2.2.2.2.2.1 h.2.2.2.2.2.2.2⟩
def impl_expCount.p_j22 : Pat := ⟨[(1, .one (.val (.int .i64))), (2, .one (.ptr 0 0)), (5, .one (.val (.int .i64)))], [.cells [] [.val (.int .i64), .any, .any, .any, .val (.sl 29 (.st 0))]]⟩
def impl_expCount.c_j22 : Cut sg (HL sg.S [(.int .i64)]) := ⟨impl_expCount.p_j22, [(.int .i64), (.int .i64), (.int .i64), (.sl 29 (.st 0))], fun k h => impl_expCount.j22 k h.1 h.2.1 h.2.2.1 h.2.2.2⟩
def impl_expCount.p_j26 : Pat := ⟨[(1, .one (.val (.int .i64))), (2, .one (.ptr 0 0)), (5, .one (.val (.int .i64)))], [.cells [] [.any, .any, .any, .any, .val (.sl 29 (.st 0))]]⟩
def impl_expCount.c_j26 : Cut sg (HL sg.S [(.int .i64)]) := ⟨impl_expCount.p_j26, [(.int .i64), (.int .i64), (.sl 29 (.st 0))], fun k h => impl_expCount.j26 k h.1 h.2.1 h.2.2⟩
def impl_expCount.p_j9 : Pat := ⟨[(2, .one (.ptr 0 0)), (5, .one (.val (.int .i64)))], [.cells [] [.any, .any, .val (.sl 3 (.int .i64)), .any, .any]]⟩
def impl_expCount.c_j9 : Cut sg (HL sg.S [(.int .i64)]) := ⟨impl_expCount.p_j9, [(.int .i64), (.sl 3 (.int .i64))], fun k h => impl_expCount.j9 k h.1 h.2⟩
def impl_expCount.p_l10 : Pat := ⟨[(2, .one (.ptr 0 0)), (5, .one (.val (.int .i64))), (40, .one (.val (.sl 3 (.int .i64)))), (41, .one (.val (.int .i64))), (42, .one (.val (.int .i64)))], [.cells [] [.any, .any, .val (.sl 3 (.int .i64)), .any, .any]]⟩
def impl_expCount.c_l10 : Cut sg (HL sg.S [(.int .i64)]) := ⟨impl_expCount.p_l10, [(.int .i64), (.sl 3 (.int .i64)), (.int .i64), (.int .i64), (.sl 3 (.int .i64))], fun k h => impl_expCount.l10 k h.1 h.2.1 h.2.2.1 h.2.2.2.1 h.2.2.2.2⟩
def impl_expCount.p_l27 : Pat := ⟨[(1, .one (.val (.int .i64))), (5, .one (.val (.int .i64))), (139, .one (.val (.sl 29 (.st 0)))), (140, .one (.val (.int .i64))), (141, .one (.val (.int .i64)))], []⟩
def impl_expCount.c_l27 : Cut sg (HL sg.S [(.int .i64)]) := ⟨impl_expCount.p_l27, [(.int .i64), (.int .i64), (.sl 29 (.st 0)), (.int .i64), (.int .i64)], fun k h => impl_expCount.l27 k h.1 h.2.1 h.2.2.1 h.2.2.2.1 h.2.2.2.2⟩
def impl_expCount.ct (k : Nat) : Ct sg := ⟨true, ⟨[(0, .st 0), (1, .one (.val (.int .i64)))], []⟩, ⟨[(0, .one (.val (.int .i64)))], []⟩, [(.st 0), (.int .i64)], [(.int .i64)], fun h => impl_expCount.f k h.1 h.2⟩
def impl_expCount.cts (k : Nat) : List (Nat × Ct sg) := [(55, impl_expCount.ct k), (84, impl_expId.ct k), (85, impl_expAtom.ct k)]
def impl_expCount.env (k : Nat) : Env sg (HL sg.S [(.int .i64)]) := ⟨158, [], k, get (impl_expCount.cts k), [(10, impl_expCount.c_l10), (27, impl_expCount.c_l27)], [(9, impl_expCount.c_j9), (20, impl_expCount.c_j20), (22, impl_expCount.c_j22), (26, impl_expCount.c_j26)], []⟩
theorem impl_expCount.eq (k : Nat) (h : HL sg.S (impl_expCount.ct (k + 1)).its) : (impl_expCount.ct (k + 1)).F h = semF (impl_expCount.ct (k + 1)) (impl_expCount.env k) Tryd.f55 (bodyOf Tryd.f55) h := by kernel_rfl
noncomputable def impl_expCount.pts (m : Nat) := used impl_expCount.env (ptsOf impl_expCount.env (bodyOf Tryd.f55) (fun _ => retK Tryd.f55 (impl_expCount.ct m)))
theorem impl_expCount.n (m : Nat) : len (impl_expCount.pts m) = 6 := by kernel_rfl
theorem impl_expCount.g0 (m : Nat) : AtGood impl_expCount.env (nth (impl_expCount.pts m) 0) := joinGood impl_expCount.c_j9 (by kernel_rfl) (by kernel_rfl) (fun k h => by kernel_rfl)
theorem impl_expCount.g1 (m : Nat) : AtGood impl_expCount.env (nth (impl_expCount.pts m) 1) := loopGood impl_expCount.c_l10 (by kernel_rfl) (by kernel_rfl) (fun _ => rfl) (fun k h => by kernel_rfl)
theorem impl_expCount.g2 (m : Nat) : AtGood impl_expCount.env (nth (impl_expCount.pts m) 2) := joinGood impl_expCount.c_j20 (by kernel_rfl) (by kernel_rfl) (fun k h => by kernel_rfl)
theorem impl_expCount.g3 (m : Nat) : AtGood impl_expCount.env (nth (impl_expCount.pts m) 3) := joinGood impl_expCount.c_j22 (by kernel_rfl) (by kernel_rfl) (fun k h => by kernel_rfl)
theorem impl_expCount.g4 (m : Nat) : AtGood impl_expCount.env (nth (impl_expCount.pts m) 4) := joinGood impl_expCount.c_j26 (by kernel_rfl) (by kernel_rfl) (fun k h => by kernel_rfl)
theorem impl_expCount.g5 (m : Nat) : AtGood impl_expCount.env (nth (impl_expCount.pts m) 5) := loopGood impl_expCount.c_l27 (by kernel_rfl) (by kernel_rfl) (fun _ => rfl) (fun k h => by kernel_rfl)
theorem impl_expCount.good (m : Nat) : AllGood impl_expCount.env (ptsOf impl_expCount.env (bodyOf Tryd.f55) (fun _ => retK Tryd.f55 (impl_expCount.ct m))) := allGood 6 (impl_expCount.n m) (fun i hi => match i with | 0 => impl_expCount.g0 m | 1 => impl_expCount.g1 m | 2 => impl_expCount.g2 m | 3 => impl_expCount.g3 m | 4 => impl_expCount.g4 m | 5 => impl_expCount.g5 m | i + 6 => absurd hi (by omega))
theorem impl_expCount.ordsOK : ordsB sg (impl_expCount.env 0).ords (bodyOf Tryd.f55) = true := by kernel_rfl
theorem impl_expCount.all (k : Nat) : (impl_expCount.ct k).Holds Tryd.prog 55 := by
  induction k using Nat.strongRecOn with
  | _ k ih => cases k with
    | zero => exact ⟨by kernel_rfl, by kernel_rfl, (fun _ => by kernel_rfl), fun _ _ _ _ _ _ _ h => absurd (show none = some _ from h) (by intro e; cases e)⟩
    | succ k => exact fn_ok (fn := Tryd.f55) (body := (bodyOf Tryd.f55)) sg.ok sg.tab sg.mixed (by kernel_rfl) (by kernel_rfl) (by kernel_rfl) (impl_expCount.ct (k + 1)) impl_expCount.env k (fun _ => by kernel_rfl) (fun _ => rfl) (fun _ => by kernel_rfl) (fun _ => rfl) (fun _ => rfl) (fun _ => rfl) impl_expCount.ordsOK (fun j hj => ctsOK (l := impl_expCount.cts j) ⟨(ih j (by omega)), (impl_expId.holds j), (impl_expAtom.holds j), trivial⟩) (impl_expCount.good (k + 1)) (impl_expCount.eq k) (Nat.le_of_ble_eq_true (by kernel_rfl)) (by kernel_rfl) (by kernel_rfl) (by kernel_rfl) (fun _ => by kernel_rfl)
theorem impl_expCount.holds (k : Nat) : (impl_expCount.ct k).Holds Tryd.prog 55 := (impl_expCount.all k)
def impl_ExpFormOk.ct (k : Nat) : Ct sg := ⟨true, ⟨[(0, .st 0)], []⟩, ⟨[(0, .one (.val .bool))], []⟩, [(.st 0)], [.bool], fun h => impl_ExpFormOk.f k h⟩
def impl_ExpFormOk.cts (k : Nat) : List (Nat × Ct sg) := [(55, impl_expCount.ct k)]
def impl_ExpFormOk.env (k : Nat) : Env sg (HL sg.S [.bool]) := ⟨6, [], k, get (impl_ExpFormOk.cts k), [], [], []⟩
theorem impl_ExpFormOk.eq (k : Nat) (h : HL sg.S (impl_ExpFormOk.ct k).its) : (impl_ExpFormOk.ct k).F h = semF (impl_ExpFormOk.ct k) (impl_ExpFormOk.env k) Tryd.f24 (bodyOf Tryd.f24) h := by kernel_rfl
noncomputable def impl_ExpFormOk.pts (m : Nat) := used impl_ExpFormOk.env (ptsOf impl_ExpFormOk.env (bodyOf Tryd.f24) (fun _ => retK Tryd.f24 (impl_ExpFormOk.ct m)))
theorem impl_ExpFormOk.n (m : Nat) : len (impl_ExpFormOk.pts m) = 0 := by kernel_rfl
theorem impl_ExpFormOk.good (m : Nat) : AllGood impl_ExpFormOk.env (ptsOf impl_ExpFormOk.env (bodyOf Tryd.f24) (fun _ => retK Tryd.f24 (impl_ExpFormOk.ct m))) := allGood 0 (impl_ExpFormOk.n m) (fun i hi => match i with | i + 0 => absurd hi (by omega))
theorem impl_ExpFormOk.ordsOK : ordsB sg (impl_ExpFormOk.env 0).ords (bodyOf Tryd.f24) = true := by kernel_rfl
theorem impl_ExpFormOk.holds (k : Nat) : (impl_ExpFormOk.ct k).Holds Tryd.prog 24 :=
  fn_ok (fn := Tryd.f24) (body := (bodyOf Tryd.f24)) sg.ok sg.tab sg.mixed (by kernel_rfl) (by kernel_rfl) (by kernel_rfl) (impl_ExpFormOk.ct k) impl_ExpFormOk.env k (fun _ => by kernel_rfl) (fun _ => rfl) (fun _ => by kernel_rfl) (fun _ => rfl) (fun _ => rfl) (fun _ => rfl) impl_ExpFormOk.ordsOK (fun j hj => ctsOK (l := impl_ExpFormOk.cts j) ⟨(impl_expCount.holds j), trivial⟩) (impl_ExpFormOk.good k) (impl_ExpFormOk.eq k) (Nat.le_of_ble_eq_true (by kernel_rfl)) (by kernel_rfl) (by kernel_rfl) (by kernel_rfl) (fun _ => by kernel_rfl)
def impl_expAdd.p_j10 : Pat := ⟨[(1, .one (.val (.int .i64))), (5, .one (.arr 0)), (6, .one (.val .bool)), (8, .one (.val (.int .i64))), (9, .one (.val (.sl 3 (.int .i64)))), (10, .one (.val (.int .i64))), (11, .one (.val (.int .i64)))], [.arr 3 (.int .i64)]⟩
def impl_expAdd.c_j10 : Cut sg (HL sg.S [(.sl 3 (.int .i64))]) := ⟨impl_expAdd.p_j10, [(.int .i64), .bool, (.int .i64), (.sl 3 (.int .i64)), (.int .i64), (.int .i64), (.sl 3 (.int .i64))], fun k h => impl_expAdd.j10 k h.1 h.2.1 h.2.2.1 h.2.2.2.1 h.2.2.2.2.1 h.2.2.2.2.2.1 h.2.2.2.2.2.2⟩
def impl_expAdd.p_l4 : Pat := ⟨[(1, .one (.val (.int .i64))), (5, .one (.arr 0)), (6, .one (.val .bool)), (9, .one (.val (.sl 3 (.int .i64)))), (10, .one (.val (.int .i64))), (11, .one (.val (.int .i64)))], [.arr 3 (.int .i64)]⟩
def impl_expAdd.c_l4 : Cut sg (HL sg.S [(.sl 3 (.int .i64))]) := ⟨impl_expAdd.p_l4, [(.int .i64), .bool, (.sl 3 (.int .i64)), (.int .i64), (.int .i64), (.sl 3 (.int .i64))], fun k h => impl_expAdd.l4 k h.1 h.2.1 h.2.2.1 h.2.2.2.1 h.2.2.2.2.1 h.2.2.2.2.2⟩
def impl_expAdd.ct (k : Nat) : Ct sg := ⟨false, ⟨[(0, .one (.val (.sl 3 (.int .i64)))), (1, .one (.val (.int .i64)))], []⟩, ⟨[(0, .one (.arr 0))], [.arr 3 (.int .i64)]⟩, [(.sl 3 (.int .i64)), (.int .i64)], [(.sl 3 (.int .i64))], fun h => impl_expAdd.f k h.1 h.2⟩
def impl_expAdd.cts (k : Nat) : List (Nat × Ct sg) := []
def impl_expAdd.env (k : Nat) : Env sg (HL sg.S [(.sl 3 (.int .i64))]) := ⟨41, [], k, get (impl_expAdd.cts k), [(4, impl_expAdd.c_l4)], [(10, impl_expAdd.c_j10)], []⟩
theorem impl_expAdd.eq (k : Nat) (h : HL sg.S (impl_expAdd.ct k).its) : (impl_expAdd.ct k).F h = semF (impl_expAdd.ct k) (impl_expAdd.env k) Tryd.f69 (bodyOf Tryd.f69) h := by kernel_rfl
noncomputable def impl_expAdd.pts (m : Nat) := used impl_expAdd.env (ptsOf impl_expAdd.env (bodyOf Tryd.f69) (fun _ => retK Tryd.f69 (impl_expAdd.ct m)))
theorem impl_expAdd.n (m : Nat) : len (impl_expAdd.pts m) = 2 := by kernel_rfl
theorem impl_expAdd.g0 (m : Nat) : AtGood impl_expAdd.env (nth (impl_expAdd.pts m) 0) := loopGood impl_expAdd.c_l4 (by kernel_rfl) (by kernel_rfl) (fun _ => rfl) (fun k h => by kernel_rfl)
theorem impl_expAdd.g1 (m : Nat) : AtGood impl_expAdd.env (nth (impl_expAdd.pts m) 1) := joinGood impl_expAdd.c_j10 (by kernel_rfl) (by kernel_rfl) (fun k h => by kernel_rfl)
theorem impl_expAdd.good (m : Nat) : AllGood impl_expAdd.env (ptsOf impl_expAdd.env (bodyOf Tryd.f69) (fun _ => retK Tryd.f69 (impl_expAdd.ct m))) := allGood 2 (impl_expAdd.n m) (fun i hi => match i with | 0 => impl_expAdd.g0 m | 1 => impl_expAdd.g1 m | i + 2 => absurd hi (by omega))
theorem impl_expAdd.ordsOK : ordsB sg (impl_expAdd.env 0).ords (bodyOf Tryd.f69) = true := by kernel_rfl
theorem impl_expAdd.holds (k : Nat) : (impl_expAdd.ct k).Holds Tryd.prog 69 :=
  fn_ok (fn := Tryd.f69) (body := (bodyOf Tryd.f69)) sg.ok sg.tab sg.mixed (by kernel_rfl) (by kernel_rfl) (by kernel_rfl) (impl_expAdd.ct k) impl_expAdd.env k (fun _ => by kernel_rfl) (fun _ => rfl) (fun _ => by kernel_rfl) (fun _ => rfl) (fun _ => rfl) (fun _ => rfl) impl_expAdd.ordsOK (fun j hj => ctsOK (l := impl_expAdd.cts j) trivial) (impl_expAdd.good k) (impl_expAdd.eq k) (Nat.le_of_ble_eq_true (by kernel_rfl)) (by kernel_rfl) (by kernel_rfl) (by kernel_rfl) (fun h => by cases h)
def impl_expWith_1.ct (k : Nat) : Ct sg := ⟨false, ⟨[(0, .one (.val (.sl 3 (.int .i64)))), (1, .one (.ptr 0 0))], [.cells [] [.val (.int .i64)]]⟩, ⟨[(0, .one (.arr 1))], [.cells [] [.val (.int .i64)], .arr 3 (.int .i64)]⟩, [(.sl 3 (.int .i64)), (.int .i64)], [(.int .i64), (.sl 3 (.int .i64))], fun h => impl_expWith_1.f k h.1 h.2⟩
def impl_expWith_1.cts (k : Nat) : List (Nat × Ct sg) := [(69, impl_expAdd.ct k)]
def impl_expWith_1.env (k : Nat) : Env sg (HL sg.S [(.int .i64), (.sl 3 (.int .i64))]) := ⟨7, [0], k, get (impl_expWith_1.cts k), [], [], []⟩
theorem impl_expWith_1.eq (k : Nat) (h : HL sg.S (impl_expWith_1.ct k).its) : (impl_expWith_1.ct k).F h = semF (impl_expWith_1.ct k) (impl_expWith_1.env k) Tryd.f68 (bodyOf Tryd.f68) h := by kernel_rfl
noncomputable def impl_expWith_1.pts (m : Nat) := used impl_expWith_1.env (ptsOf impl_expWith_1.env (bodyOf Tryd.f68) (fun _ => retK Tryd.f68 (impl_expWith_1.ct m)))
theorem impl_expWith_1.n (m : Nat) : len (impl_expWith_1.pts m) = 0 := by kernel_rfl
theorem impl_expWith_1.good (m : Nat) : AllGood impl_expWith_1.env (ptsOf impl_expWith_1.env (bodyOf Tryd.f68) (fun _ => retK Tryd.f68 (impl_expWith_1.ct m))) := allGood 0 (impl_expWith_1.n m) (fun i hi => match i with | i + 0 => absurd hi (by omega))
theorem impl_expWith_1.ordsOK : ordsB sg (impl_expWith_1.env 0).ords (bodyOf Tryd.f68) = true := by kernel_rfl
theorem impl_expWith_1.holds (k : Nat) : (impl_expWith_1.ct k).Holds Tryd.prog 68 :=
  fn_ok (fn := Tryd.f68) (body := (bodyOf Tryd.f68)) sg.ok sg.tab sg.mixed (by kernel_rfl) (by kernel_rfl) (by kernel_rfl) (impl_expWith_1.ct k) impl_expWith_1.env k (fun _ => by kernel_rfl) (fun _ => rfl) (fun _ => by kernel_rfl) (fun _ => rfl) (fun _ => rfl) (fun _ => rfl) impl_expWith_1.ordsOK (fun j hj => ctsOK (l := impl_expWith_1.cts j) ⟨(impl_expAdd.holds j), trivial⟩) (impl_expWith_1.good k) (impl_expWith_1.eq k) (Nat.le_of_ble_eq_true (by kernel_rfl)) (by kernel_rfl) (by kernel_rfl) (by kernel_rfl) (fun h => by cases h)
def impl_expMap.p_l6 : Pat := ⟨[(1, .one (.fn 68 [0])), (2, .one (.ptr 1 0)), (4, .one (.ptr 2 0)), (5, .one (.arr 3)), (18, .one (.val (.sl 29 (.st 0)))), (19, .one (.val (.int .i64))), (20, .one (.val (.int .i64)))], [.cells [] [.val (.int .i64)], .cells [] [.val (.int .i64), .val .str, .val (.sl 3 (.int .i64)), .val (.int .i64), .any], .cells [] [.any, .any, .any, .any, .any], .arr 29 (.st 0)]⟩
def impl_expMap.c_l6 : Cut sg (HL sg.S [(.st 0), (.int .i64)]) := ⟨impl_expMap.p_l6, [(.sl 29 (.st 0)), (.int .i64), (.int .i64), (.int .i64), (.int .i64), .str, (.sl 3 (.int .i64)), (.int .i64), (.sl 29 (.st 0))], fun k h => impl_expMap.l6 k h.1 h.2.1 h.2.2.1 h.2.2.2.1 h.2.2.2.2.1 h.2.2.2.2.2.1 h.2.2.2.2.2.2.1 h.2.2.2.2.2.2.2.1 h.2.2.2.2.2.2.2.2⟩
def impl_expMap.ct (k : Nat) : Ct sg := ⟨false, ⟨[(0, .st 0), (1, .one (.fn 68 [0]))], [.cells [] [.val (.int .i64)]]⟩, ⟨[(0, .st 0)], [.cells [] [.val (.int .i64)]]⟩, [(.st 0), (.int .i64)], [(.st 0), (.int .i64)], fun h => impl_expMap.f k h.1 h.2⟩
def impl_expMap.cts (k : Nat) : List (Nat × Ct sg) := [(67, impl_expMap.ct k), (68, impl_expWith_1.ct k)]
def impl_expMap.env (k : Nat) : Env sg (HL sg.S [(.st 0), (.int .i64)]) := ⟨34, [0], k, get (impl_expMap.cts k), [(6, impl_expMap.c_l6)], [], []⟩
theorem impl_expMap.eq (k : Nat) (h : HL sg.S (impl_expMap.ct (k + 1)).its) : (impl_expMap.ct (k + 1)).F h = semF (impl_expMap.ct (k + 1)) (impl_expMap.env k) Tryd.f67 (bodyOf Tryd.f67) h := by kernel_rfl
noncomputable def impl_expMap.pts (m : Nat) := used impl_expMap.env (ptsOf impl_expMap.env (bodyOf Tryd.f67) (fun _ => retK Tryd.f67 (impl_expMap.ct m)))
theorem impl_expMap.n (m : Nat) : len (impl_expMap.pts m) = 1 := by kernel_rfl
theorem impl_expMap.g0 (m : Nat) : AtGood impl_expMap.env (nth (impl_expMap.pts m) 0) := loopGood impl_expMap.c_l6 (by kernel_rfl) (by kernel_rfl) (fun _ => rfl) (fun k h => by kernel_rfl)
theorem impl_expMap.good (m : Nat) : AllGood impl_expMap.env (ptsOf impl_expMap.env (bodyOf Tryd.f67) (fun _ => retK Tryd.f67 (impl_expMap.ct m))) := allGood 1 (impl_expMap.n m) (fun i hi => match i with | 0 => impl_expMap.g0 m | i + 1 => absurd hi (by omega))
theorem impl_expMap.ordsOK : ordsB sg (impl_expMap.env 0).ords (bodyOf Tryd.f67) = true := by kernel_rfl
theorem impl_expMap.all (k : Nat) : (impl_expMap.ct k).Holds Tryd.prog 67 := by
  induction k using Nat.strongRecOn with
  | _ k ih => cases k with
    | zero => exact ⟨by kernel_rfl, by kernel_rfl, (fun h => by cases h), fun _ _ _ _ _ _ _ h => absurd (show none = some _ from h) (by intro e; cases e)⟩
    | succ k => exact fn_ok (fn := Tryd.f67) (body := (bodyOf Tryd.f67)) sg.ok sg.tab sg.mixed (by kernel_rfl) (by kernel_rfl) (by kernel_rfl) (impl_expMap.ct (k + 1)) impl_expMap.env k (fun _ => by kernel_rfl) (fun _ => rfl) (fun _ => by kernel_rfl) (fun _ => rfl) (fun _ => rfl) (fun _ => rfl) impl_expMap.ordsOK (fun j hj => ctsOK (l := impl_expMap.cts j) ⟨(ih j (by omega)), (impl_expWith_1.holds j), trivial⟩) (impl_expMap.good (k + 1)) (impl_expMap.eq k) (Nat.le_of_ble_eq_true (by kernel_rfl)) (by kernel_rfl) (by kernel_rfl) (by kernel_rfl) (fun h => by cases h)
theorem impl_expMap.holds (k : Nat) : (impl_expMap.ct k).Holds Tryd.prog 67 := (impl_expMap.all k)
def impl_expWith.ct (k : Nat) : Ct sg := ⟨false, ⟨[(0, .st 0), (1, .one (.val (.int .i64)))], []⟩, ⟨[(0, .st 0)], []⟩, [(.st 0), (.int .i64)], [(.st 0)], fun h => impl_expWith.f k h.1 h.2⟩
def impl_expWith.cts (k : Nat) : List (Nat × Ct sg) := [(67, impl_expMap.ct k)]
def impl_expWith.env (k : Nat) : Env sg (HL sg.S [(.st 0)]) := ⟨8, [], k, get (impl_expWith.cts k), [], [], []⟩
theorem impl_expWith.eq (k : Nat) (h : HL sg.S (impl_expWith.ct k).its) : (impl_expWith.ct k).F h = semF (impl_expWith.ct k) (impl_expWith.env k) Tryd.f35 (bodyOf Tryd.f35) h := by kernel_rfl
noncomputable def impl_expWith.pts (m : Nat) := used impl_expWith.env (ptsOf impl_expWith.env (bodyOf Tryd.f35) (fun _ => retK Tryd.f35 (impl_expWith.ct m)))
theorem impl_expWith.n (m : Nat) : len (impl_expWith.pts m) = 0 := by kernel_rfl
theorem impl_expWith.good (m : Nat) : AllGood impl_expWith.env (ptsOf impl_expWith.env (bodyOf Tryd.f35) (fun _ => retK Tryd.f35 (impl_expWith.ct m))) := allGood 0 (impl_expWith.n m) (fun i hi => match i with | i + 0 => absurd hi (by omega))
theorem impl_expWith.ordsOK : ordsB sg (impl_expWith.env 0).ords (bodyOf Tryd.f35) = true := by kernel_rfl
theorem impl_expWith.holds (k : Nat) : (impl_expWith.ct k).Holds Tryd.prog 35 :=
  fn_ok (fn := Tryd.f35) (body := (bodyOf Tryd.f35)) sg.ok sg.tab sg.mixed (by kernel_rfl) (by kernel_rfl) (by kernel_rfl) (impl_expWith.ct k) impl_expWith.env k (fun _ => by kernel_rfl) (fun _ => rfl) (fun _ => by kernel_rfl) (fun _ => rfl) (fun _ => rfl) (fun _ => rfl) impl_expWith.ordsOK (fun j hj => ctsOK (l := impl_expWith.cts j) ⟨(impl_expMap.holds j), trivial⟩) (impl_expWith.good k) (impl_expWith.eq k) (Nat.le_of_ble_eq_true (by kernel_rfl)) (by kernel_rfl) (by kernel_rfl) (by kernel_rfl) (fun h => by cases h)
def impl_ExpWith.ct (k : Nat) : Ct sg := ⟨false, ⟨[(0, .st 0), (1, .one (.val (.int .i64)))], []⟩, ⟨[(0, .st 0)], []⟩, [(.st 0), (.int .i64)], [(.st 0)], fun h => impl_ExpWith.f k h.1 h.2⟩
def impl_ExpWith.cts (k : Nat) : List (Nat × Ct sg) := [(24, impl_ExpFormOk.ct k), (35, impl_expWith.ct k)]
def impl_ExpWith.env (k : Nat) : Env sg (HL sg.S [(.st 0)]) := ⟨16, [], k, get (impl_ExpWith.cts k), [], [], []⟩
theorem impl_ExpWith.eq (k : Nat) (h : HL sg.S (impl_ExpWith.ct k).its) : (impl_ExpWith.ct k).F h = semF (impl_ExpWith.ct k) (impl_ExpWith.env k) Tryd.f11 (bodyOf Tryd.f11) h := by kernel_rfl
noncomputable def impl_ExpWith.pts (m : Nat) := used impl_ExpWith.env (ptsOf impl_ExpWith.env (bodyOf Tryd.f11) (fun _ => retK Tryd.f11 (impl_ExpWith.ct m)))
theorem impl_ExpWith.n (m : Nat) : len (impl_ExpWith.pts m) = 0 := by kernel_rfl
theorem impl_ExpWith.good (m : Nat) : AllGood impl_ExpWith.env (ptsOf impl_ExpWith.env (bodyOf Tryd.f11) (fun _ => retK Tryd.f11 (impl_ExpWith.ct m))) := allGood 0 (impl_ExpWith.n m) (fun i hi => match i with | i + 0 => absurd hi (by omega))
theorem impl_ExpWith.ordsOK : ordsB sg (impl_ExpWith.env 0).ords (bodyOf Tryd.f11) = true := by kernel_rfl
theorem impl_ExpWith.holds (k : Nat) : (impl_ExpWith.ct k).Holds Tryd.prog 11 :=
  fn_ok (fn := Tryd.f11) (body := (bodyOf Tryd.f11)) sg.ok sg.tab sg.mixed (by kernel_rfl) (by kernel_rfl) (by kernel_rfl) (impl_ExpWith.ct k) impl_ExpWith.env k (fun _ => by kernel_rfl) (fun _ => rfl) (fun _ => by kernel_rfl) (fun _ => rfl) (fun _ => rfl) (fun _ => rfl) impl_ExpWith.ordsOK (fun j hj => ctsOK (l := impl_ExpWith.cts j) ⟨(impl_ExpFormOk.holds j), (impl_expWith.holds j), trivial⟩) (impl_ExpWith.good k) (impl_ExpWith.eq k) (Nat.le_of_ble_eq_true (by kernel_rfl)) (by kernel_rfl) (by kernel_rfl) (by kernel_rfl) (fun h => by cases h)
def impl_expHas.p_l2 : Pat := ⟨[(1, .one (.val (.int .i64))), (7, .one (.val (.sl 3 (.int .i64)))), (8, .one (.val (.int .i64))), (9, .one (.val (.int .i64)))], []⟩
def impl_expHas.c_l2 : Cut sg (HL sg.S [.bool]) := ⟨impl_expHas.p_l2, [(.int .i64), (.sl 3 (.int .i64)), (.int .i64), (.int .i64)], fun k h => impl_expHas.l2 k h.1 h.2.1 h.2.2.1 h.2.2.2⟩
def impl_expHas.ct (k : Nat) : Ct sg := ⟨true, ⟨[(0, .one (.val (.sl 3 (.int .i64)))), (1, .one (.val (.int .i64)))], []⟩, ⟨[(0, .one (.val .bool))], []⟩, [(.sl 3 (.int .i64)), (.int .i64)], [.bool], fun h => impl_expHas.f k h.1 h.2⟩
def impl_expHas.cts (k : Nat) : List (Nat × Ct sg) := []
def impl_expHas.env (k : Nat) : Env sg (HL sg.S [.bool]) := ⟨17, [], k, get (impl_expHas.cts k), [(2, impl_expHas.c_l2)], [], []⟩
theorem impl_expHas.eq (k : Nat) (h : HL sg.S (impl_expHas.ct k).its) : (impl_expHas.ct k).F h = semF (impl_expHas.ct k) (impl_expHas.env k) Tryd.f80 (bodyOf Tryd.f80) h := by kernel_rfl
noncomputable def impl_expHas.pts (m : Nat) := used impl_expHas.env (ptsOf impl_expHas.env (bodyOf Tryd.f80) (fun _ => retK Tryd.f80 (impl_expHas.ct m)))
theorem impl_expHas.n (m : Nat) : len (impl_expHas.pts m) = 1 := by kernel_rfl
theorem impl_expHas.g0 (m : Nat) : AtGood impl_expHas.env (nth (impl_expHas.pts m) 0) := loopGood impl_expHas.c_l2 (by kernel_rfl) (by kernel_rfl) (fun _ => rfl) (fun k h => by kernel_rfl)
theorem impl_expHas.good (m : Nat) : AllGood impl_expHas.env (ptsOf impl_expHas.env (bodyOf Tryd.f80) (fun _ => retK Tryd.f80 (impl_expHas.ct m))) := allGood 1 (impl_expHas.n m) (fun i hi => match i with | 0 => impl_expHas.g0 m | i + 1 => absurd hi (by omega))
theorem impl_expHas.ordsOK : ordsB sg (impl_expHas.env 0).ords (bodyOf Tryd.f80) = true := by kernel_rfl
theorem impl_expHas.holds (k : Nat) : (impl_expHas.ct k).Holds Tryd.prog 80 :=
  fn_ok (fn := Tryd.f80) (body := (bodyOf Tryd.f80)) sg.ok sg.tab sg.mixed (by kernel_rfl) (by kernel_rfl) (by kernel_rfl) (impl_expHas.ct k) impl_expHas.env k (fun _ => by kernel_rfl) (fun _ => rfl) (fun _ => by kernel_rfl) (fun _ => rfl) (fun _ => rfl) (fun _ => rfl) impl_expHas.ordsOK (fun j hj => ctsOK (l := impl_expHas.cts j) trivial) (impl_expHas.good k) (impl_expHas.eq k) (Nat.le_of_ble_eq_true (by kernel_rfl)) (by kernel_rfl) (by kernel_rfl) (by kernel_rfl) (fun _ => by kernel_rfl)
def impl_expDrop.p_l3 : Pat := ⟨[(1, .one (.val (.int .i64))), (5, .one (.arr 0)), (8, .one (.val (.sl 3 (.int .i64)))), (9, .one (.val (.int .i64))), (10, .one (.val (.int .i64)))], [.arr 3 (.int .i64)]⟩
def impl_expDrop.c_l3 : Cut sg (HL sg.S [(.sl 3 (.int .i64))]) := ⟨impl_expDrop.p_l3, [(.int .i64), (.sl 3 (.int .i64)), (.int .i64), (.int .i64), (.sl 3 (.int .i64))], fun k h => impl_expDrop.l3 k h.1 h.2.1 h.2.2.1 h.2.2.2.1 h.2.2.2.2⟩
def impl_expDrop.ct (k : Nat) : Ct sg := ⟨false, ⟨[(0, .one (.val (.sl 3 (.int .i64)))), (1, .one (.val (.int .i64)))], []⟩, ⟨[(0, .one (.arr 0))], [.arr 3 (.int .i64)]⟩, [(.sl 3 (.int .i64)), (.int .i64)], [(.sl 3 (.int .i64))], fun h => impl_expDrop.f k h.1 h.2⟩
def impl_expDrop.cts (k : Nat) : List (Nat × Ct sg) := []
def impl_expDrop.env (k : Nat) : Env sg (HL sg.S [(.sl 3 (.int .i64))]) := ⟨23, [], k, get (impl_expDrop.cts k), [(3, impl_expDrop.c_l3)], [], []⟩
theorem impl_expDrop.eq (k : Nat) (h : HL sg.S (impl_expDrop.ct k).its) : (impl_expDrop.ct k).F h = semF (impl_expDrop.ct k) (impl_expDrop.env k) Tryd.f81 (bodyOf Tryd.f81) h := by kernel_rfl
noncomputable def impl_expDrop.pts (m : Nat) := used impl_expDrop.env (ptsOf impl_expDrop.env (bodyOf Tryd.f81) (fun _ => retK Tryd.f81 (impl_expDrop.ct m)))
theorem impl_expDrop.n (m : Nat) : len (impl_expDrop.pts m) = 1 := by kernel_rfl
theorem impl_expDrop.g0 (m : Nat) : AtGood impl_expDrop.env (nth (impl_expDrop.pts m) 0) := loopGood impl_expDrop.c_l3 (by kernel_rfl) (by kernel_rfl) (fun _ => rfl) (fun k h => by kernel_rfl)
theorem impl_expDrop.good (m : Nat) : AllGood impl_expDrop.env (ptsOf impl_expDrop.env (bodyOf Tryd.f81) (fun _ => retK Tryd.f81 (impl_expDrop.ct m))) := allGood 1 (impl_expDrop.n m) (fun i hi => match i with | 0 => impl_expDrop.g0 m | i + 1 => absurd hi (by omega))
theorem impl_expDrop.ordsOK : ordsB sg (impl_expDrop.env 0).ords (bodyOf Tryd.f81) = true := by kernel_rfl
theorem impl_expDrop.holds (k : Nat) : (impl_expDrop.ct k).Holds Tryd.prog 81 :=
  fn_ok (fn := Tryd.f81) (body := (bodyOf Tryd.f81)) sg.ok sg.tab sg.mixed (by kernel_rfl) (by kernel_rfl) (by kernel_rfl) (impl_expDrop.ct k) impl_expDrop.env k (fun _ => by kernel_rfl) (fun _ => rfl) (fun _ => by kernel_rfl) (fun _ => rfl) (fun _ => rfl) (fun _ => rfl) impl_expDrop.ordsOK (fun j hj => ctsOK (l := impl_expDrop.cts j) trivial) (impl_expDrop.good k) (impl_expDrop.eq k) (Nat.le_of_ble_eq_true (by kernel_rfl)) (by kernel_rfl) (by kernel_rfl) (by kernel_rfl) (fun h => by cases h)
def impl_expFlip_1.ct (k : Nat) : Ct sg := ⟨false, ⟨[(0, .one (.val (.sl 3 (.int .i64)))), (1, .one (.ptr 0 0))], [.cells [] [.val (.int .i64)]]⟩, ⟨[(0, .one (.arr 1))], [.cells [] [.val (.int .i64)], .arr 3 (.int .i64)]⟩, [(.sl 3 (.int .i64)), (.int .i64)], [(.int .i64), (.sl 3 (.int .i64))], fun h => impl_expFlip_1.f k h.1 h.2⟩
def impl_expFlip_1.cts (k : Nat) : List (Nat × Ct sg) := [(69, impl_expAdd.ct k), (80, impl_expHas.ct k), (81, impl_expDrop.ct k)]
def impl_expFlip_1.env (k : Nat) : Env sg (HL sg.S [(.int .i64), (.sl 3 (.int .i64))]) := ⟨13, [0], k, get (impl_expFlip_1.cts k), [], [], []⟩
theorem impl_expFlip_1.eq (k : Nat) (h : HL sg.S (impl_expFlip_1.ct k).its) : (impl_expFlip_1.ct k).F h = semF (impl_expFlip_1.ct k) (impl_expFlip_1.env k) Tryd.f79 (bodyOf Tryd.f79) h := by kernel_rfl
noncomputable def impl_expFlip_1.pts (m : Nat) := used impl_expFlip_1.env (ptsOf impl_expFlip_1.env (bodyOf Tryd.f79) (fun _ => retK Tryd.f79 (impl_expFlip_1.ct m)))
theorem impl_expFlip_1.n (m : Nat) : len (impl_expFlip_1.pts m) = 0 := by kernel_rfl
theorem impl_expFlip_1.good (m : Nat) : AllGood impl_expFlip_1.env (ptsOf impl_expFlip_1.env (bodyOf Tryd.f79) (fun _ => retK Tryd.f79 (impl_expFlip_1.ct m))) := allGood 0 (impl_expFlip_1.n m) (fun i hi => match i with | i + 0 => absurd hi (by omega))
theorem impl_expFlip_1.ordsOK : ordsB sg (impl_expFlip_1.env 0).ords (bodyOf Tryd.f79) = true := by kernel_rfl
theorem impl_expFlip_1.holds (k : Nat) : (impl_expFlip_1.ct k).Holds Tryd.prog 79 :=
  fn_ok (fn := Tryd.f79) (body := (bodyOf Tryd.f79)) sg.ok sg.tab sg.mixed (by kernel_rfl) (by kernel_rfl) (by kernel_rfl) (impl_expFlip_1.ct k) impl_expFlip_1.env k (fun _ => by kernel_rfl) (fun _ => rfl) (fun _ => by kernel_rfl) (fun _ => rfl) (fun _ => rfl) (fun _ => rfl) impl_expFlip_1.ordsOK (fun j hj => ctsOK (l := impl_expFlip_1.cts j) ⟨(impl_expAdd.holds j), (impl_expHas.holds j), (impl_expDrop.holds j), trivial⟩) (impl_expFlip_1.good k) (impl_expFlip_1.eq k) (Nat.le_of_ble_eq_true (by kernel_rfl)) (by kernel_rfl) (by kernel_rfl) (by kernel_rfl) (fun h => by cases h)
def impl_expMap__a.p_l6 : Pat := ⟨[(1, .one (.fn 79 [0])), (2, .one (.ptr 1 0)), (4, .one (.ptr 2 0)), (5, .one (.arr 3)), (18, .one (.val (.sl 29 (.st 0)))), (19, .one (.val (.int .i64))), (20, .one (.val (.int .i64)))], [.cells [] [.val (.int .i64)], .cells [] [.val (.int .i64), .val .str, .val (.sl 3 (.int .i64)), .val (.int .i64), .any], .cells [] [.any, .any, .any, .any, .any], .arr 29 (.st 0)]⟩
def impl_expMap__a.c_l6 : Cut sg (HL sg.S [(.st 0), (.int .i64)]) := ⟨impl_expMap__a.p_l6, [(.sl 29 (.st 0)), (.int .i64), (.int .i64), (.int .i64), (.int .i64), .str, (.sl 3 (.int .i64)), (.int .i64), (.sl 29 (.st 0))], fun k h => impl_expMap__a.l6 k h.1 h.2.1 h.2.2.1 h.2.2.2.1 h.2.2.2.2.1 h.2.2.2.2.2.1 h.2.2.2.2.2.2.1 h.2.2.2.2.2.2.2.1 h.2.2.2.2.2.2.2.2⟩
def impl_expMap__a.ct (k : Nat) : Ct sg := ⟨false, ⟨[(0, .st 0), (1, .one (.fn 79 [0]))], [.cells [] [.val (.int .i64)]]⟩, ⟨[(0, .st 0)], [.cells [] [.val (.int .i64)]]⟩, [(.st 0), (.int .i64)], [(.st 0), (.int .i64)], fun h => impl_expMap__a.f k h.1 h.2⟩
def impl_expMap__a.cts (k : Nat) : List (Nat × Ct sg) := [(67, impl_expMap__a.ct k), (79, impl_expFlip_1.ct k)]
def impl_expMap__a.env (k : Nat) : Env sg (HL sg.S [(.st 0), (.int .i64)]) := ⟨34, [0], k, get (impl_expMap__a.cts k), [(6, impl_expMap__a.c_l6)], [], []⟩
theorem impl_expMap__a.eq (k : Nat) (h : HL sg.S (impl_expMap__a.ct (k + 1)).its) : (impl_expMap__a.ct (k + 1)).F h = semF (impl_expMap__a.ct (k + 1)) (impl_expMap__a.env k) Tryd.f67 (bodyOf Tryd.f67) h := by kernel_rfl
noncomputable def impl_expMap__a.pts (m : Nat) := used impl_expMap__a.env (ptsOf impl_expMap__a.env (bodyOf Tryd.f67) (fun _ => retK Tryd.f67 (impl_expMap__a.ct m)))
theorem impl_expMap__a.n (m : Nat) : len (impl_expMap__a.pts m) = 1 := by kernel_rfl
theorem impl_expMap__a.g0 (m : Nat) : AtGood impl_expMap__a.env (nth (impl_expMap__a.pts m) 0) := loopGood impl_expMap__a.c_l6 (by kernel_rfl) (by kernel_rfl) (fun _ => rfl) (fun k h => by kernel_rfl)
theorem impl_expMap__a.good (m : Nat) : AllGood impl_expMap__a.env (ptsOf impl_expMap__a.env (bodyOf Tryd.f67) (fun _ => retK Tryd.f67 (impl_expMap__a.ct m))) := allGood 1 (impl_expMap__a.n m) (fun i hi => match i with | 0 => impl_expMap__a.g0 m | i + 1 => absurd hi (by omega))
theorem impl_expMap__a.ordsOK : ordsB sg (impl_expMap__a.env 0).ords (bodyOf Tryd.f67) = true := by kernel_rfl
theorem impl_expMap__a.all (k : Nat) : (impl_expMap__a.ct k).Holds Tryd.prog 67 := by
  induction k using Nat.strongRecOn with
  | _ k ih => cases k with
    | zero => exact ⟨by kernel_rfl, by kernel_rfl, (fun h => by cases h), fun _ _ _ _ _ _ _ h => absurd (show none = some _ from h) (by intro e; cases e)⟩
    | succ k => exact fn_ok (fn := Tryd.f67) (body := (bodyOf Tryd.f67)) sg.ok sg.tab sg.mixed (by kernel_rfl) (by kernel_rfl) (by kernel_rfl) (impl_expMap__a.ct (k + 1)) impl_expMap__a.env k (fun _ => by kernel_rfl) (fun _ => rfl) (fun _ => by kernel_rfl) (fun _ => rfl) (fun _ => rfl) (fun _ => rfl) impl_expMap__a.ordsOK (fun j hj => ctsOK (l := impl_expMap__a.cts j) ⟨(ih j (by omega)), (impl_expFlip_1.holds j), trivial⟩) (impl_expMap__a.good (k + 1)) (impl_expMap__a.eq k) (Nat.le_of_ble_eq_true (by kernel_rfl)) (by kernel_rfl) (by kernel_rfl) (by kernel_rfl) (fun h => by cases h)
theorem impl_expMap__a.holds (k : Nat) : (impl_expMap__a.ct k).Holds Tryd.prog 67 := (impl_expMap__a.all k)
def impl_expFlip.ct (k : Nat) : Ct sg := ⟨false, ⟨[(0, .st 0), (1, .one (.val (.int .i64)))], []⟩, ⟨[(0, .st 0)], []⟩, [(.st 0), (.int .i64)], [(.st 0)], fun h => impl_expFlip.f k h.1 h.2⟩
def impl_expFlip.cts (k : Nat) : List (Nat × Ct sg) := [(67, impl_expMap__a.ct k)]
def impl_expFlip.env (k : Nat) : Env sg (HL sg.S [(.st 0)]) := ⟨8, [], k, get (impl_expFlip.cts k), [], [], []⟩
theorem impl_expFlip.eq (k : Nat) (h : HL sg.S (impl_expFlip.ct k).its) : (impl_expFlip.ct k).F h = semF (impl_expFlip.ct k) (impl_expFlip.env k) Tryd.f49 (bodyOf Tryd.f49) h := by kernel_rfl
noncomputable def impl_expFlip.pts (m : Nat) := used impl_expFlip.env (ptsOf impl_expFlip.env (bodyOf Tryd.f49) (fun _ => retK Tryd.f49 (impl_expFlip.ct m)))
theorem impl_expFlip.n (m : Nat) : len (impl_expFlip.pts m) = 0 := by kernel_rfl
theorem impl_expFlip.good (m : Nat) : AllGood impl_expFlip.env (ptsOf impl_expFlip.env (bodyOf Tryd.f49) (fun _ => retK Tryd.f49 (impl_expFlip.ct m))) := allGood 0 (impl_expFlip.n m) (fun i hi => match i with | i + 0 => absurd hi (by omega))
theorem impl_expFlip.ordsOK : ordsB sg (impl_expFlip.env 0).ords (bodyOf Tryd.f49) = true := by kernel_rfl
theorem impl_expFlip.holds (k : Nat) : (impl_expFlip.ct k).Holds Tryd.prog 49 :=
  fn_ok (fn := Tryd.f49) (body := (bodyOf Tryd.f49)) sg.ok sg.tab sg.mixed (by kernel_rfl) (by kernel_rfl) (by kernel_rfl) (impl_expFlip.ct k) impl_expFlip.env k (fun _ => by kernel_rfl) (fun _ => rfl) (fun _ => by kernel_rfl) (fun _ => rfl) (fun _ => rfl) (fun _ => rfl) impl_expFlip.ordsOK (fun j hj => ctsOK (l := impl_expFlip.cts j) ⟨(impl_expMap__a.holds j), trivial⟩) (impl_expFlip.good k) (impl_expFlip.eq k) (Nat.le_of_ble_eq_true (by kernel_rfl)) (by kernel_rfl) (by kernel_rfl) (by kernel_rfl) (fun h => by cases h)
def impl_ExpFlip.ct (k : Nat) : Ct sg := ⟨false, ⟨[(0, .st 0), (1, .one (.val (.int .i64)))], []⟩, ⟨[(0, .st 0)], []⟩, [(.st 0), (.int .i64)], [(.st 0)], fun h => impl_ExpFlip.f k h.1 h.2⟩
def impl_ExpFlip.cts (k : Nat) : List (Nat × Ct sg) := [(24, impl_ExpFormOk.ct k), (49, impl_expFlip.ct k)]
def impl_ExpFlip.env (k : Nat) : Env sg (HL sg.S [(.st 0)]) := ⟨16, [], k, get (impl_ExpFlip.cts k), [], [], []⟩
theorem impl_ExpFlip.eq (k : Nat) (h : HL sg.S (impl_ExpFlip.ct k).its) : (impl_ExpFlip.ct k).F h = semF (impl_ExpFlip.ct k) (impl_ExpFlip.env k) Tryd.f21 (bodyOf Tryd.f21) h := by kernel_rfl
noncomputable def impl_ExpFlip.pts (m : Nat) := used impl_ExpFlip.env (ptsOf impl_ExpFlip.env (bodyOf Tryd.f21) (fun _ => retK Tryd.f21 (impl_ExpFlip.ct m)))
theorem impl_ExpFlip.n (m : Nat) : len (impl_ExpFlip.pts m) = 0 := by kernel_rfl
theorem impl_ExpFlip.good (m : Nat) : AllGood impl_ExpFlip.env (ptsOf impl_ExpFlip.env (bodyOf Tryd.f21) (fun _ => retK Tryd.f21 (impl_ExpFlip.ct m))) := allGood 0 (impl_ExpFlip.n m) (fun i hi => match i with | i + 0 => absurd hi (by omega))
theorem impl_ExpFlip.ordsOK : ordsB sg (impl_ExpFlip.env 0).ords (bodyOf Tryd.f21) = true := by kernel_rfl
theorem impl_ExpFlip.holds (k : Nat) : (impl_ExpFlip.ct k).Holds Tryd.prog 21 :=
  fn_ok (fn := Tryd.f21) (body := (bodyOf Tryd.f21)) sg.ok sg.tab sg.mixed (by kernel_rfl) (by kernel_rfl) (by kernel_rfl) (impl_ExpFlip.ct k) impl_ExpFlip.env k (fun _ => by kernel_rfl) (fun _ => rfl) (fun _ => by kernel_rfl) (fun _ => rfl) (fun _ => rfl) (fun _ => rfl) impl_ExpFlip.ordsOK (fun j hj => ctsOK (l := impl_ExpFlip.cts j) ⟨(impl_ExpFormOk.holds j), (impl_expFlip.holds j), trivial⟩) (impl_ExpFlip.good k) (impl_ExpFlip.eq k) (Nat.le_of_ble_eq_true (by kernel_rfl)) (by kernel_rfl) (by kernel_rfl) (by kernel_rfl) (fun h => by cases h)
def spec_l1Digits.p_l2 : Pat := ⟨[(0, .one (.val .str)), (3, .one (.val (.int .i64)))], []⟩
def spec_l1Digits.c_l2 : Cut sg (HL sg.S [.bool]) := ⟨spec_l1Digits.p_l2, [.str, (.int .i64)], fun k h => spec_l1Digits.l2 k h.1 h.2⟩
def spec_l1Digits.ct (k : Nat) : Ct sg := ⟨true, ⟨[(0, .one (.val .str))], []⟩, ⟨[(0, .one (.val .bool))], []⟩, [.str], [.bool], fun h => spec_l1Digits.f k h⟩
def spec_l1Digits.cts (k : Nat) : List (Nat × Ct sg) := []
def spec_l1Digits.env (k : Nat) : Env sg (HL sg.S [.bool]) := ⟨23, [], k, get (spec_l1Digits.cts k), [(2, spec_l1Digits.c_l2)], [], []⟩
theorem spec_l1Digits.eq (k : Nat) (h : HL sg.S (spec_l1Digits.ct k).its) : (spec_l1Digits.ct k).F h = semF (spec_l1Digits.ct k) (spec_l1Digits.env k) Tryd.f101 (bodyOf Tryd.f101) h := by kernel_rfl
noncomputable def spec_l1Digits.pts (m : Nat) := used spec_l1Digits.env (ptsOf spec_l1Digits.env (bodyOf Tryd.f101) (fun _ => retK Tryd.f101 (spec_l1Digits.ct m)))
theorem spec_l1Digits.n (m : Nat) : len (spec_l1Digits.pts m) = 1 := by kernel_rfl
theorem spec_l1Digits.g0 (m : Nat) : AtGood spec_l1Digits.env (nth (spec_l1Digits.pts m) 0) := loopGood spec_l1Digits.c_l2 (by kernel_rfl) (by kernel_rfl) (fun _ => rfl) (fun k h => by kernel_rfl)
theorem spec_l1Digits.good (m : Nat) : AllGood spec_l1Digits.env (ptsOf spec_l1Digits.env (bodyOf Tryd.f101) (fun _ => retK Tryd.f101 (spec_l1Digits.ct m))) := allGood 1 (spec_l1Digits.n m) (fun i hi => match i with | 0 => spec_l1Digits.g0 m | i + 1 => absurd hi (by omega))
theorem spec_l1Digits.ordsOK : ordsB sg (spec_l1Digits.env 0).ords (bodyOf Tryd.f101) = true := by kernel_rfl
theorem spec_l1Digits.holds (k : Nat) : (spec_l1Digits.ct k).Holds Tryd.prog 101 :=
  fn_ok (fn := Tryd.f101) (body := (bodyOf Tryd.f101)) sg.ok sg.tab sg.mixed (by kernel_rfl) (by kernel_rfl) (by kernel_rfl) (spec_l1Digits.ct k) spec_l1Digits.env k (fun _ => by kernel_rfl) (fun _ => rfl) (fun _ => by kernel_rfl) (fun _ => rfl) (fun _ => rfl) (fun _ => rfl) spec_l1Digits.ordsOK (fun j hj => ctsOK (l := spec_l1Digits.cts j) trivial) (spec_l1Digits.good k) (spec_l1Digits.eq k) (Nat.le_of_ble_eq_true (by kernel_rfl)) (by kernel_rfl) (by kernel_rfl) (by kernel_rfl) (fun _ => by kernel_rfl)
def spec_l1AtomOk.p_j3 : Pat := ⟨[(0, .one (.val .str))], []⟩
def spec_l1AtomOk.c_j3 : Cut sg (HL sg.S [.bool]) := ⟨spec_l1AtomOk.p_j3, [.str], fun k h => spec_l1AtomOk.j3 k h⟩
def spec_l1AtomOk.p_j5 : Pat := ⟨[(0, .one (.val .str))], []⟩
def spec_l1AtomOk.c_j5 : Cut sg (HL sg.S [.bool]) := ⟨spec_l1AtomOk.p_j5, [.str], fun k h => spec_l1AtomOk.j5 k h⟩
def spec_l1AtomOk.p_l6 : Pat := ⟨[(0, .one (.val .str)), (3, .one (.val (.int .i64)))], []⟩
def spec_l1AtomOk.c_l6 : Cut sg (HL sg.S [.bool]) := ⟨spec_l1AtomOk.p_l6, [.str, (.int .i64)], fun k h => spec_l1AtomOk.l6 k h.1 h.2⟩
def spec_l1AtomOk.ct (k : Nat) : Ct sg := ⟨true, ⟨[(0, .one (.val .str))], []⟩, ⟨[(0, .one (.val .bool))], []⟩, [.str], [.bool], fun h => spec_l1AtomOk.f k h⟩
def spec_l1AtomOk.cts (k : Nat) : List (Nat × Ct sg) := [(101, spec_l1Digits.ct k)]
def spec_l1AtomOk.env (k : Nat) : Env sg (HL sg.S [.bool]) := ⟨68, [], k, get (spec_l1AtomOk.cts k), [(6, spec_l1AtomOk.c_l6)], [(3, spec_l1AtomOk.c_j3), (5, spec_l1AtomOk.c_j5)], []⟩
theorem spec_l1AtomOk.eq (k : Nat) (h : HL sg.S (spec_l1AtomOk.ct k).its) : (spec_l1AtomOk.ct k).F h = semF (spec_l1AtomOk.ct k) (spec_l1AtomOk.env k) Tryd.f88 (bodyOf Tryd.f88) h := by kernel_rfl
noncomputable def spec_l1AtomOk.pts (m : Nat) := used spec_l1AtomOk.env (ptsOf spec_l1AtomOk.env (bodyOf Tryd.f88) (fun _ => retK Tryd.f88 (spec_l1AtomOk.ct m)))
theorem spec_l1AtomOk.n (m : Nat) : len (spec_l1AtomOk.pts m) = 3 := by kernel_rfl
theorem spec_l1AtomOk.g0 (m : Nat) : AtGood spec_l1AtomOk.env (nth (spec_l1AtomOk.pts m) 0) := joinGood spec_l1AtomOk.c_j3 (by kernel_rfl) (by kernel_rfl) (fun k h => by kernel_rfl)
theorem spec_l1AtomOk.g1 (m : Nat) : AtGood spec_l1AtomOk.env (nth (spec_l1AtomOk.pts m) 1) := joinGood spec_l1AtomOk.c_j5 (by kernel_rfl) (by kernel_rfl) (fun k h => by kernel_rfl)
theorem spec_l1AtomOk.g2 (m : Nat) : AtGood spec_l1AtomOk.env (nth (spec_l1AtomOk.pts m) 2) := loopGood spec_l1AtomOk.c_l6 (by kernel_rfl) (by kernel_rfl) (fun _ => rfl) (fun k h => by kernel_rfl)
theorem spec_l1AtomOk.good (m : Nat) : AllGood spec_l1AtomOk.env (ptsOf spec_l1AtomOk.env (bodyOf Tryd.f88) (fun _ => retK Tryd.f88 (spec_l1AtomOk.ct m))) := allGood 3 (spec_l1AtomOk.n m) (fun i hi => match i with | 0 => spec_l1AtomOk.g0 m | 1 => spec_l1AtomOk.g1 m | 2 => spec_l1AtomOk.g2 m | i + 3 => absurd hi (by omega))
theorem spec_l1AtomOk.ordsOK : ordsB sg (spec_l1AtomOk.env 0).ords (bodyOf Tryd.f88) = true := by kernel_rfl
theorem spec_l1AtomOk.holds (k : Nat) : (spec_l1AtomOk.ct k).Holds Tryd.prog 88 :=
  fn_ok (fn := Tryd.f88) (body := (bodyOf Tryd.f88)) sg.ok sg.tab sg.mixed (by kernel_rfl) (by kernel_rfl) (by kernel_rfl) (spec_l1AtomOk.ct k) spec_l1AtomOk.env k (fun _ => by kernel_rfl) (fun _ => rfl) (fun _ => by kernel_rfl) (fun _ => rfl) (fun _ => rfl) (fun _ => rfl) spec_l1AtomOk.ordsOK (fun j hj => ctsOK (l := spec_l1AtomOk.cts j) ⟨(spec_l1Digits.holds j), trivial⟩) (spec_l1AtomOk.good k) (spec_l1AtomOk.eq k) (Nat.le_of_ble_eq_true (by kernel_rfl)) (by kernel_rfl) (by kernel_rfl) (by kernel_rfl) (fun _ => by kernel_rfl)
def spec_l1Blank.ct (k : Nat) : Ct sg := ⟨true, ⟨[(0, .one (.val (.int .u8)))], []⟩, ⟨[(0, .one (.val .bool))], []⟩, [(.int .u8)], [.bool], fun h => spec_l1Blank.f k h⟩
def spec_l1Blank.cts (k : Nat) : List (Nat × Ct sg) := []
def spec_l1Blank.env (k : Nat) : Env sg (HL sg.S [.bool]) := ⟨9, [], k, get (spec_l1Blank.cts k), [], [], []⟩
theorem spec_l1Blank.eq (k : Nat) (h : HL sg.S (spec_l1Blank.ct k).its) : (spec_l1Blank.ct k).F h = semF (spec_l1Blank.ct k) (spec_l1Blank.env k) Tryd.f115 (bodyOf Tryd.f115) h := by kernel_rfl
noncomputable def spec_l1Blank.pts (m : Nat) := used spec_l1Blank.env (ptsOf spec_l1Blank.env (bodyOf Tryd.f115) (fun _ => retK Tryd.f115 (spec_l1Blank.ct m)))
theorem spec_l1Blank.n (m : Nat) : len (spec_l1Blank.pts m) = 0 := by kernel_rfl
theorem spec_l1Blank.good (m : Nat) : AllGood spec_l1Blank.env (ptsOf spec_l1Blank.env (bodyOf Tryd.f115) (fun _ => retK Tryd.f115 (spec_l1Blank.ct m))) := allGood 0 (spec_l1Blank.n m) (fun i hi => match i with | i + 0 => absurd hi (by omega))
theorem spec_l1Blank.ordsOK : ordsB sg (spec_l1Blank.env 0).ords (bodyOf Tryd.f115) = true := by kernel_rfl
theorem spec_l1Blank.holds (k : Nat) : (spec_l1Blank.ct k).Holds Tryd.prog 115 :=
  fn_ok (fn := Tryd.f115) (body := (bodyOf Tryd.f115)) sg.ok sg.tab sg.mixed (by kernel_rfl) (by kernel_rfl) (by kernel_rfl) (spec_l1Blank.ct k) spec_l1Blank.env k (fun _ => by kernel_rfl) (fun _ => rfl) (fun _ => by kernel_rfl) (fun _ => rfl) (fun _ => rfl) (fun _ => rfl) spec_l1Blank.ordsOK (fun j hj => ctsOK (l := spec_l1Blank.cts j) trivial) (spec_l1Blank.good k) (spec_l1Blank.eq k) (Nat.le_of_ble_eq_true (by kernel_rfl)) (by kernel_rfl) (by kernel_rfl) (by kernel_rfl) (fun _ => by kernel_rfl)
def spec_l1Ends.ct (k : Nat) : Ct sg := ⟨true, ⟨[(0, .one (.val (.int .u8)))], []⟩, ⟨[(0, .one (.val .bool))], []⟩, [(.int .u8)], [.bool], fun h => spec_l1Ends.f k h⟩
def spec_l1Ends.cts (k : Nat) : List (Nat × Ct sg) := [(115, spec_l1Blank.ct k)]
def spec_l1Ends.env (k : Nat) : Env sg (HL sg.S [.bool]) := ⟨21, [], k, get (spec_l1Ends.cts k), [], [], []⟩
theorem spec_l1Ends.eq (k : Nat) (h : HL sg.S (spec_l1Ends.ct k).its) : (spec_l1Ends.ct k).F h = semF (spec_l1Ends.ct k) (spec_l1Ends.env k) Tryd.f100 (bodyOf Tryd.f100) h := by kernel_rfl
noncomputable def spec_l1Ends.pts (m : Nat) := used spec_l1Ends.env (ptsOf spec_l1Ends.env (bodyOf Tryd.f100) (fun _ => retK Tryd.f100 (spec_l1Ends.ct m)))
theorem spec_l1Ends.n (m : Nat) : len (spec_l1Ends.pts m) = 0 := by kernel_rfl
theorem spec_l1Ends.good (m : Nat) : AllGood spec_l1Ends.env (ptsOf spec_l1Ends.env (bodyOf Tryd.f100) (fun _ => retK Tryd.f100 (spec_l1Ends.ct m))) := allGood 0 (spec_l1Ends.n m) (fun i hi => match i with | i + 0 => absurd hi (by omega))
theorem spec_l1Ends.ordsOK : ordsB sg (spec_l1Ends.env 0).ords (bodyOf Tryd.f100) = true := by kernel_rfl
theorem spec_l1Ends.holds (k : Nat) : (spec_l1Ends.ct k).Holds Tryd.prog 100 :=
  fn_ok (fn := Tryd.f100) (body := (bodyOf Tryd.f100)) sg.ok sg.tab sg.mixed (by kernel_rfl) (by kernel_rfl) (by kernel_rfl) (spec_l1Ends.ct k) spec_l1Ends.env k (fun _ => by kernel_rfl) (fun _ => rfl) (fun _ => by kernel_rfl) (fun _ => rfl) (fun _ => rfl) (fun _ => rfl) spec_l1Ends.ordsOK (fun j hj => ctsOK (l := spec_l1Ends.cts j) ⟨(spec_l1Blank.holds j), trivial⟩) (spec_l1Ends.good k) (spec_l1Ends.eq k) (Nat.le_of_ble_eq_true (by kernel_rfl)) (by kernel_rfl) (by kernel_rfl) (by kernel_rfl) (fun _ => by kernel_rfl)
def spec_l1IdOk.p_j3 : Pat := ⟨[(0, .one (.val .str))], []⟩
def spec_l1IdOk.c_j3 : Cut sg (HL sg.S [.bool]) := ⟨spec_l1IdOk.p_j3, [.str], fun k h => spec_l1IdOk.j3 k h⟩
def spec_l1IdOk.p_l4 : Pat := ⟨[(0, .one (.val .str)), (3, .one (.val (.int .i64)))], []⟩
def spec_l1IdOk.c_l4 : Cut sg (HL sg.S [.bool]) := ⟨spec_l1IdOk.p_l4, [.str, (.int .i64)], fun k h => spec_l1IdOk.l4 k h.1 h.2⟩
def spec_l1IdOk.ct (k : Nat) : Ct sg := ⟨true, ⟨[(0, .one (.val .str))], []⟩, ⟨[(0, .one (.val .bool))], []⟩, [.str], [.bool], fun h => spec_l1IdOk.f k h⟩
def spec_l1IdOk.cts (k : Nat) : List (Nat × Ct sg) := [(88, spec_l1AtomOk.ct k), (100, spec_l1Ends.ct k)]
def spec_l1IdOk.env (k : Nat) : Env sg (HL sg.S [.bool]) := ⟨47, [], k, get (spec_l1IdOk.cts k), [(4, spec_l1IdOk.c_l4)], [(3, spec_l1IdOk.c_j3)], []⟩
theorem spec_l1IdOk.eq (k : Nat) (h : HL sg.S (spec_l1IdOk.ct k).its) : (spec_l1IdOk.ct k).F h = semF (spec_l1IdOk.ct k) (spec_l1IdOk.env k) Tryd.f86 (bodyOf Tryd.f86) h := by kernel_rfl
noncomputable def spec_l1IdOk.pts (m : Nat) := used spec_l1IdOk.env (ptsOf spec_l1IdOk.env (bodyOf Tryd.f86) (fun _ => retK Tryd.f86 (spec_l1IdOk.ct m)))
theorem spec_l1IdOk.n (m : Nat) : len (spec_l1IdOk.pts m) = 2 := by kernel_rfl
theorem spec_l1IdOk.g0 (m : Nat) : AtGood spec_l1IdOk.env (nth (spec_l1IdOk.pts m) 0) := joinGood spec_l1IdOk.c_j3 (by kernel_rfl) (by kernel_rfl) (fun k h => by kernel_rfl)
theorem spec_l1IdOk.g1 (m : Nat) : AtGood spec_l1IdOk.env (nth (spec_l1IdOk.pts m) 1) := loopGood spec_l1IdOk.c_l4 (by kernel_rfl) (by kernel_rfl) (fun _ => rfl) (fun k h => by kernel_rfl)
theorem spec_l1IdOk.good (m : Nat) : AllGood spec_l1IdOk.env (ptsOf spec_l1IdOk.env (bodyOf Tryd.f86) (fun _ => retK Tryd.f86 (spec_l1IdOk.ct m))) := allGood 2 (spec_l1IdOk.n m) (fun i hi => match i with | 0 => spec_l1IdOk.g0 m | 1 => spec_l1IdOk.g1 m | i + 2 => absurd hi (by omega))
theorem spec_l1IdOk.ordsOK : ordsB sg (spec_l1IdOk.env 0).ords (bodyOf Tryd.f86) = true := by kernel_rfl
theorem spec_l1IdOk.holds (k : Nat) : (spec_l1IdOk.ct k).Holds Tryd.prog 86 :=
  fn_ok (fn := Tryd.f86) (body := (bodyOf Tryd.f86)) sg.ok sg.tab sg.mixed (by kernel_rfl) (by kernel_rfl) (by kernel_rfl) (spec_l1IdOk.ct k) spec_l1IdOk.env k (fun _ => by kernel_rfl) (fun _ => rfl) (fun _ => by kernel_rfl) (fun _ => rfl) (fun _ => rfl) (fun _ => rfl) spec_l1IdOk.ordsOK (fun j hj => ctsOK (l := spec_l1IdOk.cts j) ⟨(spec_l1AtomOk.holds j), (spec_l1Ends.holds j), trivial⟩) (spec_l1IdOk.good k) (spec_l1IdOk.eq k) (Nat.le_of_ble_eq_true (by kernel_rfl)) (by kernel_rfl) (by kernel_rfl) (by kernel_rfl) (fun _ => by kernel_rfl)
def spec_l1ScopesOk.p_l2 : Pat := ⟨[(0, .one (.val (.sl 3 (.int .i64)))), (3, .one (.val (.int .i64)))], []⟩
def spec_l1ScopesOk.c_l2 : Cut sg (HL sg.S [.bool]) := ⟨spec_l1ScopesOk.p_l2, [(.sl 3 (.int .i64)), (.int .i64)], fun k h => spec_l1ScopesOk.l2 k h.1 h.2⟩
def spec_l1ScopesOk.ct (k : Nat) : Ct sg := ⟨true, ⟨[(0, .one (.val (.sl 3 (.int .i64))))], []⟩, ⟨[(0, .one (.val .bool))], []⟩, [(.sl 3 (.int .i64))], [.bool], fun h => spec_l1ScopesOk.f k h⟩
def spec_l1ScopesOk.cts (k : Nat) : List (Nat × Ct sg) := []
def spec_l1ScopesOk.env (k : Nat) : Env sg (HL sg.S [.bool]) := ⟨31, [], k, get (spec_l1ScopesOk.cts k), [(2, spec_l1ScopesOk.c_l2)], [], [(4, [[0, 1, 2, 3, 4, 5, 6, 7, 8, 9, 10, 11, 12, 13, 14, 15, 16, 17, 18, 19, 20]])]⟩
theorem spec_l1ScopesOk.eq (k : Nat) (h : HL sg.S (spec_l1ScopesOk.ct k).its) : (spec_l1ScopesOk.ct k).F h = semF (spec_l1ScopesOk.ct k) (spec_l1ScopesOk.env k) Tryd.f87 (bodyOf Tryd.f87) h := by kernel_rfl
noncomputable def spec_l1ScopesOk.pts (m : Nat) := used spec_l1ScopesOk.env (ptsOf spec_l1ScopesOk.env (bodyOf Tryd.f87) (fun _ => retK Tryd.f87 (spec_l1ScopesOk.ct m)))
theorem spec_l1ScopesOk.n (m : Nat) : len (spec_l1ScopesOk.pts m) = 1 := by kernel_rfl
theorem spec_l1ScopesOk.g0 (m : Nat) : AtGood spec_l1ScopesOk.env (nth (spec_l1ScopesOk.pts m) 0) := loopGood spec_l1ScopesOk.c_l2 (by kernel_rfl) (by kernel_rfl) (fun _ => rfl) (fun k h => by kernel_rfl)
theorem spec_l1ScopesOk.good (m : Nat) : AllGood spec_l1ScopesOk.env (ptsOf spec_l1ScopesOk.env (bodyOf Tryd.f87) (fun _ => retK Tryd.f87 (spec_l1ScopesOk.ct m))) := allGood 1 (spec_l1ScopesOk.n m) (fun i hi => match i with | 0 => spec_l1ScopesOk.g0 m | i + 1 => absurd hi (by omega))
theorem spec_l1ScopesOk.ordsOK : ordsB sg (spec_l1ScopesOk.env 0).ords (bodyOf Tryd.f87) = true := by kernel_rfl
theorem spec_l1ScopesOk.holds (k : Nat) : (spec_l1ScopesOk.ct k).Holds Tryd.prog 87 :=
  fn_ok (fn := Tryd.f87) (body := (bodyOf Tryd.f87)) sg.ok sg.tab sg.mixed (by kernel_rfl) (by kernel_rfl) (by kernel_rfl) (spec_l1ScopesOk.ct k) spec_l1ScopesOk.env k (fun _ => by kernel_rfl) (fun _ => rfl) (fun _ => by kernel_rfl) (fun _ => rfl) (fun _ => rfl) (fun _ => rfl) spec_l1ScopesOk.ordsOK (fun j hj => ctsOK (l := spec_l1ScopesOk.cts j) trivial) (spec_l1ScopesOk.good k) (spec_l1ScopesOk.eq k) (Nat.le_of_ble_eq_true (by kernel_rfl)) (by kernel_rfl) (by kernel_rfl) (by kernel_rfl) (fun _ => by kernel_rfl)
def spec_l1Ok.p_j11 : Pat := ⟨[(1, .one (.val (.int .i64))), (2, .one (.ptr 0 0)), (64, .one (.val .bool))], [.cells [] [.val (.int .i64), .val .str, .val (.sl 3 (.int .i64)), .val (.int .i64), .val (.sl 29 (.st 0))]]⟩
def spec_l1Ok.c_j11 : Cut sg (HL sg.S [.bool]) := ⟨spec_l1Ok.p_j11, [(.int .i64), .bool, (.int .i64), .str, (.sl 3 (.int .i64)), (.int .i64), (.sl 29 (.st 0))], fun k h => spec_l1Ok.j11 k h.1 h.2.1 h.2.2.1 h.2.2.2.1 h.2.2.2.2.1 h.2.2.2.2.2.1 h.2.2.2.2.2.2⟩
def spec_l1Ok.p_j13 : Pat := ⟨[(1, .one (.val (.int .i64))), (2, .one (.ptr 0 0))], [.cells [] [.val (.int .i64), .any, .any, .any, .val (.sl 29 (.st 0))]]⟩
def spec_l1Ok.c_j13 : Cut sg (HL sg.S [.bool]) := ⟨spec_l1Ok.p_j13, [(.int .i64), (.int .i64), (.sl 29 (.st 0))], fun k h => spec_l1Ok.j13 k h.1 h.2.1 h.2.2⟩
def spec_l1Ok.p_l14 : Pat := ⟨[(1, .one (.val (.int .i64))), (2, .one (.ptr 0 0)), (5, .one (.val (.int .i64)))], [.cells [] [.val (.int .i64), .any, .any, .any, .val (.sl 29 (.st 0))]]⟩
def spec_l1Ok.c_l14 : Cut sg (HL sg.S [.bool]) := ⟨spec_l1Ok.p_l14, [(.int .i64), (.int .i64), (.int .i64), (.sl 29 (.st 0))], fun k h => spec_l1Ok.l14 k h.1 h.2.1 h.2.2.1 h.2.2.2⟩
def spec_l1Ok.ct (k : Nat) : Ct sg := ⟨true, ⟨[(0, .st 0), (1, .one (.val (.int .i64)))], []⟩, ⟨[(0, .one (.val .bool))], []⟩, [(.st 0), (.int .i64)], [.bool], fun h => spec_l1Ok.f k h.1 h.2⟩
def spec_l1Ok.cts (k : Nat) : List (Nat × Ct sg) := [(56, spec_l1Ok.ct k), (86, spec_l1IdOk.ct k), (87, spec_l1ScopesOk.ct k), (88, spec_l1AtomOk.ct k)]
def spec_l1Ok.env (k : Nat) : Env sg (HL sg.S [.bool]) := ⟨127, [], k, get (spec_l1Ok.cts k), [(14, spec_l1Ok.c_l14)], [(11, spec_l1Ok.c_j11), (13, spec_l1Ok.c_j13)], []⟩
theorem spec_l1Ok.eq (k : Nat) (h : HL sg.S (spec_l1Ok.ct (k + 1)).its) : (spec_l1Ok.ct (k + 1)).F h = semF (spec_l1Ok.ct (k + 1)) (spec_l1Ok.env k) Tryd.f56 (bodyOf Tryd.f56) h := by kernel_rfl
noncomputable def spec_l1Ok.pts (m : Nat) := used spec_l1Ok.env (ptsOf spec_l1Ok.env (bodyOf Tryd.f56) (fun _ => retK Tryd.f56 (spec_l1Ok.ct m)))
theorem spec_l1Ok.n (m : Nat) : len (spec_l1Ok.pts m) = 3 := by kernel_rfl
theorem spec_l1Ok.g0 (m : Nat) : AtGood spec_l1Ok.env (nth (spec_l1Ok.pts m) 0) := joinGood spec_l1Ok.c_j13 (by kernel_rfl) (by kernel_rfl) (fun k h => by kernel_rfl)
theorem spec_l1Ok.g1 (m : Nat) : AtGood spec_l1Ok.env (nth (spec_l1Ok.pts m) 1) := joinGood spec_l1Ok.c_j11 (by kernel_rfl) (by kernel_rfl) (fun k h => by kernel_rfl)
theorem spec_l1Ok.g2 (m : Nat) : AtGood spec_l1Ok.env (nth (spec_l1Ok.pts m) 2) := loopGood spec_l1Ok.c_l14 (by kernel_rfl) (by kernel_rfl) (fun _ => rfl) (fun k h => by kernel_rfl)
theorem spec_l1Ok.good (m : Nat) : AllGood spec_l1Ok.env (ptsOf spec_l1Ok.env (bodyOf Tryd.f56) (fun _ => retK Tryd.f56 (spec_l1Ok.ct m))) := allGood 3 (spec_l1Ok.n m) (fun i hi => match i with | 0 => spec_l1Ok.g0 m | 1 => spec_l1Ok.g1 m | 2 => spec_l1Ok.g2 m | i + 3 => absurd hi (by omega))
theorem spec_l1Ok.ordsOK : ordsB sg (spec_l1Ok.env 0).ords (bodyOf Tryd.f56) = true := by kernel_rfl
theorem spec_l1Ok.all (k : Nat) : (spec_l1Ok.ct k).Holds Tryd.prog 56 := by
  induction k using Nat.strongRecOn with
  | _ k ih => cases k with
    | zero => exact ⟨by kernel_rfl, by kernel_rfl, (fun _ => by kernel_rfl), fun _ _ _ _ _ _ _ h => absurd (show none = some _ from h) (by intro e; cases e)⟩
    | succ k => exact fn_ok (fn := Tryd.f56) (body := (bodyOf Tryd.f56)) sg.ok sg.tab sg.mixed (by kernel_rfl) (by kernel_rfl) (by kernel_rfl) (spec_l1Ok.ct (k + 1)) spec_l1Ok.env k (fun _ => by kernel_rfl) (fun _ => rfl) (fun _ => by kernel_rfl) (fun _ => rfl) (fun _ => rfl) (fun _ => rfl) spec_l1Ok.ordsOK (fun j hj => ctsOK (l := spec_l1Ok.cts j) ⟨(ih j (by omega)), (spec_l1IdOk.holds j), (spec_l1ScopesOk.holds j), (spec_l1AtomOk.holds j), trivial⟩) (spec_l1Ok.good (k + 1)) (spec_l1Ok.eq k) (Nat.le_of_ble_eq_true (by kernel_rfl)) (by kernel_rfl) (by kernel_rfl) (by kernel_rfl) (fun _ => by kernel_rfl)
theorem spec_l1Ok.holds (k : Nat) : (spec_l1Ok.ct k).Holds Tryd.prog 56 := (spec_l1Ok.all k)
def spec_l1Size.p_l3 : Pat := ⟨[(1, .one (.ptr 0 0)), (3, .one (.val (.int .i64))), (4, .one (.val (.int .i64)))], [.cells [] [.any, .any, .any, .any, .val (.sl 29 (.st 0))]]⟩
def spec_l1Size.c_l3 : Cut sg (HL sg.S [(.int .i64)]) := ⟨spec_l1Size.p_l3, [(.int .i64), (.int .i64), (.sl 29 (.st 0))], fun k h => spec_l1Size.l3 k h.1 h.2.1 h.2.2⟩
def spec_l1Size.ct (k : Nat) : Ct sg := ⟨true, ⟨[(0, .st 0)], []⟩, ⟨[(0, .one (.val (.int .i64)))], []⟩, [(.st 0)], [(.int .i64)], fun h => spec_l1Size.f k h⟩
def spec_l1Size.cts (k : Nat) : List (Nat × Ct sg) := [(57, spec_l1Size.ct k)]
def spec_l1Size.env (k : Nat) : Env sg (HL sg.S [(.int .i64)]) := ⟨21, [], k, get (spec_l1Size.cts k), [(3, spec_l1Size.c_l3)], [], []⟩
theorem spec_l1Size.eq (k : Nat) (h : HL sg.S (spec_l1Size.ct (k + 1)).its) : (spec_l1Size.ct (k + 1)).F h = semF (spec_l1Size.ct (k + 1)) (spec_l1Size.env k) Tryd.f57 (bodyOf Tryd.f57) h := by kernel_rfl
noncomputable def spec_l1Size.pts (m : Nat) := used spec_l1Size.env (ptsOf spec_l1Size.env (bodyOf Tryd.f57) (fun _ => retK Tryd.f57 (spec_l1Size.ct m)))
theorem spec_l1Size.n (m : Nat) : len (spec_l1Size.pts m) = 1 := by kernel_rfl
theorem spec_l1Size.g0 (m : Nat) : AtGood spec_l1Size.env (nth (spec_l1Size.pts m) 0) := loopGood spec_l1Size.c_l3 (by kernel_rfl) (by kernel_rfl) (fun _ => rfl) (fun k h => by kernel_rfl)
theorem spec_l1Size.good (m : Nat) : AllGood spec_l1Size.env (ptsOf spec_l1Size.env (bodyOf Tryd.f57) (fun _ => retK Tryd.f57 (spec_l1Size.ct m))) := allGood 1 (spec_l1Size.n m) (fun i hi => match i with | 0 => spec_l1Size.g0 m | i + 1 => absurd hi (by omega))
theorem spec_l1Size.ordsOK : ordsB sg (spec_l1Size.env 0).ords (bodyOf Tryd.f57) = true := by kernel_rfl
theorem spec_l1Size.all (k : Nat) : (spec_l1Size.ct k).Holds Tryd.prog 57 := by
  induction k using Nat.strongRecOn with
  | _ k ih => cases k with
    | zero => exact ⟨by kernel_rfl, by kernel_rfl, (fun _ => by kernel_rfl), fun _ _ _ _ _ _ _ h => absurd (show none = some _ from h) (by intro e; cases e)⟩
    | succ k => exact fn_ok (fn := Tryd.f57) (body := (bodyOf Tryd.f57)) sg.ok sg.tab sg.mixed (by kernel_rfl) (by kernel_rfl) (by kernel_rfl) (spec_l1Size.ct (k + 1)) spec_l1Size.env k (fun _ => by kernel_rfl) (fun _ => rfl) (fun _ => by kernel_rfl) (fun _ => rfl) (fun _ => rfl) (fun _ => rfl) spec_l1Size.ordsOK (fun j hj => ctsOK (l := spec_l1Size.cts j) ⟨(ih j (by omega)), trivial⟩) (spec_l1Size.good (k + 1)) (spec_l1Size.eq k) (Nat.le_of_ble_eq_true (by kernel_rfl)) (by kernel_rfl) (by kernel_rfl) (by kernel_rfl) (fun _ => by kernel_rfl)
theorem spec_l1Size.holds (k : Nat) : (spec_l1Size.ct k).Holds Tryd.prog 57 := (spec_l1Size.all k)
def spec_ExpFormOk.ct (k : Nat) : Ct sg := ⟨true, ⟨[(0, .st 0)], []⟩, ⟨[(0, .one (.val .bool))], []⟩, [(.st 0)], [.bool], fun h => spec_ExpFormOk.f k h⟩
def spec_ExpFormOk.cts (k : Nat) : List (Nat × Ct sg) := [(56, spec_l1Ok.ct k), (57, spec_l1Size.ct k)]
def spec_ExpFormOk.env (k : Nat) : Env sg (HL sg.S [.bool]) := ⟨10, [], k, get (spec_ExpFormOk.cts k), [], [], []⟩
theorem spec_ExpFormOk.eq (k : Nat) (h : HL sg.S (spec_ExpFormOk.ct k).its) : (spec_ExpFormOk.ct k).F h = semF (spec_ExpFormOk.ct k) (spec_ExpFormOk.env k) Tryd.f25 (bodyOf Tryd.f25) h := by kernel_rfl
noncomputable def spec_ExpFormOk.pts (m : Nat) := used spec_ExpFormOk.env (ptsOf spec_ExpFormOk.env (bodyOf Tryd.f25) (fun _ => retK Tryd.f25 (spec_ExpFormOk.ct m)))
theorem spec_ExpFormOk.n (m : Nat) : len (spec_ExpFormOk.pts m) = 0 := by kernel_rfl
theorem spec_ExpFormOk.good (m : Nat) : AllGood spec_ExpFormOk.env (ptsOf spec_ExpFormOk.env (bodyOf Tryd.f25) (fun _ => retK Tryd.f25 (spec_ExpFormOk.ct m))) := allGood 0 (spec_ExpFormOk.n m) (fun i hi => match i with | i + 0 => absurd hi (by omega))
theorem spec_ExpFormOk.ordsOK : ordsB sg (spec_ExpFormOk.env 0).ords (bodyOf Tryd.f25) = true := by kernel_rfl
theorem spec_ExpFormOk.holds (k : Nat) : (spec_ExpFormOk.ct k).Holds Tryd.prog 25 :=
  fn_ok (fn := Tryd.f25) (body := (bodyOf Tryd.f25)) sg.ok sg.tab sg.mixed (by kernel_rfl) (by kernel_rfl) (by kernel_rfl) (spec_ExpFormOk.ct k) spec_ExpFormOk.env k (fun _ => by kernel_rfl) (fun _ => rfl) (fun _ => by kernel_rfl) (fun _ => rfl) (fun _ => rfl) (fun _ => rfl) spec_ExpFormOk.ordsOK (fun j hj => ctsOK (l := spec_ExpFormOk.cts j) ⟨(spec_l1Ok.holds j), (spec_l1Size.holds j), trivial⟩) (spec_ExpFormOk.good k) (spec_ExpFormOk.eq k) (Nat.le_of_ble_eq_true (by kernel_rfl)) (by kernel_rfl) (by kernel_rfl) (by kernel_rfl) (fun _ => by kernel_rfl)
def spec_l2Put.p_d6 : Pat := ⟨[(0, .one (.val (.sl 3 (.int .i64)))), (1, .one (.val (.int .i64))), (5, .one (.val (.int .i64)))], []⟩
def spec_l2Put.c_d6 : Cut sg (HL sg.S [(.sl 3 (.int .i64))]) := ⟨spec_l2Put.p_d6, [(.sl 3 (.int .i64)), (.int .i64), (.int .i64)], fun k h => spec_l2Put.d6 k h.1 h.2.1 h.2.2⟩
def spec_l2Put.p_l2 : Pat := ⟨[(0, .one (.val (.sl 3 (.int .i64)))), (1, .one (.val (.int .i64))), (5, .one (.val (.int .i64)))], []⟩
def spec_l2Put.c_l2 : Cut sg (HL sg.S [(.sl 3 (.int .i64))]) := ⟨spec_l2Put.p_l2, [(.sl 3 (.int .i64)), (.int .i64), (.int .i64)], fun k h => spec_l2Put.l2 k h.1 h.2.1 h.2.2⟩
def spec_l2Put.ct (k : Nat) : Ct sg := ⟨false, ⟨[(0, .one (.val (.sl 3 (.int .i64)))), (1, .one (.val (.int .i64)))], []⟩, ⟨[(0, .one (.arr 0))], [.arr 3 (.int .i64)]⟩, [(.sl 3 (.int .i64)), (.int .i64)], [(.sl 3 (.int .i64))], fun h => spec_l2Put.f k h.1 h.2⟩
def spec_l2Put.cts (k : Nat) : List (Nat × Ct sg) := []
def spec_l2Put.env (k : Nat) : Env sg (HL sg.S [(.sl 3 (.int .i64))]) := ⟨47, [], k, get (spec_l2Put.cts k), [(2, spec_l2Put.c_l2)], [(100006, spec_l2Put.c_d6)], [(6, [[1, 2, 3, 5, 8, 9, 10, 0, 4, 6, 7, 11, 12], [1, 2, 3, 5, 8, 9, 10, 0, 6, 4, 7, 11, 12], [1, 2, 3, 5, 8, 9, 10, 6, 0, 4, 7, 11, 12]])]⟩
theorem spec_l2Put.eq (k : Nat) (h : HL sg.S (spec_l2Put.ct k).its) : (spec_l2Put.ct k).F h = semF (spec_l2Put.ct k) (spec_l2Put.env k) Tryd.f66 (bodyOf Tryd.f66) h := by kernel_rfl
noncomputable def spec_l2Put.pts (m : Nat) := used spec_l2Put.env (ptsOf spec_l2Put.env (bodyOf Tryd.f66) (fun _ => retK Tryd.f66 (spec_l2Put.ct m)))
theorem spec_l2Put.n (m : Nat) : len (spec_l2Put.pts m) = 4 := by kernel_rfl
theorem spec_l2Put.g0 (m : Nat) : AtGood spec_l2Put.env (nth (spec_l2Put.pts m) 0) := loopGood spec_l2Put.c_l2 (by kernel_rfl) (by kernel_rfl) (fun _ => rfl) (fun k h => by kernel_rfl)
theorem spec_l2Put.g1 (m : Nat) : AtGood spec_l2Put.env (nth (spec_l2Put.pts m) 1) := joinGood spec_l2Put.c_d6 (by kernel_rfl) (by kernel_rfl) (fun k h => by kernel_rfl)
theorem spec_l2Put.g2 (m : Nat) : AtGood spec_l2Put.env (nth (spec_l2Put.pts m) 2) := joinGood spec_l2Put.c_d6 (by kernel_rfl) (by kernel_rfl) (fun k h => by kernel_rfl)
theorem spec_l2Put.g3 (m : Nat) : AtGood spec_l2Put.env (nth (spec_l2Put.pts m) 3) := joinGood spec_l2Put.c_d6 (by kernel_rfl) (by kernel_rfl) (fun k h => by kernel_rfl)
theorem spec_l2Put.good (m : Nat) : AllGood spec_l2Put.env (ptsOf spec_l2Put.env (bodyOf Tryd.f66) (fun _ => retK Tryd.f66 (spec_l2Put.ct m))) := allGood 4 (spec_l2Put.n m) (fun i hi => match i with | 0 => spec_l2Put.g0 m | 1 => spec_l2Put.g1 m | 2 => spec_l2Put.g2 m | 3 => spec_l2Put.g3 m | i + 4 => absurd hi (by omega))
theorem spec_l2Put.ordsOK : ordsB sg (spec_l2Put.env 0).ords (bodyOf Tryd.f66) = true := by kernel_rfl
theorem spec_l2Put.holds (k : Nat) : (spec_l2Put.ct k).Holds Tryd.prog 66 :=
  fn_ok (fn := Tryd.f66) (body := (bodyOf Tryd.f66)) sg.ok sg.tab sg.mixed (by kernel_rfl) (by kernel_rfl) (by kernel_rfl) (spec_l2Put.ct k) spec_l2Put.env k (fun _ => by kernel_rfl) (fun _ => rfl) (fun _ => by kernel_rfl) (fun _ => rfl) (fun _ => rfl) (fun _ => rfl) spec_l2Put.ordsOK (fun j hj => ctsOK (l := spec_l2Put.cts j) trivial) (spec_l2Put.good k) (spec_l2Put.eq k) (Nat.le_of_ble_eq_true (by kernel_rfl)) (by kernel_rfl) (by kernel_rfl) (by kernel_rfl) (fun h => by cases h)
def spec_l2With.p_d8 : Pat := ⟨[(1, .one (.val (.int .i64))), (4, .one (.ptr 0 0)), (5, .one (.ptr 1 0)), (6, .one (.val (.int .i64)))], [.cells [] [.any, .any, .any, .any, .any], .cells [] [.val (.int .i64), .val .str, .arr 2, .val (.int .i64), .arr 3], .arr 3 (.int .i64), .arr 29 (.st 0)]⟩
def spec_l2With.c_d8 : Cut sg (HL sg.S [(.st 0)]) := ⟨spec_l2With.p_d8, [(.int .i64), (.int .i64), (.int .i64), .str, (.int .i64), (.sl 3 (.int .i64)), (.sl 29 (.st 0))], fun k h => spec_l2With.d8 k h.1 h.2.1 h.2.2.1 h.2.2.2.1 h.2.2.2.2.1 h.2.2.2.2.2.1 h.2.2.2.2.2.2⟩
def spec_l2With.p_l6 : Pat := ⟨[(1, .one (.val (.int .i64))), (4, .one (.ptr 0 0)), (5, .one (.ptr 1 0)), (6, .one (.val (.int .i64)))], [.cells [] [.any, .any, .any, .any, .any], .cells [] [.val (.int .i64), .val .str, .arr 2, .val (.int .i64), .arr 3], .arr 3 (.int .i64), .arr 29 (.st 0)]⟩
def spec_l2With.c_l6 : Cut sg (HL sg.S [(.st 0)]) := ⟨spec_l2With.p_l6, [(.int .i64), (.int .i64), (.int .i64), .str, (.int .i64), (.sl 3 (.int .i64)), (.sl 29 (.st 0))], fun k h => spec_l2With.l6 k h.1 h.2.1 h.2.2.1 h.2.2.2.1 h.2.2.2.2.1 h.2.2.2.2.2.1 h.2.2.2.2.2.2⟩
def spec_l2With.ct (k : Nat) : Ct sg := ⟨false, ⟨[(0, .st 0), (1, .one (.val (.int .i64)))], []⟩, ⟨[(0, .st 0)], []⟩, [(.st 0), (.int .i64)], [(.st 0)], fun h => spec_l2With.f k h.1 h.2⟩
def spec_l2With.cts (k : Nat) : List (Nat × Ct sg) := [(33, spec_l2With.ct k), (65, spec_l1Copy.ct k), (66, spec_l2Put.ct k)]
def spec_l2With.env (k : Nat) : Env sg (HL sg.S [(.st 0)]) := ⟨37, [], k, get (spec_l2With.cts k), [(6, spec_l2With.c_l6)], [(100008, spec_l2With.c_d8)], [(8, [[0, 2, 3, 4, 5, 6, 7, 8, 1, 9, 10, 11], [0, 2, 3, 4, 5, 6, 7, 8, 9, 1, 10, 11]])]⟩
theorem spec_l2With.eq (k : Nat) (h : HL sg.S (spec_l2With.ct (k + 1)).its) : (spec_l2With.ct (k + 1)).F h = semF (spec_l2With.ct (k + 1)) (spec_l2With.env k) Tryd.f33 (bodyOf Tryd.f33) h := by kernel_rfl
noncomputable def spec_l2With.pts (m : Nat) := used spec_l2With.env (ptsOf spec_l2With.env (bodyOf Tryd.f33) (fun _ => retK Tryd.f33 (spec_l2With.ct m)))
theorem spec_l2With.n (m : Nat) : len (spec_l2With.pts m) = 3 := by kernel_rfl
theorem spec_l2With.g0 (m : Nat) : AtGood spec_l2With.env (nth (spec_l2With.pts m) 0) := loopGood spec_l2With.c_l6 (by kernel_rfl) (by kernel_rfl) (fun _ => rfl) (fun k h => by kernel_rfl)
theorem spec_l2With.g1 (m : Nat) : AtGood spec_l2With.env (nth (spec_l2With.pts m) 1) := joinGood spec_l2With.c_d8 (by kernel_rfl) (by kernel_rfl) (fun k h => by kernel_rfl)
theorem spec_l2With.g2 (m : Nat) : AtGood spec_l2With.env (nth (spec_l2With.pts m) 2) := joinGood spec_l2With.c_d8 (by kernel_rfl) (by kernel_rfl) (fun k h => by kernel_rfl)
theorem spec_l2With.good (m : Nat) : AllGood spec_l2With.env (ptsOf spec_l2With.env (bodyOf Tryd.f33) (fun _ => retK Tryd.f33 (spec_l2With.ct m))) := allGood 3 (spec_l2With.n m) (fun i hi => match i with | 0 => spec_l2With.g0 m | 1 => spec_l2With.g1 m | 2 => spec_l2With.g2 m | i + 3 => absurd hi (by omega))
theorem spec_l2With.ordsOK : ordsB sg (spec_l2With.env 0).ords (bodyOf Tryd.f33) = true := by kernel_rfl
theorem spec_l2With.all (k : Nat) : (spec_l2With.ct k).Holds Tryd.prog 33 := by
  induction k using Nat.strongRecOn with
  | _ k ih => cases k with
    | zero => exact ⟨by kernel_rfl, by kernel_rfl, (fun h => by cases h), fun _ _ _ _ _ _ _ h => absurd (show none = some _ from h) (by intro e; cases e)⟩
    | succ k => exact fn_ok (fn := Tryd.f33) (body := (bodyOf Tryd.f33)) sg.ok sg.tab sg.mixed (by kernel_rfl) (by kernel_rfl) (by kernel_rfl) (spec_l2With.ct (k + 1)) spec_l2With.env k (fun _ => by kernel_rfl) (fun _ => rfl) (fun _ => by kernel_rfl) (fun _ => rfl) (fun _ => rfl) (fun _ => rfl) spec_l2With.ordsOK (fun j hj => ctsOK (l := spec_l2With.cts j) ⟨(ih j (by omega)), (spec_l1Copy.holds j), (spec_l2Put.holds j), trivial⟩) (spec_l2With.good (k + 1)) (spec_l2With.eq k) (Nat.le_of_ble_eq_true (by kernel_rfl)) (by kernel_rfl) (by kernel_rfl) (by kernel_rfl) (fun h => by cases h)
theorem spec_l2With.holds (k : Nat) : (spec_l2With.ct k).Holds Tryd.prog 33 := (spec_l2With.all k)
def spec_ExpWith.ct (k : Nat) : Ct sg := ⟨false, ⟨[(0, .st 0), (1, .one (.val (.int .i64)))], []⟩, ⟨[(0, .st 0)], []⟩, [(.st 0), (.int .i64)], [(.st 0)], fun h => spec_ExpWith.f k h.1 h.2⟩
def spec_ExpWith.cts (k : Nat) : List (Nat × Ct sg) := [(25, spec_ExpFormOk.ct k), (33, spec_l2With.ct k)]
def spec_ExpWith.env (k : Nat) : Env sg (HL sg.S [(.st 0)]) := ⟨16, [], k, get (spec_ExpWith.cts k), [], [], []⟩
theorem spec_ExpWith.eq (k : Nat) (h : HL sg.S (spec_ExpWith.ct k).its) : (spec_ExpWith.ct k).F h = semF (spec_ExpWith.ct k) (spec_ExpWith.env k) Tryd.f9 (bodyOf Tryd.f9) h := by kernel_rfl
noncomputable def spec_ExpWith.pts (m : Nat) := used spec_ExpWith.env (ptsOf spec_ExpWith.env (bodyOf Tryd.f9) (fun _ => retK Tryd.f9 (spec_ExpWith.ct m)))
theorem spec_ExpWith.n (m : Nat) : len (spec_ExpWith.pts m) = 0 := by kernel_rfl
theorem spec_ExpWith.good (m : Nat) : AllGood spec_ExpWith.env (ptsOf spec_ExpWith.env (bodyOf Tryd.f9) (fun _ => retK Tryd.f9 (spec_ExpWith.ct m))) := allGood 0 (spec_ExpWith.n m) (fun i hi => match i with | i + 0 => absurd hi (by omega))
theorem spec_ExpWith.ordsOK : ordsB sg (spec_ExpWith.env 0).ords (bodyOf Tryd.f9) = true := by kernel_rfl
theorem spec_ExpWith.holds (k : Nat) : (spec_ExpWith.ct k).Holds Tryd.prog 9 :=
  fn_ok (fn := Tryd.f9) (body := (bodyOf Tryd.f9)) sg.ok sg.tab sg.mixed (by kernel_rfl) (by kernel_rfl) (by kernel_rfl) (spec_ExpWith.ct k) spec_ExpWith.env k (fun _ => by kernel_rfl) (fun _ => rfl) (fun _ => by kernel_rfl) (fun _ => rfl) (fun _ => rfl) (fun _ => rfl) spec_ExpWith.ordsOK (fun j hj => ctsOK (l := spec_ExpWith.cts j) ⟨(spec_ExpFormOk.holds j), (spec_l2With.holds j), trivial⟩) (spec_ExpWith.good k) (spec_ExpWith.eq k) (Nat.le_of_ble_eq_true (by kernel_rfl)) (by kernel_rfl) (by kernel_rfl) (by kernel_rfl) (fun h => by cases h)
def laws_wxInts.p_l4 : Pat := ⟨[(0, .one (.val (.sl 3 (.int .i64)))), (1, .one (.val (.sl 3 (.int .i64)))), (5, .one (.val (.int .i64)))], []⟩
def laws_wxInts.c_l4 : Cut sg (HL sg.S [.bool]) := ⟨laws_wxInts.p_l4, [(.sl 3 (.int .i64)), (.sl 3 (.int .i64)), (.int .i64)], fun k h => laws_wxInts.l4 k h.1 h.2.1 h.2.2⟩
def laws_wxInts.ct (k : Nat) : Ct sg := ⟨true, ⟨[(0, .one (.val (.sl 3 (.int .i64)))), (1, .one (.val (.sl 3 (.int .i64))))], []⟩, ⟨[(0, .one (.val .bool))], []⟩, [(.sl 3 (.int .i64)), (.sl 3 (.int .i64))], [.bool], fun h => laws_wxInts.f k h.1 h.2⟩
def laws_wxInts.cts (k : Nat) : List (Nat × Ct sg) := []
def laws_wxInts.env (k : Nat) : Env sg (HL sg.S [.bool]) := ⟨26, [], k, get (laws_wxInts.cts k), [(4, laws_wxInts.c_l4)], [], [(6, [[0, 1, 2, 3, 4, 5, 6, 7, 8]])]⟩
theorem laws_wxInts.eq (k : Nat) (h : HL sg.S (laws_wxInts.ct k).its) : (laws_wxInts.ct k).F h = semF (laws_wxInts.ct k) (laws_wxInts.env k) Tryd.f53 (bodyOf Tryd.f53) h := by kernel_rfl
noncomputable def laws_wxInts.pts (m : Nat) := used laws_wxInts.env (ptsOf laws_wxInts.env (bodyOf Tryd.f53) (fun _ => retK Tryd.f53 (laws_wxInts.ct m)))
theorem laws_wxInts.n (m : Nat) : len (laws_wxInts.pts m) = 1 := by kernel_rfl
theorem laws_wxInts.g0 (m : Nat) : AtGood laws_wxInts.env (nth (laws_wxInts.pts m) 0) := loopGood laws_wxInts.c_l4 (by kernel_rfl) (by kernel_rfl) (fun _ => rfl) (fun k h => by kernel_rfl)
theorem laws_wxInts.good (m : Nat) : AllGood laws_wxInts.env (ptsOf laws_wxInts.env (bodyOf Tryd.f53) (fun _ => retK Tryd.f53 (laws_wxInts.ct m))) := allGood 1 (laws_wxInts.n m) (fun i hi => match i with | 0 => laws_wxInts.g0 m | i + 1 => absurd hi (by omega))
theorem laws_wxInts.ordsOK : ordsB sg (laws_wxInts.env 0).ords (bodyOf Tryd.f53) = true := by kernel_rfl
theorem laws_wxInts.holds (k : Nat) : (laws_wxInts.ct k).Holds Tryd.prog 53 :=
  fn_ok (fn := Tryd.f53) (body := (bodyOf Tryd.f53)) sg.ok sg.tab sg.mixed (by kernel_rfl) (by kernel_rfl) (by kernel_rfl) (laws_wxInts.ct k) laws_wxInts.env k (fun _ => by kernel_rfl) (fun _ => rfl) (fun _ => by kernel_rfl) (fun _ => rfl) (fun _ => rfl) (fun _ => rfl) laws_wxInts.ordsOK (fun j hj => ctsOK (l := laws_wxInts.cts j) trivial) (laws_wxInts.good k) (laws_wxInts.eq k) (Nat.le_of_ble_eq_true (by kernel_rfl)) (by kernel_rfl) (by kernel_rfl) (by kernel_rfl) (fun _ => by kernel_rfl)
def laws_wxForm.ct (k : Nat) : Ct sg := ⟨true, ⟨[(0, .st 0), (1, .st 0)], []⟩, ⟨[(0, .one (.val .bool))], []⟩, [(.st 0), (.st 0)], [.bool], fun h => laws_wxForm.f k h.1 h.2⟩
def laws_wxForms.p_l4 : Pat := ⟨[(0, .one (.val (.sl 29 (.st 0)))), (1, .one (.val (.sl 29 (.st 0)))), (5, .one (.val (.int .i64)))], []⟩
def laws_wxForms.c_l4 : Cut sg (HL sg.S [.bool]) := ⟨laws_wxForms.p_l4, [(.sl 29 (.st 0)), (.sl 29 (.st 0)), (.int .i64)], fun k h => laws_wxForms.l4 k h.1 h.2.1 h.2.2⟩
def laws_wxForms.ct (k : Nat) : Ct sg := ⟨true, ⟨[(0, .one (.val (.sl 29 (.st 0)))), (1, .one (.val (.sl 29 (.st 0))))], []⟩, ⟨[(0, .one (.val .bool))], []⟩, [(.sl 29 (.st 0)), (.sl 29 (.st 0))], [.bool], fun h => laws_wxForms.f k h.1 h.2⟩
def laws_wxForm.cts (k : Nat) : List (Nat × Ct sg) := [(53, laws_wxInts.ct k), (54, laws_wxForms.ct k)]
def laws_wxForm.env (k : Nat) : Env sg (HL sg.S [.bool]) := ⟨38, [], k, get (laws_wxForm.cts k), [], [], []⟩
theorem laws_wxForm.eq (k : Nat) (h : HL sg.S (laws_wxForm.ct (k + 1)).its) : (laws_wxForm.ct (k + 1)).F h = semF (laws_wxForm.ct (k + 1)) (laws_wxForm.env k) Tryd.f23 (bodyOf Tryd.f23) h := by kernel_rfl
noncomputable def laws_wxForm.pts (m : Nat) := used laws_wxForm.env (ptsOf laws_wxForm.env (bodyOf Tryd.f23) (fun _ => retK Tryd.f23 (laws_wxForm.ct m)))
theorem laws_wxForm.n (m : Nat) : len (laws_wxForm.pts m) = 0 := by kernel_rfl
theorem laws_wxForm.good (m : Nat) : AllGood laws_wxForm.env (ptsOf laws_wxForm.env (bodyOf Tryd.f23) (fun _ => retK Tryd.f23 (laws_wxForm.ct m))) := allGood 0 (laws_wxForm.n m) (fun i hi => match i with | i + 0 => absurd hi (by omega))
theorem laws_wxForm.ordsOK : ordsB sg (laws_wxForm.env 0).ords (bodyOf Tryd.f23) = true := by kernel_rfl
def laws_wxForms.cts (k : Nat) : List (Nat × Ct sg) := [(23, laws_wxForm.ct k)]
def laws_wxForms.env (k : Nat) : Env sg (HL sg.S [.bool]) := ⟨27, [], k, get (laws_wxForms.cts k), [(4, laws_wxForms.c_l4)], [], [(6, [[0, 1, 2, 3, 4, 5, 6, 7, 8, 9]])]⟩
theorem laws_wxForms.eq (k : Nat) (h : HL sg.S (laws_wxForms.ct (k + 1)).its) : (laws_wxForms.ct (k + 1)).F h = semF (laws_wxForms.ct (k + 1)) (laws_wxForms.env k) Tryd.f54 (bodyOf Tryd.f54) h := by kernel_rfl
noncomputable def laws_wxForms.pts (m : Nat) := used laws_wxForms.env (ptsOf laws_wxForms.env (bodyOf Tryd.f54) (fun _ => retK Tryd.f54 (laws_wxForms.ct m)))
theorem laws_wxForms.n (m : Nat) : len (laws_wxForms.pts m) = 1 := by kernel_rfl
theorem laws_wxForms.g0 (m : Nat) : AtGood laws_wxForms.env (nth (laws_wxForms.pts m) 0) := loopGood laws_wxForms.c_l4 (by kernel_rfl) (by kernel_rfl) (fun _ => rfl) (fun k h => by kernel_rfl)
theorem laws_wxForms.good (m : Nat) : AllGood laws_wxForms.env (ptsOf laws_wxForms.env (bodyOf Tryd.f54) (fun _ => retK Tryd.f54 (laws_wxForms.ct m))) := allGood 1 (laws_wxForms.n m) (fun i hi => match i with | 0 => laws_wxForms.g0 m | i + 1 => absurd hi (by omega))
theorem laws_wxForms.ordsOK : ordsB sg (laws_wxForms.env 0).ords (bodyOf Tryd.f54) = true := by kernel_rfl
theorem laws_wxForm.all (k : Nat) : (laws_wxForm.ct k).Holds Tryd.prog 23 ∧ (laws_wxForms.ct k).Holds Tryd.prog 54 := by
  induction k using Nat.strongRecOn with
  | _ k ih => cases k with
    | zero => exact ⟨⟨by kernel_rfl, by kernel_rfl, (fun _ => by kernel_rfl), fun _ _ _ _ _ _ _ h => absurd (show none = some _ from h) (by intro e; cases e)⟩, ⟨by kernel_rfl, by kernel_rfl, (fun _ => by kernel_rfl), fun _ _ _ _ _ _ _ h => absurd (show none = some _ from h) (by intro e; cases e)⟩⟩
    | succ k => exact ⟨fn_ok (fn := Tryd.f23) (body := (bodyOf Tryd.f23)) sg.ok sg.tab sg.mixed (by kernel_rfl) (by kernel_rfl) (by kernel_rfl) (laws_wxForm.ct (k + 1)) laws_wxForm.env k (fun _ => by kernel_rfl) (fun _ => rfl) (fun _ => by kernel_rfl) (fun _ => rfl) (fun _ => rfl) (fun _ => rfl) laws_wxForm.ordsOK (fun j hj => ctsOK (l := laws_wxForm.cts j) ⟨(laws_wxInts.holds j), (ih j (by omega)).2, trivial⟩) (laws_wxForm.good (k + 1)) (laws_wxForm.eq k) (Nat.le_of_ble_eq_true (by kernel_rfl)) (by kernel_rfl) (by kernel_rfl) (by kernel_rfl) (fun _ => by kernel_rfl), fn_ok (fn := Tryd.f54) (body := (bodyOf Tryd.f54)) sg.ok sg.tab sg.mixed (by kernel_rfl) (by kernel_rfl) (by kernel_rfl) (laws_wxForms.ct (k + 1)) laws_wxForms.env k (fun _ => by kernel_rfl) (fun _ => rfl) (fun _ => by kernel_rfl) (fun _ => rfl) (fun _ => rfl) (fun _ => rfl) laws_wxForms.ordsOK (fun j hj => ctsOK (l := laws_wxForms.cts j) ⟨(ih j (by omega)).1, trivial⟩) (laws_wxForms.good (k + 1)) (laws_wxForms.eq k) (Nat.le_of_ble_eq_true (by kernel_rfl)) (by kernel_rfl) (by kernel_rfl) (by kernel_rfl) (fun _ => by kernel_rfl)⟩
theorem laws_wxForm.holds (k : Nat) : (laws_wxForm.ct k).Holds Tryd.prog 23 := (laws_wxForm.all k).1
theorem laws_wxForms.holds (k : Nat) : (laws_wxForms.ct k).Holds Tryd.prog 54 := (laws_wxForm.all k).2
def spec_l2Has.p_l2 : Pat := ⟨[(0, .one (.val (.sl 3 (.int .i64)))), (1, .one (.val (.int .i64))), (5, .one (.val (.int .i64)))], []⟩
def spec_l2Has.c_l2 : Cut sg (HL sg.S [.bool]) := ⟨spec_l2Has.p_l2, [(.sl 3 (.int .i64)), (.int .i64), (.int .i64)], fun k h => spec_l2Has.l2 k h.1 h.2.1 h.2.2⟩
def spec_l2Has.ct (k : Nat) : Ct sg := ⟨true, ⟨[(0, .one (.val (.sl 3 (.int .i64)))), (1, .one (.val (.int .i64)))], []⟩, ⟨[(0, .one (.val .bool))], []⟩, [(.sl 3 (.int .i64)), (.int .i64)], [.bool], fun h => spec_l2Has.f k h.1 h.2⟩
def spec_l2Has.cts (k : Nat) : List (Nat × Ct sg) := []
def spec_l2Has.env (k : Nat) : Env sg (HL sg.S [.bool]) := ⟨18, [], k, get (spec_l2Has.cts k), [(2, spec_l2Has.c_l2)], [], []⟩
theorem spec_l2Has.eq (k : Nat) (h : HL sg.S (spec_l2Has.ct k).its) : (spec_l2Has.ct k).F h = semF (spec_l2Has.ct k) (spec_l2Has.env k) Tryd.f77 (bodyOf Tryd.f77) h := by kernel_rfl
noncomputable def spec_l2Has.pts (m : Nat) := used spec_l2Has.env (ptsOf spec_l2Has.env (bodyOf Tryd.f77) (fun _ => retK Tryd.f77 (spec_l2Has.ct m)))
theorem spec_l2Has.n (m : Nat) : len (spec_l2Has.pts m) = 1 := by kernel_rfl
theorem spec_l2Has.g0 (m : Nat) : AtGood spec_l2Has.env (nth (spec_l2Has.pts m) 0) := loopGood spec_l2Has.c_l2 (by kernel_rfl) (by kernel_rfl) (fun _ => rfl) (fun k h => by kernel_rfl)
theorem spec_l2Has.good (m : Nat) : AllGood spec_l2Has.env (ptsOf spec_l2Has.env (bodyOf Tryd.f77) (fun _ => retK Tryd.f77 (spec_l2Has.ct m))) := allGood 1 (spec_l2Has.n m) (fun i hi => match i with | 0 => spec_l2Has.g0 m | i + 1 => absurd hi (by omega))
theorem spec_l2Has.ordsOK : ordsB sg (spec_l2Has.env 0).ords (bodyOf Tryd.f77) = true := by kernel_rfl
theorem spec_l2Has.holds (k : Nat) : (spec_l2Has.ct k).Holds Tryd.prog 77 :=
  fn_ok (fn := Tryd.f77) (body := (bodyOf Tryd.f77)) sg.ok sg.tab sg.mixed (by kernel_rfl) (by kernel_rfl) (by kernel_rfl) (spec_l2Has.ct k) spec_l2Has.env k (fun _ => by kernel_rfl) (fun _ => rfl) (fun _ => by kernel_rfl) (fun _ => rfl) (fun _ => rfl) (fun _ => rfl) spec_l2Has.ordsOK (fun j hj => ctsOK (l := spec_l2Has.cts j) trivial) (spec_l2Has.good k) (spec_l2Has.eq k) (Nat.le_of_ble_eq_true (by kernel_rfl)) (by kernel_rfl) (by kernel_rfl) (by kernel_rfl) (fun _ => by kernel_rfl)
def spec_l2Take.p_l3 : Pat := ⟨[(0, .one (.val (.sl 3 (.int .i64)))), (1, .one (.val (.int .i64))), (5, .one (.arr 0)), (6, .one (.val (.int .i64)))], [.arr 3 (.int .i64)]⟩
def spec_l2Take.c_l3 : Cut sg (HL sg.S [(.sl 3 (.int .i64))]) := ⟨spec_l2Take.p_l3, [(.sl 3 (.int .i64)), (.int .i64), (.int .i64), (.sl 3 (.int .i64))], fun k h => spec_l2Take.l3 k h.1 h.2.1 h.2.2.1 h.2.2.2⟩
def spec_l2Take.ct (k : Nat) : Ct sg := ⟨false, ⟨[(0, .one (.val (.sl 3 (.int .i64)))), (1, .one (.val (.int .i64)))], []⟩, ⟨[(0, .one (.arr 0))], [.arr 3 (.int .i64)]⟩, [(.sl 3 (.int .i64)), (.int .i64)], [(.sl 3 (.int .i64))], fun h => spec_l2Take.f k h.1 h.2⟩
def spec_l2Take.cts (k : Nat) : List (Nat × Ct sg) := []
def spec_l2Take.env (k : Nat) : Env sg (HL sg.S [(.sl 3 (.int .i64))]) := ⟨28, [], k, get (spec_l2Take.cts k), [(3, spec_l2Take.c_l3)], [], []⟩
theorem spec_l2Take.eq (k : Nat) (h : HL sg.S (spec_l2Take.ct k).its) : (spec_l2Take.ct k).F h = semF (spec_l2Take.ct k) (spec_l2Take.env k) Tryd.f78 (bodyOf Tryd.f78) h := by kernel_rfl
noncomputable def spec_l2Take.pts (m : Nat) := used spec_l2Take.env (ptsOf spec_l2Take.env (bodyOf Tryd.f78) (fun _ => retK Tryd.f78 (spec_l2Take.ct m)))
theorem spec_l2Take.n (m : Nat) : len (spec_l2Take.pts m) = 1 := by kernel_rfl
theorem spec_l2Take.g0 (m : Nat) : AtGood spec_l2Take.env (nth (spec_l2Take.pts m) 0) := loopGood spec_l2Take.c_l3 (by kernel_rfl) (by kernel_rfl) (fun _ => rfl) (fun k h => by kernel_rfl)
theorem spec_l2Take.good (m : Nat) : AllGood spec_l2Take.env (ptsOf spec_l2Take.env (bodyOf Tryd.f78) (fun _ => retK Tryd.f78 (spec_l2Take.ct m))) := allGood 1 (spec_l2Take.n m) (fun i hi => match i with | 0 => spec_l2Take.g0 m | i + 1 => absurd hi (by omega))
theorem spec_l2Take.ordsOK : ordsB sg (spec_l2Take.env 0).ords (bodyOf Tryd.f78) = true := by kernel_rfl
theorem spec_l2Take.holds (k : Nat) : (spec_l2Take.ct k).Holds Tryd.prog 78 :=
  fn_ok (fn := Tryd.f78) (body := (bodyOf Tryd.f78)) sg.ok sg.tab sg.mixed (by kernel_rfl) (by kernel_rfl) (by kernel_rfl) (spec_l2Take.ct k) spec_l2Take.env k (fun _ => by kernel_rfl) (fun _ => rfl) (fun _ => by kernel_rfl) (fun _ => rfl) (fun _ => rfl) (fun _ => rfl) spec_l2Take.ordsOK (fun j hj => ctsOK (l := spec_l2Take.cts j) trivial) (spec_l2Take.good k) (spec_l2Take.eq k) (Nat.le_of_ble_eq_true (by kernel_rfl)) (by kernel_rfl) (by kernel_rfl) (by kernel_rfl) (fun h => by cases h)
def spec_l2Flip.p_d10 : Pat := ⟨[(1, .one (.val (.int .i64))), (4, .one (.ptr 0 0)), (5, .one (.ptr 1 0)), (6, .one (.val (.int .i64)))], [.cells [] [.any, .any, .any, .any, .any], .cells [] [.val (.int .i64), .val .str, .arr 2, .val (.int .i64), .arr 3], .arr 3 (.int .i64), .arr 29 (.st 0)]⟩
def spec_l2Flip.c_d10 : Cut sg (HL sg.S [(.st 0)]) := ⟨spec_l2Flip.p_d10, [(.int .i64), (.int .i64), (.int .i64), .str, (.int .i64), (.sl 3 (.int .i64)), (.sl 29 (.st 0))], fun k h => spec_l2Flip.d10 k h.1 h.2.1 h.2.2.1 h.2.2.2.1 h.2.2.2.2.1 h.2.2.2.2.2.1 h.2.2.2.2.2.2⟩
def spec_l2Flip.p_l8 : Pat := ⟨[(1, .one (.val (.int .i64))), (4, .one (.ptr 0 0)), (5, .one (.ptr 1 0)), (6, .one (.val (.int .i64)))], [.cells [] [.any, .any, .any, .any, .any], .cells [] [.val (.int .i64), .val .str, .arr 2, .val (.int .i64), .arr 3], .arr 3 (.int .i64), .arr 29 (.st 0)]⟩
def spec_l2Flip.c_l8 : Cut sg (HL sg.S [(.st 0)]) := ⟨spec_l2Flip.p_l8, [(.int .i64), (.int .i64), (.int .i64), .str, (.int .i64), (.sl 3 (.int .i64)), (.sl 29 (.st 0))], fun k h => spec_l2Flip.l8 k h.1 h.2.1 h.2.2.1 h.2.2.2.1 h.2.2.2.2.1 h.2.2.2.2.2.1 h.2.2.2.2.2.2⟩
def spec_l2Flip.ct (k : Nat) : Ct sg := ⟨false, ⟨[(0, .st 0), (1, .one (.val (.int .i64)))], []⟩, ⟨[(0, .st 0)], []⟩, [(.st 0), (.int .i64)], [(.st 0)], fun h => spec_l2Flip.f k h.1 h.2⟩
def spec_l2Flip.cts (k : Nat) : List (Nat × Ct sg) := [(48, spec_l2Flip.ct k), (65, spec_l1Copy.ct k), (66, spec_l2Put.ct k), (77, spec_l2Has.ct k), (78, spec_l2Take.ct k)]
def spec_l2Flip.env (k : Nat) : Env sg (HL sg.S [(.st 0)]) := ⟨46, [], k, get (spec_l2Flip.cts k), [(8, spec_l2Flip.c_l8)], [(100010, spec_l2Flip.c_d10)], [(10, [[0, 2, 3, 4, 5, 6, 7, 8, 1, 9, 10, 11], [0, 2, 3, 4, 5, 6, 7, 8, 9, 1, 10, 11]])]⟩
theorem spec_l2Flip.eq (k : Nat) (h : HL sg.S (spec_l2Flip.ct (k + 1)).its) : (spec_l2Flip.ct (k + 1)).F h = semF (spec_l2Flip.ct (k + 1)) (spec_l2Flip.env k) Tryd.f48 (bodyOf Tryd.f48) h := by kernel_rfl
noncomputable def spec_l2Flip.pts (m : Nat) := used spec_l2Flip.env (ptsOf spec_l2Flip.env (bodyOf Tryd.f48) (fun _ => retK Tryd.f48 (spec_l2Flip.ct m)))
theorem spec_l2Flip.n (m : Nat) : len (spec_l2Flip.pts m) = 3 := by kernel_rfl
theorem spec_l2Flip.g0 (m : Nat) : AtGood spec_l2Flip.env (nth (spec_l2Flip.pts m) 0) := loopGood spec_l2Flip.c_l8 (by kernel_rfl) (by kernel_rfl) (fun _ => rfl) (fun k h => by kernel_rfl)
theorem spec_l2Flip.g1 (m : Nat) : AtGood spec_l2Flip.env (nth (spec_l2Flip.pts m) 1) := joinGood spec_l2Flip.c_d10 (by kernel_rfl) (by kernel_rfl) (fun k h => by kernel_rfl)
theorem spec_l2Flip.g2 (m : Nat) : AtGood spec_l2Flip.env (nth (spec_l2Flip.pts m) 2) := joinGood spec_l2Flip.c_d10 (by kernel_rfl) (by kernel_rfl) (fun k h => by kernel_rfl)
theorem spec_l2Flip.good (m : Nat) : AllGood spec_l2Flip.env (ptsOf spec_l2Flip.env (bodyOf Tryd.f48) (fun _ => retK Tryd.f48 (spec_l2Flip.ct m))) := allGood 3 (spec_l2Flip.n m) (fun i hi => match i with | 0 => spec_l2Flip.g0 m | 1 => spec_l2Flip.g1 m | 2 => spec_l2Flip.g2 m | i + 3 => absurd hi (by omega))
theorem spec_l2Flip.ordsOK : ordsB sg (spec_l2Flip.env 0).ords (bodyOf Tryd.f48) = true := by kernel_rfl
theorem spec_l2Flip.all (k : Nat) : (spec_l2Flip.ct k).Holds Tryd.prog 48 := by
  induction k using Nat.strongRecOn with
  | _ k ih => cases k with
    | zero => exact ⟨by kernel_rfl, by kernel_rfl, (fun h => by cases h), fun _ _ _ _ _ _ _ h => absurd (show none = some _ from h) (by intro e; cases e)⟩
    | succ k => exact fn_ok (fn := Tryd.f48) (body := (bodyOf Tryd.f48)) sg.ok sg.tab sg.mixed (by kernel_rfl) (by kernel_rfl) (by kernel_rfl) (spec_l2Flip.ct (k + 1)) spec_l2Flip.env k (fun _ => by kernel_rfl) (fun _ => rfl) (fun _ => by kernel_rfl) (fun _ => rfl) (fun _ => rfl) (fun _ => rfl) spec_l2Flip.ordsOK (fun j hj => ctsOK (l := spec_l2Flip.cts j) ⟨(ih j (by omega)), (spec_l1Copy.holds j), (spec_l2Put.holds j), (spec_l2Has.holds j), (spec_l2Take.holds j), trivial⟩) (spec_l2Flip.good (k + 1)) (spec_l2Flip.eq k) (Nat.le_of_ble_eq_true (by kernel_rfl)) (by kernel_rfl) (by kernel_rfl) (by kernel_rfl) (fun h => by cases h)
theorem spec_l2Flip.holds (k : Nat) : (spec_l2Flip.ct k).Holds Tryd.prog 48 := (spec_l2Flip.all k)
def spec_ExpFlip.ct (k : Nat) : Ct sg := ⟨false, ⟨[(0, .st 0), (1, .one (.val (.int .i64)))], []⟩, ⟨[(0, .st 0)], []⟩, [(.st 0), (.int .i64)], [(.st 0)], fun h => spec_ExpFlip.f k h.1 h.2⟩
def spec_ExpFlip.cts (k : Nat) : List (Nat × Ct sg) := [(25, spec_ExpFormOk.ct k), (48, spec_l2Flip.ct k)]
def spec_ExpFlip.env (k : Nat) : Env sg (HL sg.S [(.st 0)]) := ⟨16, [], k, get (spec_ExpFlip.cts k), [], [], []⟩
theorem spec_ExpFlip.eq (k : Nat) (h : HL sg.S (spec_ExpFlip.ct k).its) : (spec_ExpFlip.ct k).F h = semF (spec_ExpFlip.ct k) (spec_ExpFlip.env k) Tryd.f20 (bodyOf Tryd.f20) h := by kernel_rfl
noncomputable def spec_ExpFlip.pts (m : Nat) := used spec_ExpFlip.env (ptsOf spec_ExpFlip.env (bodyOf Tryd.f20) (fun _ => retK Tryd.f20 (spec_ExpFlip.ct m)))
theorem spec_ExpFlip.n (m : Nat) : len (spec_ExpFlip.pts m) = 0 := by kernel_rfl
theorem spec_ExpFlip.good (m : Nat) : AllGood spec_ExpFlip.env (ptsOf spec_ExpFlip.env (bodyOf Tryd.f20) (fun _ => retK Tryd.f20 (spec_ExpFlip.ct m))) := allGood 0 (spec_ExpFlip.n m) (fun i hi => match i with | i + 0 => absurd hi (by omega))
theorem spec_ExpFlip.ordsOK : ordsB sg (spec_ExpFlip.env 0).ords (bodyOf Tryd.f20) = true := by kernel_rfl
theorem spec_ExpFlip.holds (k : Nat) : (spec_ExpFlip.ct k).Holds Tryd.prog 20 :=
  fn_ok (fn := Tryd.f20) (body := (bodyOf Tryd.f20)) sg.ok sg.tab sg.mixed (by kernel_rfl) (by kernel_rfl) (by kernel_rfl) (spec_ExpFlip.ct k) spec_ExpFlip.env k (fun _ => by kernel_rfl) (fun _ => rfl) (fun _ => by kernel_rfl) (fun _ => rfl) (fun _ => rfl) (fun _ => rfl) spec_ExpFlip.ordsOK (fun j hj => ctsOK (l := spec_ExpFlip.cts j) ⟨(spec_ExpFormOk.holds j), (spec_l2Flip.holds j), trivial⟩) (spec_ExpFlip.good k) (spec_ExpFlip.eq k) (Nat.le_of_ble_eq_true (by kernel_rfl)) (by kernel_rfl) (by kernel_rfl) (by kernel_rfl) (fun h => by cases h)
def impl_expShow.p_j10 : Pat := ⟨[(1, .one (.ptr 0 0)), (3, .one (.arr 1)), (6, .one (.val .str)), (18, .one (.val (.sl 29 (.st 0)))), (19, .one (.val (.int .i64))), (20, .one (.val (.int .i64)))], [.cells [] [.val (.int .i64), .any, .any, .any, .val (.sl 29 (.st 0))], .arr 9 .str]⟩
def impl_expShow.c_j10 : Cut sg (HL sg.S [.str]) := ⟨impl_expShow.p_j10, [.str, (.sl 29 (.st 0)), (.int .i64), (.int .i64), (.int .i64), (.sl 29 (.st 0)), (.sl 9 .str)], fun k h => impl_expShow.j10 k h.1 h.2.1 h.2.2.1 h.2.2.2.1 h.2.2.2.2.1 h.2.2.2.2.2.1 h.2.2.2.2.2.2⟩
def impl_expShow.p_j3 : Pat := ⟨[(1, .one (.ptr 0 0))], [.cells [] [.val (.int .i64), .any, .any, .any, .val (.sl 29 (.st 0))]]⟩
def impl_expShow.c_j3 : Cut sg (HL sg.S [.str]) := ⟨impl_expShow.p_j3, [(.int .i64), (.sl 29 (.st 0))], fun k h => impl_expShow.j3 k h.1 h.2⟩
def impl_expShow.p_l5 : Pat := ⟨[(1, .one (.ptr 0 0)), (3, .one (.arr 1)), (18, .one (.val (.sl 29 (.st 0)))), (19, .one (.val (.int .i64))), (20, .one (.val (.int .i64)))], [.cells [] [.val (.int .i64), .any, .any, .any, .val (.sl 29 (.st 0))], .arr 9 .str]⟩
def impl_expShow.c_l5 : Cut sg (HL sg.S [.str]) := ⟨impl_expShow.p_l5, [(.sl 29 (.st 0)), (.int .i64), (.int .i64), (.int .i64), (.sl 29 (.st 0)), (.sl 9 .str)], fun k h => impl_expShow.l5 k h.1 h.2.1 h.2.2.1 h.2.2.2.1 h.2.2.2.2.1 h.2.2.2.2.2⟩
def impl_expShow.ct (k : Nat) : Ct sg := ⟨true, ⟨[(0, .st 0)], []⟩, ⟨[(0, .one (.val .str))], []⟩, [(.st 0)], [.str], fun h => impl_expShow.f k h⟩
def impl_expShow.cts (k : Nat) : List (Nat × Ct sg) := [(58, impl_expShow.ct k), (89, LJoin.ct)]
def impl_expShow.env (k : Nat) : Env sg (HL sg.S [.str]) := ⟨49, [], k, get (impl_expShow.cts k), [(5, impl_expShow.c_l5)], [(3, impl_expShow.c_j3), (10, impl_expShow.c_j10)], []⟩
theorem impl_expShow.eq (k : Nat) (h : HL sg.S (impl_expShow.ct (k + 1)).its) : (impl_expShow.ct (k + 1)).F h = semF (impl_expShow.ct (k + 1)) (impl_expShow.env k) Tryd.f58 (bodyOf Tryd.f58) h := by kernel_rfl
noncomputable def impl_expShow.pts (m : Nat) := used impl_expShow.env (ptsOf impl_expShow.env (bodyOf Tryd.f58) (fun _ => retK Tryd.f58 (impl_expShow.ct m)))
theorem impl_expShow.n (m : Nat) : len (impl_expShow.pts m) = 3 := by kernel_rfl
theorem impl_expShow.g0 (m : Nat) : AtGood impl_expShow.env (nth (impl_expShow.pts m) 0) := joinGood impl_expShow.c_j3 (by kernel_rfl) (by kernel_rfl) (fun k h => by kernel_rfl)
theorem impl_expShow.g1 (m : Nat) : AtGood impl_expShow.env (nth (impl_expShow.pts m) 1) := loopGood impl_expShow.c_l5 (by kernel_rfl) (by kernel_rfl) (fun _ => rfl) (fun k h => by kernel_rfl)
theorem impl_expShow.g2 (m : Nat) : AtGood impl_expShow.env (nth (impl_expShow.pts m) 2) := joinGood impl_expShow.c_j10 (by kernel_rfl) (by kernel_rfl) (fun k h => by kernel_rfl)
theorem impl_expShow.good (m : Nat) : AllGood impl_expShow.env (ptsOf impl_expShow.env (bodyOf Tryd.f58) (fun _ => retK Tryd.f58 (impl_expShow.ct m))) := allGood 3 (impl_expShow.n m) (fun i hi => match i with | 0 => impl_expShow.g0 m | 1 => impl_expShow.g1 m | 2 => impl_expShow.g2 m | i + 3 => absurd hi (by omega))
theorem impl_expShow.ordsOK : ordsB sg (impl_expShow.env 0).ords (bodyOf Tryd.f58) = true := by kernel_rfl
theorem impl_expShow.all (k : Nat) : (impl_expShow.ct k).Holds Tryd.prog 58 := by
  induction k using Nat.strongRecOn with
  | _ k ih => cases k with
    | zero => exact ⟨by kernel_rfl, by kernel_rfl, (fun _ => by kernel_rfl), fun _ _ _ _ _ _ _ h => absurd (show none = some _ from h) (by intro e; cases e)⟩
    | succ k => exact fn_ok (fn := Tryd.f58) (body := (bodyOf Tryd.f58)) sg.ok sg.tab sg.mixed (by kernel_rfl) (by kernel_rfl) (by kernel_rfl) (impl_expShow.ct (k + 1)) impl_expShow.env k (fun _ => by kernel_rfl) (fun _ => rfl) (fun _ => by kernel_rfl) (fun _ => rfl) (fun _ => rfl) (fun _ => rfl) impl_expShow.ordsOK (fun j hj => ctsOK (l := impl_expShow.cts j) ⟨(ih j (by omega)), LJoin.holds, trivial⟩) (impl_expShow.good (k + 1)) (impl_expShow.eq k) (Nat.le_of_ble_eq_true (by kernel_rfl)) (by kernel_rfl) (by kernel_rfl) (by kernel_rfl) (fun _ => by kernel_rfl)
theorem impl_expShow.holds (k : Nat) : (impl_expShow.ct k).Holds Tryd.prog 58 := (impl_expShow.all k)
def impl_ExpShow.ct (k : Nat) : Ct sg := ⟨true, ⟨[(0, .st 0)], []⟩, ⟨[(0, .one (.val .str))], []⟩, [(.st 0)], [.str], fun h => impl_ExpShow.f k h⟩
def impl_ExpShow.cts (k : Nat) : List (Nat × Ct sg) := [(24, impl_ExpFormOk.ct k), (58, impl_expShow.ct k)]
def impl_ExpShow.env (k : Nat) : Env sg (HL sg.S [.str]) := ⟨8, [], k, get (impl_ExpShow.cts k), [], [], []⟩
theorem impl_ExpShow.eq (k : Nat) (h : HL sg.S (impl_ExpShow.ct k).its) : (impl_ExpShow.ct k).F h = semF (impl_ExpShow.ct k) (impl_ExpShow.env k) Tryd.f26 (bodyOf Tryd.f26) h := by kernel_rfl
noncomputable def impl_ExpShow.pts (m : Nat) := used impl_ExpShow.env (ptsOf impl_ExpShow.env (bodyOf Tryd.f26) (fun _ => retK Tryd.f26 (impl_ExpShow.ct m)))
theorem impl_ExpShow.n (m : Nat) : len (impl_ExpShow.pts m) = 0 := by kernel_rfl
theorem impl_ExpShow.good (m : Nat) : AllGood impl_ExpShow.env (ptsOf impl_ExpShow.env (bodyOf Tryd.f26) (fun _ => retK Tryd.f26 (impl_ExpShow.ct m))) := allGood 0 (impl_ExpShow.n m) (fun i hi => match i with | i + 0 => absurd hi (by omega))
theorem impl_ExpShow.ordsOK : ordsB sg (impl_ExpShow.env 0).ords (bodyOf Tryd.f26) = true := by kernel_rfl
theorem impl_ExpShow.holds (k : Nat) : (impl_ExpShow.ct k).Holds Tryd.prog 26 :=
  fn_ok (fn := Tryd.f26) (body := (bodyOf Tryd.f26)) sg.ok sg.tab sg.mixed (by kernel_rfl) (by kernel_rfl) (by kernel_rfl) (impl_ExpShow.ct k) impl_ExpShow.env k (fun _ => by kernel_rfl) (fun _ => rfl) (fun _ => by kernel_rfl) (fun _ => rfl) (fun _ => rfl) (fun _ => rfl) impl_ExpShow.ordsOK (fun j hj => ctsOK (l := impl_ExpShow.cts j) ⟨(impl_ExpFormOk.holds j), (impl_expShow.holds j), trivial⟩) (impl_ExpShow.good k) (impl_ExpShow.eq k) (Nat.le_of_ble_eq_true (by kernel_rfl)) (by kernel_rfl) (by kernel_rfl) (by kernel_rfl) (fun _ => by kernel_rfl)
def laws_FnExpScopes.p_d10 : Pat := ⟨[(3, .one (.ptr 0 0)), (4, .one (.val (.int .i64))), (5, .one (.ptr 1 0)), (6, .one (.ptr 2 0))], [.cells [] [.val (.int .i64), .val .str, .val (.sl 3 (.int .i64)), .val (.int .i64), .val (.sl 29 (.st 0))], .cells [] [.val (.int .i64), .val .str, .val (.sl 3 (.int .i64)), .val (.int .i64), .val (.sl 29 (.st 0))], .cells [] [.val (.int .i64), .val .str, .val (.sl 3 (.int .i64)), .val (.int .i64), .val (.sl 29 (.st 0))]]⟩
def laws_FnExpScopes.c_d10 : Cut sg (HL sg.S [.bool]) := ⟨laws_FnExpScopes.p_d10, [(.int .i64), (.int .i64), .str, (.sl 3 (.int .i64)), (.int .i64), (.sl 29 (.st 0)), (.int .i64), .str, (.sl 3 (.int .i64)), (.int .i64), (.sl 29 (.st 0)), (.int .i64), .str, (.sl 3 (.int .i64)), (.int .i64), (.sl 29 (.st 0))], fun k h => laws_FnExpScopes.d10 k h.1 h.2.1 h.2.2.1 h.2.2.2.1 h.2.2.2.2.1 h.2.2.2.2.2.1 h.2.2.2.2.2.2.1 h.2.2.2.2.2.2.2.1 h.2.2.2.2.2.2.2.2.1 h.2.2.2.2.2.2.2.2.2.1 h.2.2.2.2.2.2.2.2.2.2.1 h.2.2.2.2.2.2.2.2.2.2.2.1 h.2.2.2.2.2.2.2.2.2.2.2.2.1 h.2.2.2.2.2.2.2.2.2.2.2.2.2.1 h.2.2.2.2.2.2.2.2.2.2.2.2.2.2.1 h.2.2.2.2.2.2.2.2.2.2.2.2.2.2.2⟩
def laws_FnExpScopes.p_d6 : Pat := ⟨[(3, .one (.ptr 0 0)), (4, .one (.val (.int .i64))), (5, .one (.ptr 1 0)), (6, .one (.ptr 2 0))], [.cells [] [.val (.int .i64), .val .str, .val (.sl 3 (.int .i64)), .val (.int .i64), .val (.sl 29 (.st 0))], .cells [] [.val (.int .i64), .val .str, .val (.sl 3 (.int .i64)), .val (.int .i64), .val (.sl 29 (.st 0))], .cells [] [.val (.int .i64), .val .str, .val (.sl 3 (.int .i64)), .val (.int .i64), .val (.sl 29 (.st 0))]]⟩
def laws_FnExpScopes.c_d6 : Cut sg (HL sg.S [.bool]) := ⟨laws_FnExpScopes.p_d6, [(.int .i64), (.int .i64), .str, (.sl 3 (.int .i64)), (.int .i64), (.sl 29 (.st 0)), (.int .i64), .str, (.sl 3 (.int .i64)), (.int .i64), (.sl 29 (.st 0)), (.int .i64), .str, (.sl 3 (.int .i64)), (.int .i64), (.sl 29 (.st 0))], fun k h => laws_FnExpScopes.d6 k h.1 h.2.1 h.2.2.1 h.2.2.2.1 h.2.2.2.2.1 h.2.2.2.2.2.1 h.2.2.2.2.2.2.1 h.2.2.2.2.2.2.2.1 h.2.2.2.2.2.2.2.2.1 h.2.2.2.2.2.2.2.2.2.1 h.2.2.2.2.2.2.2.2.2.2.1 h.2.2.2.2.2.2.2.2.2.2.2.1 h.2.2.2.2.2.2.2.2.2.2.2.2.1 h.2.2.2.2.2.2.2.2.2.2.2.2.2.1 h.2.2.2.2.2.2.2.2.2.2.2.2.2.2.1 h.2.2.2.2.2.2.2.2.2.2.2.2.2.2.2⟩
def laws_FnExpScopes.p_j10 : Pat := ⟨[(3, .one (.ptr 0 0)), (4, .one (.val (.int .i64))), (5, .one (.ptr 1 0)), (6, .one (.ptr 2 0))], [.cells [] [.val (.int .i64), .val .str, .val (.sl 3 (.int .i64)), .val (.int .i64), .val (.sl 29 (.st 0))], .cells [] [.val (.int .i64), .val .str, .val (.sl 3 (.int .i64)), .val (.int .i64), .val (.sl 29 (.st 0))], .cells [] [.val (.int .i64), .val .str, .val (.sl 3 (.int .i64)), .val (.int .i64), .val (.sl 29 (.st 0))]]⟩
def laws_FnExpScopes.c_j10 : Cut sg (HL sg.S [.bool]) := ⟨laws_FnExpScopes.p_j10, [(.int .i64), (.int .i64), .str, (.sl 3 (.int .i64)), (.int .i64), (.sl 29 (.st 0)), (.int .i64), .str, (.sl 3 (.int .i64)), (.int .i64), (.sl 29 (.st 0)), (.int .i64), .str, (.sl 3 (.int .i64)), (.int .i64), (.sl 29 (.st 0))], fun k h => laws_FnExpScopes.j10 k h.1 h.2.1 h.2.2.1 h.2.2.2.1 h.2.2.2.2.1 h.2.2.2.2.2.1 h.2.2.2.2.2.2.1 h.2.2.2.2.2.2.2.1 h.2.2.2.2.2.2.2.2.1 h.2.2.2.2.2.2.2.2.2.1 h.2.2.2.2.2.2.2.2.2.2.1 h.2.2.2.2.2.2.2.2.2.2.2.1 h.2.2.2.2.2.2.2.2.2.2.2.2.1 h.2.2.2.2.2.2.2.2.2.2.2.2.2.1 h.2.2.2.2.2.2.2.2.2.2.2.2.2.2.1 h.2.2.2.2.2.2.2.2.2.2.2.2.2.2.2⟩
def laws_FnExpScopes.p_j8 : Pat := ⟨[(3, .one (.ptr 0 0)), (4, .one (.val (.int .i64))), (5, .one (.ptr 1 0)), (6, .one (.ptr 2 0))], [.cells [] [.val (.int .i64), .val .str, .val (.sl 3 (.int .i64)), .val (.int .i64), .val (.sl 29 (.st 0))], .cells [] [.val (.int .i64), .val .str, .val (.sl 3 (.int .i64)), .val (.int .i64), .val (.sl 29 (.st 0))], .cells [] [.val (.int .i64), .val .str, .val (.sl 3 (.int .i64)), .val (.int .i64), .val (.sl 29 (.st 0))]]⟩
def laws_FnExpScopes.c_j8 : Cut sg (HL sg.S [.bool]) := ⟨laws_FnExpScopes.p_j8, [(.int .i64), (.int .i64), .str, (.sl 3 (.int .i64)), (.int .i64), (.sl 29 (.st 0)), (.int .i64), .str, (.sl 3 (.int .i64)), (.int .i64), (.sl 29 (.st 0)), (.int .i64), .str, (.sl 3 (.int .i64)), (.int .i64), (.sl 29 (.st 0))], fun k h => laws_FnExpScopes.j8 k h.1 h.2.1 h.2.2.1 h.2.2.2.1 h.2.2.2.2.1 h.2.2.2.2.2.1 h.2.2.2.2.2.2.1 h.2.2.2.2.2.2.2.1 h.2.2.2.2.2.2.2.2.1 h.2.2.2.2.2.2.2.2.2.1 h.2.2.2.2.2.2.2.2.2.2.1 h.2.2.2.2.2.2.2.2.2.2.2.1 h.2.2.2.2.2.2.2.2.2.2.2.2.1 h.2.2.2.2.2.2.2.2.2.2.2.2.2.1 h.2.2.2.2.2.2.2.2.2.2.2.2.2.2.1 h.2.2.2.2.2.2.2.2.2.2.2.2.2.2.2⟩
def laws_FnExpScopes.ct (k : Nat) : Ct sg := ⟨true, ⟨[(0, .one (.val (.sl 5 (.int .u8))))], []⟩, ⟨[(0, .one (.val .bool))], []⟩, [(.sl 5 (.int .u8))], [.bool], fun h => laws_FnExpScopes.f k h⟩
def laws_FnExpScopes.cts (k : Nat) : List (Nat × Ct sg) := [(9, spec_ExpWith.ct k), (11, impl_ExpWith.ct k), (20, spec_ExpFlip.ct k), (21, impl_ExpFlip.ct k), (22, spec_DrawExpWith.ct k), (23, laws_wxForm.ct k), (24, impl_ExpFormOk.ct k), (25, spec_ExpFormOk.ct k), (26, impl_ExpShow.ct k)]
def laws_FnExpScopes.env (k : Nat) : Env sg (HL sg.S [.bool]) := ⟨84, [], k, get (laws_FnExpScopes.cts k), [], [(100006, laws_FnExpScopes.c_d6), (100010, laws_FnExpScopes.c_d10), (8, laws_FnExpScopes.c_j8), (10, laws_FnExpScopes.c_j10)], [(6, [[1, 2, 0, 3, 4, 5, 6, 8, 9, 7, 10, 11, 12, 13, 14, 15, 16, 17, 18, 19, 20], [1, 2, 0, 3, 4, 5, 6, 8, 9, 7, 10, 11, 12, 13, 14, 15, 17, 16, 18, 19, 20], [1, 2, 0, 3, 4, 5, 6, 8, 9, 10, 7, 11, 12, 13, 14, 15, 16, 17, 18, 19, 20], [1, 2, 0, 3, 4, 5, 6, 8, 9, 10, 7, 11, 12, 13, 14, 15, 17, 16, 18, 19, 20], [1, 2, 3, 0, 4, 5, 6, 8, 9, 7, 10, 11, 12, 13, 14, 15, 16, 17, 18, 19, 20], [1, 2, 3, 0, 4, 5, 6, 8, 9, 7, 10, 11, 12, 13, 14, 15, 17, 16, 18, 19, 20], [1, 2, 3, 0, 4, 5, 6, 8, 9, 10, 7, 11, 12, 13, 14, 15, 16, 17, 18, 19, 20], [1, 2, 3, 0, 4, 5, 6, 8, 9, 10, 7, 11, 12, 13, 14, 15, 17, 16, 18, 19, 20]]), (10, [[0, 1, 2, 3, 4, 5, 6, 7, 8, 9, 10, 11, 12, 13, 14, 15, 16, 17, 18, 19, 20, 21, 22, 23, 24, 25, 26, 27], [0, 1, 2, 3, 4, 5, 6, 7, 8, 9, 10, 11, 12, 13, 15, 14, 16, 17, 18, 19, 20, 21, 22, 23, 24, 25, 26, 27], [0, 1, 2, 3, 4, 5, 6, 7, 9, 8, 10, 11, 12, 13, 14, 15, 16, 17, 18, 19, 20, 21, 22, 23, 24, 25, 26, 27], [0, 1, 2, 3, 4, 5, 6, 7, 9, 8, 10, 11, 12, 13, 15, 14, 16, 17, 18, 19, 20, 21, 22, 23, 24, 25, 26, 27], [0, 1, 3, 2, 4, 5, 6, 7, 8, 9, 10, 11, 12, 13, 14, 15, 16, 17, 18, 19, 20, 21, 22, 23, 24, 25, 26, 27], [0, 1, 3, 2, 4, 5, 6, 7, 8, 9, 10, 11, 12, 13, 15, 14, 16, 17, 18, 19, 20, 21, 22, 23, 24, 25, 26, 27], [0, 1, 3, 2, 4, 5, 6, 7, 9, 8, 10, 11, 12, 13, 14, 15, 16, 17, 18, 19, 20, 21, 22, 23, 24, 25, 26, 27], [0, 1, 3, 2, 4, 5, 6, 7, 9, 8, 10, 11, 12, 13, 15, 14, 16, 17, 18, 19, 20, 21, 22, 23, 24, 25, 26, 27]])]⟩
theorem laws_FnExpScopes.eq (k : Nat) (h : HL sg.S (laws_FnExpScopes.ct k).its) : (laws_FnExpScopes.ct k).F h = semF (laws_FnExpScopes.ct k) (laws_FnExpScopes.env k) Tryd.f6 (bodyOf Tryd.f6) h := by kernel_rfl
noncomputable def laws_FnExpScopes.pts (m : Nat) := used laws_FnExpScopes.env (ptsOf laws_FnExpScopes.env (bodyOf Tryd.f6) (fun _ => retK Tryd.f6 (laws_FnExpScopes.ct m)))
theorem laws_FnExpScopes.n (m : Nat) : len (laws_FnExpScopes.pts m) = 18 := by kernel_rfl
theorem laws_FnExpScopes.g0 (m : Nat) : AtGood laws_FnExpScopes.env (nth (laws_FnExpScopes.pts m) 0) := joinGood laws_FnExpScopes.c_j8 (by kernel_rfl) (by kernel_rfl) (fun k h => by kernel_rfl)
theorem laws_FnExpScopes.g1 (m : Nat) : AtGood laws_FnExpScopes.env (nth (laws_FnExpScopes.pts m) 1) := joinGood laws_FnExpScopes.c_d6 (by kernel_rfl) (by kernel_rfl) (fun k h => by kernel_rfl)
theorem laws_FnExpScopes.g2 (m : Nat) : AtGood laws_FnExpScopes.env (nth (laws_FnExpScopes.pts m) 2) := joinGood laws_FnExpScopes.c_d6 (by kernel_rfl) (by kernel_rfl) (fun k h => by kernel_rfl)
theorem laws_FnExpScopes.g3 (m : Nat) : AtGood laws_FnExpScopes.env (nth (laws_FnExpScopes.pts m) 3) := joinGood laws_FnExpScopes.c_d6 (by kernel_rfl) (by kernel_rfl) (fun k h => by kernel_rfl)
theorem laws_FnExpScopes.g4 (m : Nat) : AtGood laws_FnExpScopes.env (nth (laws_FnExpScopes.pts m) 4) := joinGood laws_FnExpScopes.c_d6 (by kernel_rfl) (by kernel_rfl) (fun k h => by kernel_rfl)
theorem laws_FnExpScopes.g5 (m : Nat) : AtGood laws_FnExpScopes.env (nth (laws_FnExpScopes.pts m) 5) := joinGood laws_FnExpScopes.c_d6 (by kernel_rfl) (by kernel_rfl) (fun k h => by kernel_rfl)
theorem laws_FnExpScopes.g6 (m : Nat) : AtGood laws_FnExpScopes.env (nth (laws_FnExpScopes.pts m) 6) := joinGood laws_FnExpScopes.c_d6 (by kernel_rfl) (by kernel_rfl) (fun k h => by kernel_rfl)
theorem laws_FnExpScopes.g7 (m : Nat) : AtGood laws_FnExpScopes.env (nth (laws_FnExpScopes.pts m) 7) := joinGood laws_FnExpScopes.c_d6 (by kernel_rfl) (by kernel_rfl) (fun k h => by kernel_rfl)
theorem laws_FnExpScopes.g8 (m : Nat) : AtGood laws_FnExpScopes.env (nth (laws_FnExpScopes.pts m) 8) := joinGood laws_FnExpScopes.c_d6 (by kernel_rfl) (by kernel_rfl) (fun k h => by kernel_rfl)
theorem laws_FnExpScopes.g9 (m : Nat) : AtGood laws_FnExpScopes.env (nth (laws_FnExpScopes.pts m) 9) := joinGood laws_FnExpScopes.c_j10 (by kernel_rfl) (by kernel_rfl) (fun k h => by kernel_rfl)
theorem laws_FnExpScopes.g10 (m : Nat) : AtGood laws_FnExpScopes.env (nth (laws_FnExpScopes.pts m) 10) := joinGood laws_FnExpScopes.c_d10 (by kernel_rfl) (by kernel_rfl) (fun k h => by kernel_rfl)
theorem laws_FnExpScopes.g11 (m : Nat) : AtGood laws_FnExpScopes.env (nth (laws_FnExpScopes.pts m) 11) := joinGood laws_FnExpScopes.c_d10 (by kernel_rfl) (by kernel_rfl) (fun k h => by kernel_rfl)
theorem laws_FnExpScopes.g12 (m : Nat) : AtGood laws_FnExpScopes.env (nth (laws_FnExpScopes.pts m) 12) := joinGood laws_FnExpScopes.c_d10 (by kernel_rfl) (by kernel_rfl) (fun k h => by kernel_rfl)
theorem laws_FnExpScopes.g13 (m : Nat) : AtGood laws_FnExpScopes.env (nth (laws_FnExpScopes.pts m) 13) := joinGood laws_FnExpScopes.c_d10 (by kernel_rfl) (by kernel_rfl) (fun k h => by kernel_rfl)
theorem laws_FnExpScopes.g14 (m : Nat) : AtGood laws_FnExpScopes.env (nth (laws_FnExpScopes.pts m) 14) := joinGood laws_FnExpScopes.c_d10 (by kernel_rfl) (by kernel_rfl) (fun k h => by kernel_rfl)
theorem laws_FnExpScopes.g15 (m : Nat) : AtGood laws_FnExpScopes.env (nth (laws_FnExpScopes.pts m) 15) := joinGood laws_FnExpScopes.c_d10 (by kernel_rfl) (by kernel_rfl) (fun k h => by kernel_rfl)
theorem laws_FnExpScopes.g16 (m : Nat) : AtGood laws_FnExpScopes.env (nth (laws_FnExpScopes.pts m) 16) := joinGood laws_FnExpScopes.c_d10 (by kernel_rfl) (by kernel_rfl) (fun k h => by kernel_rfl)
theorem laws_FnExpScopes.g17 (m : Nat) : AtGood laws_FnExpScopes.env (nth (laws_FnExpScopes.pts m) 17) := joinGood laws_FnExpScopes.c_d10 (by kernel_rfl) (by kernel_rfl) (fun k h => by kernel_rfl)
theorem laws_FnExpScopes.good (m : Nat) : AllGood laws_FnExpScopes.env (ptsOf laws_FnExpScopes.env (bodyOf Tryd.f6) (fun _ => retK Tryd.f6 (laws_FnExpScopes.ct m))) := allGood 18 (laws_FnExpScopes.n m) (fun i hi => match i with | 0 => laws_FnExpScopes.g0 m | 1 => laws_FnExpScopes.g1 m | 2 => laws_FnExpScopes.g2 m | 3 => laws_FnExpScopes.g3 m | 4 => laws_FnExpScopes.g4 m | 5 => laws_FnExpScopes.g5 m | 6 => laws_FnExpScopes.g6 m | 7 => laws_FnExpScopes.g7 m | 8 => laws_FnExpScopes.g8 m | 9 => laws_FnExpScopes.g9 m | 10 => laws_FnExpScopes.g10 m | 11 => laws_FnExpScopes.g11 m | 12 => laws_FnExpScopes.g12 m | 13 => laws_FnExpScopes.g13 m | 14 => laws_FnExpScopes.g14 m | 15 => laws_FnExpScopes.g15 m | 16 => laws_FnExpScopes.g16 m | 17 => laws_FnExpScopes.g17 m | i + 18 => absurd hi (by omega))
theorem laws_FnExpScopes.ordsOK : ordsB sg (laws_FnExpScopes.env 0).ords (bodyOf Tryd.f6) = true := by kernel_rfl
theorem laws_FnExpScopes.holds (k : Nat) : (laws_FnExpScopes.ct k).Holds Tryd.prog 6 :=
  fn_ok (fn := Tryd.f6) (body := (bodyOf Tryd.f6)) sg.ok sg.tab sg.mixed (by kernel_rfl) (by kernel_rfl) (by kernel_rfl) (laws_FnExpScopes.ct k) laws_FnExpScopes.env k (fun _ => by kernel_rfl) (fun _ => rfl) (fun _ => by kernel_rfl) (fun _ => rfl) (fun _ => rfl) (fun _ => rfl) laws_FnExpScopes.ordsOK (fun j hj => ctsOK (l := laws_FnExpScopes.cts j) ⟨(spec_ExpWith.holds j), (impl_ExpWith.holds j), (spec_ExpFlip.holds j), (impl_ExpFlip.holds j), (spec_DrawExpWith.holds j), (laws_wxForm.holds j), (impl_ExpFormOk.holds j), (spec_ExpFormOk.holds j), (impl_ExpShow.holds j), trivial⟩) (laws_FnExpScopes.good k) (laws_FnExpScopes.eq k) (Nat.le_of_ble_eq_true (by kernel_rfl)) (by kernel_rfl) (by kernel_rfl) (by kernel_rfl) (fun _ => by kernel_rfl)
end Go.Proofs.YtmcbhnbemhfifaaDoor.RX
