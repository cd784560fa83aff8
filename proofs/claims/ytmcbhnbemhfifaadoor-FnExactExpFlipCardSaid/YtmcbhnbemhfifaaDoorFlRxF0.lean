/- MADE BY PROGRAM (gen.py) -/
import Derived.Test.YtmcbhnbemhfifaaDoorFlRxLib
import Derived.Test.YtmcbhnbemhfifaaDoorFlRxPz
namespace Go.Proofs.YtmcbhnbemhfifaaDoor.RX
open Go Go.RowKit
set_option autoImplicit false
def laws_szIntS.ct (k : Nat) : Ct sg := ⟨true, ⟨[(0, .one (.val (.sl 3 (.int .i64)))), (1, .one (.val (.int .i64)))], []⟩, ⟨[(0, .one (.val (.int .i64)))], []⟩, [(.sl 3 (.int .i64)), (.int .i64)], [(.int .i64)], fun h => laws_szIntS.f k h.1 h.2⟩
def laws_szIntS.cts (k : Nat) : List (Nat × Ct sg) := []
def laws_szIntS.env (k : Nat) : Env sg (HL sg.S [(.int .i64)]) := ⟨12, [], k, get (laws_szIntS.cts k), [], [], [], []⟩
theorem laws_szIntS.eq (k : Nat) (h : HL sg.S (laws_szIntS.ct k).its) : (laws_szIntS.ct k).F h = semF (laws_szIntS.ct k) (laws_szIntS.env k) Tryd.f32 (bodyOf Tryd.f32) h := by kernel_rfl
noncomputable def laws_szIntS.pts (m : Nat) := used laws_szIntS.env (ptsOf laws_szIntS.env (bodyOf Tryd.f32) (fun _ => retK Tryd.f32 (laws_szIntS.ct m)))
theorem laws_szIntS.n (m : Nat) : len (laws_szIntS.pts m) = 0 := by kernel_rfl
theorem laws_szIntS.good (m : Nat) : AllGood laws_szIntS.env (ptsOf laws_szIntS.env (bodyOf Tryd.f32) (fun _ => retK Tryd.f32 (laws_szIntS.ct m))) := allGood 0 (laws_szIntS.n m) (fun i hi => match i with | i + 0 => absurd hi (by omega))
theorem laws_szIntS.ordsOK : ordsB sg (laws_szIntS.env 0).ords (bodyOf Tryd.f32) = true := by kernel_rfl
theorem laws_szIntS.holds (k : Nat) : (laws_szIntS.ct k).Holds Tryd.prog 32 :=
  fn_ok (fn := Tryd.f32) (body := (bodyOf Tryd.f32)) sg.ok sg.tab sg.mixed (by kernel_rfl) (by kernel_rfl) (by kernel_rfl) (laws_szIntS.ct k) laws_szIntS.env k (fun _ => by kernel_rfl) (fun _ => rfl) (fun _ => by kernel_rfl) (fun _ => rfl) (fun _ => rfl) (fun _ => rfl) laws_szIntS.ordsOK (fun j hj => ctsOK (l := laws_szIntS.cts j) trivial) (laws_szIntS.good k) (laws_szIntS.eq k) (Nat.le_of_ble_eq_true (by kernel_rfl)) (by kernel_rfl) (by kernel_rfl) (by kernel_rfl) (fun _ => by kernel_rfl)
def laws_szExpForm.ct (k : Nat) : Ct sg := ⟨true, ⟨[(0, .st 1), (1, .one (.val (.int .i64)))], []⟩, ⟨[(0, .one (.val (.int .i64)))], []⟩, [(.st 1), (.int .i64)], [(.int .i64)], fun h => laws_szExpForm.f k h.1 h.2⟩
def laws_szExpFormS.p_l5 : Pat := ⟨[(0, .one (.val (.sl 25 (.st 1)))), (1, .one (.val (.int .i64))), (5, .one (.val (.int .i64)))], []⟩
def laws_szExpFormS.c_l5 : Cut sg (HL sg.S [(.int .i64)]) := ⟨laws_szExpFormS.p_l5, [(.sl 25 (.st 1)), (.int .i64), (.int .i64)], fun k h => laws_szExpFormS.l5 k h.1 h.2.1 h.2.2⟩
def laws_szExpFormS.ct (k : Nat) : Ct sg := ⟨true, ⟨[(0, .one (.val (.sl 25 (.st 1)))), (1, .one (.val (.int .i64)))], []⟩, ⟨[(0, .one (.val (.int .i64)))], []⟩, [(.sl 25 (.st 1)), (.int .i64)], [(.int .i64)], fun h => laws_szExpFormS.f k h.1 h.2⟩
def laws_szExpForm.cts (k : Nat) : List (Nat × Ct sg) := [(15, laws_szExpFormS.ct k), (32, laws_szIntS.ct k)]
def laws_szExpForm.env (k : Nat) : Env sg (HL sg.S [(.int .i64)]) := ⟨25, [], k, get (laws_szExpForm.cts k), [], [], [], []⟩
theorem laws_szExpForm.eq (k : Nat) (h : HL sg.S (laws_szExpForm.ct (k + 1)).its) : (laws_szExpForm.ct (k + 1)).F h = semF (laws_szExpForm.ct (k + 1)) (laws_szExpForm.env k) Tryd.f8 (bodyOf Tryd.f8) h := by kernel_rfl
noncomputable def laws_szExpForm.pts (m : Nat) := used laws_szExpForm.env (ptsOf laws_szExpForm.env (bodyOf Tryd.f8) (fun _ => retK Tryd.f8 (laws_szExpForm.ct m)))
theorem laws_szExpForm.n (m : Nat) : len (laws_szExpForm.pts m) = 0 := by kernel_rfl
theorem laws_szExpForm.good (m : Nat) : AllGood laws_szExpForm.env (ptsOf laws_szExpForm.env (bodyOf Tryd.f8) (fun _ => retK Tryd.f8 (laws_szExpForm.ct m))) := allGood 0 (laws_szExpForm.n m) (fun i hi => match i with | i + 0 => absurd hi (by omega))
theorem laws_szExpForm.ordsOK : ordsB sg (laws_szExpForm.env 0).ords (bodyOf Tryd.f8) = true := by kernel_rfl
def laws_szExpFormS.cts (k : Nat) : List (Nat × Ct sg) := [(8, laws_szExpForm.ct k)]
def laws_szExpFormS.env (k : Nat) : Env sg (HL sg.S [(.int .i64)]) := ⟨27, [], k, get (laws_szExpFormS.cts k), [(5, laws_szExpFormS.c_l5)], [], [], []⟩
theorem laws_szExpFormS.eq (k : Nat) (h : HL sg.S (laws_szExpFormS.ct (k + 1)).its) : (laws_szExpFormS.ct (k + 1)).F h = semF (laws_szExpFormS.ct (k + 1)) (laws_szExpFormS.env k) Tryd.f15 (bodyOf Tryd.f15) h := by kernel_rfl
noncomputable def laws_szExpFormS.pts (m : Nat) := used laws_szExpFormS.env (ptsOf laws_szExpFormS.env (bodyOf Tryd.f15) (fun _ => retK Tryd.f15 (laws_szExpFormS.ct m)))
theorem laws_szExpFormS.n (m : Nat) : len (laws_szExpFormS.pts m) = 1 := by kernel_rfl
theorem laws_szExpFormS.g0 (m : Nat) : AtGood laws_szExpFormS.env (nth (laws_szExpFormS.pts m) 0) := loopGood laws_szExpFormS.c_l5 (by kernel_rfl) (by kernel_rfl) (fun _ => rfl) (fun k h => by kernel_rfl)
theorem laws_szExpFormS.good (m : Nat) : AllGood laws_szExpFormS.env (ptsOf laws_szExpFormS.env (bodyOf Tryd.f15) (fun _ => retK Tryd.f15 (laws_szExpFormS.ct m))) := allGood 1 (laws_szExpFormS.n m) (fun i hi => match i with | 0 => laws_szExpFormS.g0 m | i + 1 => absurd hi (by omega))
theorem laws_szExpFormS.ordsOK : ordsB sg (laws_szExpFormS.env 0).ords (bodyOf Tryd.f15) = true := by kernel_rfl
theorem laws_szExpForm.all (k : Nat) : (laws_szExpForm.ct k).Holds Tryd.prog 8 ∧ (laws_szExpFormS.ct k).Holds Tryd.prog 15 := by
  induction k using Nat.strongRecOn with
  | _ k ih => cases k with
    | zero => exact ⟨⟨by kernel_rfl, by kernel_rfl, (fun _ => by kernel_rfl), fun _ _ _ _ _ _ _ h => absurd (show none = some _ from h) (by intro e; cases e)⟩, ⟨by kernel_rfl, by kernel_rfl, (fun _ => by kernel_rfl), fun _ _ _ _ _ _ _ h => absurd (show none = some _ from h) (by intro e; cases e)⟩⟩
    | succ k => exact ⟨fn_ok (fn := Tryd.f8) (body := (bodyOf Tryd.f8)) sg.ok sg.tab sg.mixed (by kernel_rfl) (by kernel_rfl) (by kernel_rfl) (laws_szExpForm.ct (k + 1)) laws_szExpForm.env k (fun _ => by kernel_rfl) (fun _ => rfl) (fun _ => by kernel_rfl) (fun _ => rfl) (fun _ => rfl) (fun _ => rfl) laws_szExpForm.ordsOK (fun j hj => ctsOK (l := laws_szExpForm.cts j) ⟨(ih j (by omega)).2, (laws_szIntS.holds j), trivial⟩) (laws_szExpForm.good (k + 1)) (laws_szExpForm.eq k) (Nat.le_of_ble_eq_true (by kernel_rfl)) (by kernel_rfl) (by kernel_rfl) (by kernel_rfl) (fun _ => by kernel_rfl), fn_ok (fn := Tryd.f15) (body := (bodyOf Tryd.f15)) sg.ok sg.tab sg.mixed (by kernel_rfl) (by kernel_rfl) (by kernel_rfl) (laws_szExpFormS.ct (k + 1)) laws_szExpFormS.env k (fun _ => by kernel_rfl) (fun _ => rfl) (fun _ => by kernel_rfl) (fun _ => rfl) (fun _ => rfl) (fun _ => rfl) laws_szExpFormS.ordsOK (fun j hj => ctsOK (l := laws_szExpFormS.cts j) ⟨(ih j (by omega)).1, trivial⟩) (laws_szExpFormS.good (k + 1)) (laws_szExpFormS.eq k) (Nat.le_of_ble_eq_true (by kernel_rfl)) (by kernel_rfl) (by kernel_rfl) (by kernel_rfl) (fun _ => by kernel_rfl)⟩
theorem laws_szExpForm.holds (k : Nat) : (laws_szExpForm.ct k).Holds Tryd.prog 8 := (laws_szExpForm.all k).1
theorem laws_szExpFormS.holds (k : Nat) : (laws_szExpFormS.ct k).Holds Tryd.prog 15 := (laws_szExpForm.all k).2
def laws_toIntS.p_l3 : Pat := ⟨[(0, .one (.val (.sl 3 (.int .i64)))), (3, .one (.arr 0)), (4, .one (.val (.int .i64)))], [.arr 3 (.int .i64)]⟩
def laws_toIntS.c_l3 : Cut sg (HL sg.S [(.sl 3 (.int .i64))]) := ⟨laws_toIntS.p_l3, [(.sl 3 (.int .i64)), (.int .i64), (.sl 3 (.int .i64))], fun k h => laws_toIntS.l3 k h.1 h.2.1 h.2.2⟩
def laws_toIntS.ct (k : Nat) : Ct sg := ⟨true, ⟨[(0, .one (.val (.sl 3 (.int .i64))))], []⟩, ⟨[(0, .one (.arr 0))], [.arr 3 (.int .i64)]⟩, [(.sl 3 (.int .i64))], [(.sl 3 (.int .i64))], fun h => laws_toIntS.f k h⟩
def laws_toIntS.cts (k : Nat) : List (Nat × Ct sg) := []
def laws_toIntS.env (k : Nat) : Env sg (HL sg.S [(.sl 3 (.int .i64))]) := ⟨22, [], k, get (laws_toIntS.cts k), [(3, laws_toIntS.c_l3)], [], [], []⟩
theorem laws_toIntS.eq (k : Nat) (h : HL sg.S (laws_toIntS.ct k).its) : (laws_toIntS.ct k).F h = semF (laws_toIntS.ct k) (laws_toIntS.env k) Tryd.f34 (bodyOf Tryd.f34) h := by kernel_rfl
noncomputable def laws_toIntS.pts (m : Nat) := used laws_toIntS.env (ptsOf laws_toIntS.env (bodyOf Tryd.f34) (fun _ => retK Tryd.f34 (laws_toIntS.ct m)))
theorem laws_toIntS.n (m : Nat) : len (laws_toIntS.pts m) = 1 := by kernel_rfl
theorem laws_toIntS.g0 (m : Nat) : AtGood laws_toIntS.env (nth (laws_toIntS.pts m) 0) := loopGood laws_toIntS.c_l3 (by kernel_rfl) (by kernel_rfl) (fun _ => rfl) (fun k h => by kernel_rfl)
theorem laws_toIntS.good (m : Nat) : AllGood laws_toIntS.env (ptsOf laws_toIntS.env (bodyOf Tryd.f34) (fun _ => retK Tryd.f34 (laws_toIntS.ct m))) := allGood 1 (laws_toIntS.n m) (fun i hi => match i with | 0 => laws_toIntS.g0 m | i + 1 => absurd hi (by omega))
theorem laws_toIntS.ordsOK : ordsB sg (laws_toIntS.env 0).ords (bodyOf Tryd.f34) = true := by kernel_rfl
theorem laws_toIntS.holds (k : Nat) : (laws_toIntS.ct k).Holds Tryd.prog 34 :=
  fn_ok (fn := Tryd.f34) (body := (bodyOf Tryd.f34)) sg.ok sg.tab sg.mixed (by kernel_rfl) (by kernel_rfl) (by kernel_rfl) (laws_toIntS.ct k) laws_toIntS.env k (fun _ => by kernel_rfl) (fun _ => rfl) (fun _ => by kernel_rfl) (fun _ => rfl) (fun _ => rfl) (fun _ => rfl) laws_toIntS.ordsOK (fun j hj => ctsOK (l := laws_toIntS.cts j) trivial) (laws_toIntS.good k) (laws_toIntS.eq k) (Nat.le_of_ble_eq_true (by kernel_rfl)) (by kernel_rfl) (by kernel_rfl) (by kernel_rfl) (fun _ => by kernel_rfl)
def laws_toExpForm.ct (k : Nat) : Ct sg := ⟨true, ⟨[(0, .st 1)], []⟩, ⟨[(0, .agg [.val (.int .i64), .val .str, .warr 0, .val (.int .i64), .warr 1])], [.ow false false 3 (.int .i64), .ow false true 29 (.st 0)]⟩, [(.st 1)], [(.int .i64), .str, (.int .i64), (.sl 3 (.int .i64)), (.sl 29 (.st 0))], fun h => laws_toExpForm.f k h⟩
def laws_toExpFormS.p_l3 : Pat := ⟨[(0, .one (.val (.sl 25 (.st 1)))), (3, .one (.arr 0)), (4, .one (.val (.int .i64)))], [.ow false true 29 (.st 0)]⟩
def laws_toExpFormS.c_l3 : Cut sg (HL sg.S [(.sl 29 (.st 0))]) := ⟨laws_toExpFormS.p_l3, [(.sl 25 (.st 1)), (.int .i64), (.sl 29 (.st 0))], fun k h => laws_toExpFormS.l3 k h.1 h.2.1 h.2.2⟩
def laws_toExpFormS.ct (k : Nat) : Ct sg := ⟨true, ⟨[(0, .one (.val (.sl 25 (.st 1))))], []⟩, ⟨[(0, .one (.warr 0))], [.ow false true 29 (.st 0)]⟩, [(.sl 25 (.st 1))], [(.sl 29 (.st 0))], fun h => laws_toExpFormS.f k h⟩
def laws_toExpForm.cts (k : Nat) : List (Nat × Ct sg) := [(17, laws_toExpFormS.ct k), (34, laws_toIntS.ct k)]
def laws_toExpForm.env (k : Nat) : Env sg (HL sg.S [(.int .i64), .str, (.int .i64), (.sl 3 (.int .i64)), (.sl 29 (.st 0))]) := ⟨22, [], k, get (laws_toExpForm.cts k), [], [], [], []⟩
theorem laws_toExpForm.eq (k : Nat) (h : HL sg.S (laws_toExpForm.ct (k + 1)).its) : (laws_toExpForm.ct (k + 1)).F h = semF (laws_toExpForm.ct (k + 1)) (laws_toExpForm.env k) Tryd.f10 (bodyOf Tryd.f10) h := by kernel_rfl
noncomputable def laws_toExpForm.pts (m : Nat) := used laws_toExpForm.env (ptsOf laws_toExpForm.env (bodyOf Tryd.f10) (fun _ => retK Tryd.f10 (laws_toExpForm.ct m)))
theorem laws_toExpForm.n (m : Nat) : len (laws_toExpForm.pts m) = 0 := by kernel_rfl
theorem laws_toExpForm.good (m : Nat) : AllGood laws_toExpForm.env (ptsOf laws_toExpForm.env (bodyOf Tryd.f10) (fun _ => retK Tryd.f10 (laws_toExpForm.ct m))) := allGood 0 (laws_toExpForm.n m) (fun i hi => match i with | i + 0 => absurd hi (by omega))
theorem laws_toExpForm.ordsOK : ordsB sg (laws_toExpForm.env 0).ords (bodyOf Tryd.f10) = true := by kernel_rfl
def laws_toExpFormS.cts (k : Nat) : List (Nat × Ct sg) := [(10, laws_toExpForm.ct k)]
def laws_toExpFormS.env (k : Nat) : Env sg (HL sg.S [(.sl 29 (.st 0))]) := ⟨23, [], k, get (laws_toExpFormS.cts k), [(3, laws_toExpFormS.c_l3)], [], [], [7]⟩
theorem laws_toExpFormS.eq (k : Nat) (h : HL sg.S (laws_toExpFormS.ct (k + 1)).its) : (laws_toExpFormS.ct (k + 1)).F h = semF (laws_toExpFormS.ct (k + 1)) (laws_toExpFormS.env k) Tryd.f17 (bodyOf Tryd.f17) h := by kernel_rfl
noncomputable def laws_toExpFormS.pts (m : Nat) := used laws_toExpFormS.env (ptsOf laws_toExpFormS.env (bodyOf Tryd.f17) (fun _ => retK Tryd.f17 (laws_toExpFormS.ct m)))
theorem laws_toExpFormS.n (m : Nat) : len (laws_toExpFormS.pts m) = 1 := by kernel_rfl
theorem laws_toExpFormS.g0 (m : Nat) : AtGood laws_toExpFormS.env (nth (laws_toExpFormS.pts m) 0) := loopGood laws_toExpFormS.c_l3 (by kernel_rfl) (by kernel_rfl) (fun _ => rfl) (fun k h => by kernel_rfl)
theorem laws_toExpFormS.good (m : Nat) : AllGood laws_toExpFormS.env (ptsOf laws_toExpFormS.env (bodyOf Tryd.f17) (fun _ => retK Tryd.f17 (laws_toExpFormS.ct m))) := allGood 1 (laws_toExpFormS.n m) (fun i hi => match i with | 0 => laws_toExpFormS.g0 m | i + 1 => absurd hi (by omega))
theorem laws_toExpFormS.ordsOK : ordsB sg (laws_toExpFormS.env 0).ords (bodyOf Tryd.f17) = true := by kernel_rfl
theorem laws_toExpForm.all (k : Nat) : (laws_toExpForm.ct k).Holds Tryd.prog 10 ∧ (laws_toExpFormS.ct k).Holds Tryd.prog 17 := by
  induction k using Nat.strongRecOn with
  | _ k ih => cases k with
    | zero => exact ⟨⟨by kernel_rfl, by kernel_rfl, (fun _ => by kernel_rfl), fun _ _ _ _ _ _ _ h => absurd (show none = some _ from h) (by intro e; cases e)⟩, ⟨by kernel_rfl, by kernel_rfl, (fun _ => by kernel_rfl), fun _ _ _ _ _ _ _ h => absurd (show none = some _ from h) (by intro e; cases e)⟩⟩
    | succ k => exact ⟨fn_ok (fn := Tryd.f10) (body := (bodyOf Tryd.f10)) sg.ok sg.tab sg.mixed (by kernel_rfl) (by kernel_rfl) (by kernel_rfl) (laws_toExpForm.ct (k + 1)) laws_toExpForm.env k (fun _ => by kernel_rfl) (fun _ => rfl) (fun _ => by kernel_rfl) (fun _ => rfl) (fun _ => rfl) (fun _ => rfl) laws_toExpForm.ordsOK (fun j hj => ctsOK (l := laws_toExpForm.cts j) ⟨(ih j (by omega)).2, (laws_toIntS.holds j), trivial⟩) (laws_toExpForm.good (k + 1)) (laws_toExpForm.eq k) (Nat.le_of_ble_eq_true (by kernel_rfl)) (by kernel_rfl) (by kernel_rfl) (by kernel_rfl) (fun _ => by kernel_rfl), fn_ok (fn := Tryd.f17) (body := (bodyOf Tryd.f17)) sg.ok sg.tab sg.mixed (by kernel_rfl) (by kernel_rfl) (by kernel_rfl) (laws_toExpFormS.ct (k + 1)) laws_toExpFormS.env k (fun _ => by kernel_rfl) (fun _ => rfl) (fun _ => by kernel_rfl) (fun _ => rfl) (fun _ => rfl) (fun _ => rfl) laws_toExpFormS.ordsOK (fun j hj => ctsOK (l := laws_toExpFormS.cts j) ⟨(ih j (by omega)).1, trivial⟩) (laws_toExpFormS.good (k + 1)) (laws_toExpFormS.eq k) (Nat.le_of_ble_eq_true (by kernel_rfl)) (by kernel_rfl) (by kernel_rfl) (by kernel_rfl) (fun _ => by kernel_rfl)⟩
theorem laws_toExpForm.holds (k : Nat) : (laws_toExpForm.ct k).Holds Tryd.prog 10 := (laws_toExpForm.all k).1
theorem laws_toExpFormS.holds (k : Nat) : (laws_toExpFormS.ct k).Holds Tryd.prog 17 := (laws_toExpForm.all k).2
def spec_l1Digits.p_l2 : Pat := ⟨[(0, .one (.val .str)), (3, .one (.val (.int .i64)))], []⟩
def spec_l1Digits.c_l2 : Cut sg (HL sg.S [.bool]) := ⟨spec_l1Digits.p_l2, [.str, (.int .i64)], fun k h => spec_l1Digits.l2 k h.1 h.2⟩
def spec_l1Digits.ct (k : Nat) : Ct sg := ⟨true, ⟨[(0, .one (.val .str))], []⟩, ⟨[(0, .one (.val .bool))], []⟩, [.str], [.bool], fun h => spec_l1Digits.f k h⟩
def spec_l1Digits.cts (k : Nat) : List (Nat × Ct sg) := []
def spec_l1Digits.env (k : Nat) : Env sg (HL sg.S [.bool]) := ⟨23, [], k, get (spec_l1Digits.cts k), [(2, spec_l1Digits.c_l2)], [], [], []⟩
theorem spec_l1Digits.eq (k : Nat) (h : HL sg.S (spec_l1Digits.ct k).its) : (spec_l1Digits.ct k).F h = semF (spec_l1Digits.ct k) (spec_l1Digits.env k) Tryd.f101 (bodyOf Tryd.f101) h := by kernel_rfl
noncomputable def spec_l1Digits.pts (m : Nat) := used spec_l1Digits.env (ptsOf spec_l1Digits.env (bodyOf Tryd.f101) (fun _ => retK Tryd.f101 (spec_l1Digits.ct m)))
theorem spec_l1Digits.n (m : Nat) : len (spec_l1Digits.pts m) = 1 := by kernel_rfl
theorem spec_l1Digits.g0 (m : Nat) : AtGood spec_l1Digits.env (nth (spec_l1Digits.pts m) 0) := loopGood spec_l1Digits.c_l2 (by kernel_rfl) (by kernel_rfl) (fun _ => rfl) (fun k h => by kernel_rfl)
theorem spec_l1Digits.good (m : Nat) : AllGood spec_l1Digits.env (ptsOf spec_l1Digits.env (bodyOf Tryd.f101) (fun _ => retK Tryd.f101 (spec_l1Digits.ct m))) := allGood 1 (spec_l1Digits.n m) (fun i hi => match i with | 0 => spec_l1Digits.g0 m | i + 1 => absurd hi (by omega))
theorem spec_l1Digits.ordsOK : ordsB sg (spec_l1Digits.env 0).ords (bodyOf Tryd.f101) = true := by kernel_rfl
theorem spec_l1Digits.holds (k : Nat) : (spec_l1Digits.ct k).Holds Tryd.prog 101 :=
  fn_ok (fn := Tryd.f101) (body := (bodyOf Tryd.f101)) sg.ok sg.tab sg.mixed (by kernel_rfl) (by kernel_rfl) (by kernel_rfl) (spec_l1Digits.ct k) spec_l1Digits.env k (fun _ => by kernel_rfl) (fun _ => rfl) (fun _ => by kernel_rfl) (fun _ => rfl) (fun _ => rfl) (fun _ => rfl) spec_l1Digits.ordsOK (fun j hj => ctsOK (l := spec_l1Digits.cts j) trivial) (spec_l1Digits.good k) (spec_l1Digits.eq k) (Nat.le_of_ble_eq_true (by kernel_rfl)) (by kernel_rfl) (by kernel_rfl) (by kernel_rfl) (fun _ => by kernel_rfl)
def spec_l1AtomOk.p_j3 : Pat := ⟨[(0, .one (.val .str))], []⟩
def spec_l1AtomOk.c_j3 : Cut sg (HL sg.S [.bool]) := ⟨spec_l1AtomOk.p_j3, [.str], fun k h => spec_l1AtomOk.j3 k h⟩
def spec_l1AtomOk.p_j5 : Pat := ⟨[(0, .one (.val .str))], []⟩
def spec_l1AtomOk.c_j5 : Cut sg (HL sg.S [.bool]) := ⟨spec_l1AtomOk.p_j5, [.str], fun k h => spec_l1AtomOk.j5 k h⟩
def spec_l1AtomOk.p_l6 : Pat := ⟨[(0, .one (.val .str)), (3, .one (.val (.int .i64)))], []⟩
def spec_l1AtomOk.c_l6 : Cut sg (HL sg.S [.bool]) := ⟨spec_l1AtomOk.p_l6, [.str, (.int .i64)], fun k h => spec_l1AtomOk.l6 k h.1 h.2⟩
def spec_l1AtomOk.ct (k : Nat) : Ct sg := ⟨true, ⟨[(0, .one (.val .str))], []⟩, ⟨[(0, .one (.val .bool))], []⟩, [.str], [.bool], fun h => spec_l1AtomOk.f k h⟩
def spec_l1AtomOk.cts (k : Nat) : List (Nat × Ct sg) := [(101, spec_l1Digits.ct k)]
def spec_l1AtomOk.env (k : Nat) : Env sg (HL sg.S [.bool]) := ⟨68, [], k, get (spec_l1AtomOk.cts k), [(6, spec_l1AtomOk.c_l6)], [(3, spec_l1AtomOk.c_j3), (5, spec_l1AtomOk.c_j5)], [], []⟩
theorem spec_l1AtomOk.eq (k : Nat) (h : HL sg.S (spec_l1AtomOk.ct k).its) : (spec_l1AtomOk.ct k).F h = semF (spec_l1AtomOk.ct k) (spec_l1AtomOk.env k) Tryd.f88 (bodyOf Tryd.f88) h := by kernel_rfl
noncomputable def spec_l1AtomOk.pts (m : Nat) := used spec_l1AtomOk.env (ptsOf spec_l1AtomOk.env (bodyOf Tryd.f88) (fun _ => retK Tryd.f88 (spec_l1AtomOk.ct m)))
theorem spec_l1AtomOk.n (m : Nat) : len (spec_l1AtomOk.pts m) = 3 := by kernel_rfl
theorem spec_l1AtomOk.g0 (m : Nat) : AtGood spec_l1AtomOk.env (nth (spec_l1AtomOk.pts m) 0) := joinGood spec_l1AtomOk.c_j3 (by kernel_rfl) (by kernel_rfl) (fun k h => by kernel_rfl)
theorem spec_l1AtomOk.g1 (m : Nat) : AtGood spec_l1AtomOk.env (nth (spec_l1AtomOk.pts m) 1) := joinGood spec_l1AtomOk.c_j5 (by kernel_rfl) (by kernel_rfl) (fun k h => by kernel_rfl)
theorem spec_l1AtomOk.g2 (m : Nat) : AtGood spec_l1AtomOk.env (nth (spec_l1AtomOk.pts m) 2) := loopGood spec_l1AtomOk.c_l6 (by kernel_rfl) (by kernel_rfl) (fun _ => rfl) (fun k h => by kernel_rfl)
theorem spec_l1AtomOk.good (m : Nat) : AllGood spec_l1AtomOk.env (ptsOf spec_l1AtomOk.env (bodyOf Tryd.f88) (fun _ => retK Tryd.f88 (spec_l1AtomOk.ct m))) := allGood 3 (spec_l1AtomOk.n m) (fun i hi => match i with | 0 => spec_l1AtomOk.g0 m | 1 => spec_l1AtomOk.g1 m | 2 => spec_l1AtomOk.g2 m | i + 3 => absurd hi (by omega))
theorem spec_l1AtomOk.ordsOK : ordsB sg (spec_l1AtomOk.env 0).ords (bodyOf Tryd.f88) = true := by kernel_rfl
theorem spec_l1AtomOk.holds (k : Nat) : (spec_l1AtomOk.ct k).Holds Tryd.prog 88 :=
  fn_ok (fn := Tryd.f88) (body := (bodyOf Tryd.f88)) sg.ok sg.tab sg.mixed (by kernel_rfl) (by kernel_rfl) (by kernel_rfl) (spec_l1AtomOk.ct k) spec_l1AtomOk.env k (fun _ => by kernel_rfl) (fun _ => rfl) (fun _ => by kernel_rfl) (fun _ => rfl) (fun _ => rfl) (fun _ => rfl) spec_l1AtomOk.ordsOK (fun j hj => ctsOK (l := spec_l1AtomOk.cts j) ⟨(spec_l1Digits.holds j), trivial⟩) (spec_l1AtomOk.good k) (spec_l1AtomOk.eq k) (Nat.le_of_ble_eq_true (by kernel_rfl)) (by kernel_rfl) (by kernel_rfl) (by kernel_rfl) (fun _ => by kernel_rfl)
def spec_l1Blank.ct (k : Nat) : Ct sg := ⟨true, ⟨[(0, .one (.val (.int .u8)))], []⟩, ⟨[(0, .one (.val .bool))], []⟩, [(.int .u8)], [.bool], fun h => spec_l1Blank.f k h⟩
def spec_l1Blank.cts (k : Nat) : List (Nat × Ct sg) := []
def spec_l1Blank.env (k : Nat) : Env sg (HL sg.S [.bool]) := ⟨9, [], k, get (spec_l1Blank.cts k), [], [], [], []⟩
theorem spec_l1Blank.eq (k : Nat) (h : HL sg.S (spec_l1Blank.ct k).its) : (spec_l1Blank.ct k).F h = semF (spec_l1Blank.ct k) (spec_l1Blank.env k) Tryd.f115 (bodyOf Tryd.f115) h := by kernel_rfl
noncomputable def spec_l1Blank.pts (m : Nat) := used spec_l1Blank.env (ptsOf spec_l1Blank.env (bodyOf Tryd.f115) (fun _ => retK Tryd.f115 (spec_l1Blank.ct m)))
theorem spec_l1Blank.n (m : Nat) : len (spec_l1Blank.pts m) = 0 := by kernel_rfl
theorem spec_l1Blank.good (m : Nat) : AllGood spec_l1Blank.env (ptsOf spec_l1Blank.env (bodyOf Tryd.f115) (fun _ => retK Tryd.f115 (spec_l1Blank.ct m))) := allGood 0 (spec_l1Blank.n m) (fun i hi => match i with | i + 0 => absurd hi (by omega))
theorem spec_l1Blank.ordsOK : ordsB sg (spec_l1Blank.env 0).ords (bodyOf Tryd.f115) = true := by kernel_rfl
theorem spec_l1Blank.holds (k : Nat) : (spec_l1Blank.ct k).Holds Tryd.prog 115 :=
  fn_ok (fn := Tryd.f115) (body := (bodyOf Tryd.f115)) sg.ok sg.tab sg.mixed (by kernel_rfl) (by kernel_rfl) (by kernel_rfl) (spec_l1Blank.ct k) spec_l1Blank.env k (fun _ => by kernel_rfl) (fun _ => rfl) (fun _ => by kernel_rfl) (fun _ => rfl) (fun _ => rfl) (fun _ => rfl) spec_l1Blank.ordsOK (fun j hj => ctsOK (l := spec_l1Blank.cts j) trivial) (spec_l1Blank.good k) (spec_l1Blank.eq k) (Nat.le_of_ble_eq_true (by kernel_rfl)) (by kernel_rfl) (by kernel_rfl) (by kernel_rfl) (fun _ => by kernel_rfl)
def spec_l1Ends.ct (k : Nat) : Ct sg := ⟨true, ⟨[(0, .one (.val (.int .u8)))], []⟩, ⟨[(0, .one (.val .bool))], []⟩, [(.int .u8)], [.bool], fun h => spec_l1Ends.f k h⟩
def spec_l1Ends.cts (k : Nat) : List (Nat × Ct sg) := [(115, spec_l1Blank.ct k)]
def spec_l1Ends.env (k : Nat) : Env sg (HL sg.S [.bool]) := ⟨21, [], k, get (spec_l1Ends.cts k), [], [], [], []⟩
theorem spec_l1Ends.eq (k : Nat) (h : HL sg.S (spec_l1Ends.ct k).its) : (spec_l1Ends.ct k).F h = semF (spec_l1Ends.ct k) (spec_l1Ends.env k) Tryd.f100 (bodyOf Tryd.f100) h := by kernel_rfl
noncomputable def spec_l1Ends.pts (m : Nat) := used spec_l1Ends.env (ptsOf spec_l1Ends.env (bodyOf Tryd.f100) (fun _ => retK Tryd.f100 (spec_l1Ends.ct m)))
theorem spec_l1Ends.n (m : Nat) : len (spec_l1Ends.pts m) = 0 := by kernel_rfl
theorem spec_l1Ends.good (m : Nat) : AllGood spec_l1Ends.env (ptsOf spec_l1Ends.env (bodyOf Tryd.f100) (fun _ => retK Tryd.f100 (spec_l1Ends.ct m))) := allGood 0 (spec_l1Ends.n m) (fun i hi => match i with | i + 0 => absurd hi (by omega))
theorem spec_l1Ends.ordsOK : ordsB sg (spec_l1Ends.env 0).ords (bodyOf Tryd.f100) = true := by kernel_rfl
theorem spec_l1Ends.holds (k : Nat) : (spec_l1Ends.ct k).Holds Tryd.prog 100 :=
  fn_ok (fn := Tryd.f100) (body := (bodyOf Tryd.f100)) sg.ok sg.tab sg.mixed (by kernel_rfl) (by kernel_rfl) (by kernel_rfl) (spec_l1Ends.ct k) spec_l1Ends.env k (fun _ => by kernel_rfl) (fun _ => rfl) (fun _ => by kernel_rfl) (fun _ => rfl) (fun _ => rfl) (fun _ => rfl) spec_l1Ends.ordsOK (fun j hj => ctsOK (l := spec_l1Ends.cts j) ⟨(spec_l1Blank.holds j), trivial⟩) (spec_l1Ends.good k) (spec_l1Ends.eq k) (Nat.le_of_ble_eq_true (by kernel_rfl)) (by kernel_rfl) (by kernel_rfl) (by kernel_rfl) (fun _ => by kernel_rfl)
def spec_l1IdOk.p_j3 : Pat := ⟨[(0, .one (.val .str))], []⟩
def spec_l1IdOk.c_j3 : Cut sg (HL sg.S [.bool]) := ⟨spec_l1IdOk.p_j3, [.str], fun k h => spec_l1IdOk.j3 k h⟩
def spec_l1IdOk.p_l4 : Pat := ⟨[(0, .one (.val .str)), (3, .one (.val (.int .i64)))], []⟩
def spec_l1IdOk.c_l4 : Cut sg (HL sg.S [.bool]) := ⟨spec_l1IdOk.p_l4, [.str, (.int .i64)], fun k h => spec_l1IdOk.l4 k h.1 h.2⟩
def spec_l1IdOk.ct (k : Nat) : Ct sg := ⟨true, ⟨[(0, .one (.val .str))], []⟩, ⟨[(0, .one (.val .bool))], []⟩, [.str], [.bool], fun h => spec_l1IdOk.f k h⟩
def spec_l1IdOk.cts (k : Nat) : List (Nat × Ct sg) := [(88, spec_l1AtomOk.ct k), (100, spec_l1Ends.ct k)]
def spec_l1IdOk.env (k : Nat) : Env sg (HL sg.S [.bool]) := ⟨47, [], k, get (spec_l1IdOk.cts k), [(4, spec_l1IdOk.c_l4)], [(3, spec_l1IdOk.c_j3)], [], []⟩
theorem spec_l1IdOk.eq (k : Nat) (h : HL sg.S (spec_l1IdOk.ct k).its) : (spec_l1IdOk.ct k).F h = semF (spec_l1IdOk.ct k) (spec_l1IdOk.env k) Tryd.f86 (bodyOf Tryd.f86) h := by kernel_rfl
noncomputable def spec_l1IdOk.pts (m : Nat) := used spec_l1IdOk.env (ptsOf spec_l1IdOk.env (bodyOf Tryd.f86) (fun _ => retK Tryd.f86 (spec_l1IdOk.ct m)))
theorem spec_l1IdOk.n (m : Nat) : len (spec_l1IdOk.pts m) = 2 := by kernel_rfl
theorem spec_l1IdOk.g0 (m : Nat) : AtGood spec_l1IdOk.env (nth (spec_l1IdOk.pts m) 0) := joinGood spec_l1IdOk.c_j3 (by kernel_rfl) (by kernel_rfl) (fun k h => by kernel_rfl)
theorem spec_l1IdOk.g1 (m : Nat) : AtGood spec_l1IdOk.env (nth (spec_l1IdOk.pts m) 1) := loopGood spec_l1IdOk.c_l4 (by kernel_rfl) (by kernel_rfl) (fun _ => rfl) (fun k h => by kernel_rfl)
theorem spec_l1IdOk.good (m : Nat) : AllGood spec_l1IdOk.env (ptsOf spec_l1IdOk.env (bodyOf Tryd.f86) (fun _ => retK Tryd.f86 (spec_l1IdOk.ct m))) := allGood 2 (spec_l1IdOk.n m) (fun i hi => match i with | 0 => spec_l1IdOk.g0 m | 1 => spec_l1IdOk.g1 m | i + 2 => absurd hi (by omega))
theorem spec_l1IdOk.ordsOK : ordsB sg (spec_l1IdOk.env 0).ords (bodyOf Tryd.f86) = true := by kernel_rfl
theorem spec_l1IdOk.holds (k : Nat) : (spec_l1IdOk.ct k).Holds Tryd.prog 86 :=
  fn_ok (fn := Tryd.f86) (body := (bodyOf Tryd.f86)) sg.ok sg.tab sg.mixed (by kernel_rfl) (by kernel_rfl) (by kernel_rfl) (spec_l1IdOk.ct k) spec_l1IdOk.env k (fun _ => by kernel_rfl) (fun _ => rfl) (fun _ => by kernel_rfl) (fun _ => rfl) (fun _ => rfl) (fun _ => rfl) spec_l1IdOk.ordsOK (fun j hj => ctsOK (l := spec_l1IdOk.cts j) ⟨(spec_l1AtomOk.holds j), (spec_l1Ends.holds j), trivial⟩) (spec_l1IdOk.good k) (spec_l1IdOk.eq k) (Nat.le_of_ble_eq_true (by kernel_rfl)) (by kernel_rfl) (by kernel_rfl) (by kernel_rfl) (fun _ => by kernel_rfl)
def spec_l1ScopesOk.p_l2 : Pat := ⟨[(0, .one (.val (.sl 3 (.int .i64)))), (3, .one (.val (.int .i64)))], []⟩
def spec_l1ScopesOk.c_l2 : Cut sg (HL sg.S [.bool]) := ⟨spec_l1ScopesOk.p_l2, [(.sl 3 (.int .i64)), (.int .i64)], fun k h => spec_l1ScopesOk.l2 k h.1 h.2⟩
def spec_l1ScopesOk.ct (k : Nat) : Ct sg := ⟨true, ⟨[(0, .one (.val (.sl 3 (.int .i64))))], []⟩, ⟨[(0, .one (.val .bool))], []⟩, [(.sl 3 (.int .i64))], [.bool], fun h => spec_l1ScopesOk.f k h⟩
def spec_l1ScopesOk.cts (k : Nat) : List (Nat × Ct sg) := []
def spec_l1ScopesOk.env (k : Nat) : Env sg (HL sg.S [.bool]) := ⟨31, [], k, get (spec_l1ScopesOk.cts k), [(2, spec_l1ScopesOk.c_l2)], [], [(4, [[0, 1, 2, 3, 4, 5, 6, 7, 8, 9, 10, 11, 12, 13, 14, 15, 16, 17, 18, 19, 20]])], []⟩
theorem spec_l1ScopesOk.eq (k : Nat) (h : HL sg.S (spec_l1ScopesOk.ct k).its) : (spec_l1ScopesOk.ct k).F h = semF (spec_l1ScopesOk.ct k) (spec_l1ScopesOk.env k) Tryd.f87 (bodyOf Tryd.f87) h := by kernel_rfl
noncomputable def spec_l1ScopesOk.pts (m : Nat) := used spec_l1ScopesOk.env (ptsOf spec_l1ScopesOk.env (bodyOf Tryd.f87) (fun _ => retK Tryd.f87 (spec_l1ScopesOk.ct m)))
theorem spec_l1ScopesOk.n (m : Nat) : len (spec_l1ScopesOk.pts m) = 1 := by kernel_rfl
theorem spec_l1ScopesOk.g0 (m : Nat) : AtGood spec_l1ScopesOk.env (nth (spec_l1ScopesOk.pts m) 0) := loopGood spec_l1ScopesOk.c_l2 (by kernel_rfl) (by kernel_rfl) (fun _ => rfl) (fun k h => by kernel_rfl)
theorem spec_l1ScopesOk.good (m : Nat) : AllGood spec_l1ScopesOk.env (ptsOf spec_l1ScopesOk.env (bodyOf Tryd.f87) (fun _ => retK Tryd.f87 (spec_l1ScopesOk.ct m))) := allGood 1 (spec_l1ScopesOk.n m) (fun i hi => match i with | 0 => spec_l1ScopesOk.g0 m | i + 1 => absurd hi (by omega))
theorem spec_l1ScopesOk.ordsOK : ordsB sg (spec_l1ScopesOk.env 0).ords (bodyOf Tryd.f87) = true := by kernel_rfl
theorem spec_l1ScopesOk.holds (k : Nat) : (spec_l1ScopesOk.ct k).Holds Tryd.prog 87 :=
  fn_ok (fn := Tryd.f87) (body := (bodyOf Tryd.f87)) sg.ok sg.tab sg.mixed (by kernel_rfl) (by kernel_rfl) (by kernel_rfl) (spec_l1ScopesOk.ct k) spec_l1ScopesOk.env k (fun _ => by kernel_rfl) (fun _ => rfl) (fun _ => by kernel_rfl) (fun _ => rfl) (fun _ => rfl) (fun _ => rfl) spec_l1ScopesOk.ordsOK (fun j hj => ctsOK (l := spec_l1ScopesOk.cts j) trivial) (spec_l1ScopesOk.good k) (spec_l1ScopesOk.eq k) (Nat.le_of_ble_eq_true (by kernel_rfl)) (by kernel_rfl) (by kernel_rfl) (by kernel_rfl) (fun _ => by kernel_rfl)
def spec_l1Ok.p_j11 : Pat := ⟨[(1, .one (.val (.int .i64))), (2, .one (.ptr 0 0)), (64, .one (.val .bool))], [.cells [] [.val (.int .i64), .val .str, .val (.sl 3 (.int .i64)), .val (.int .i64), .val (.sl 29 (.st 0))]]⟩
def spec_l1Ok.c_j11 : Cut sg (HL sg.S [.bool]) := ⟨spec_l1Ok.p_j11, [(.int .i64), .bool, (.int .i64), .str, (.sl 3 (.int .i64)), (.int .i64), (.sl 29 (.st 0))], fun k h => spec_l1Ok.j11 k h.1 h.2.1 h.2.2.1 h.2.2.2.1 h.2.2.2.2.1 h.2.2.2.2.2.1 h.2.2.2.2.2.2⟩
def spec_l1Ok.p_j13 : Pat := ⟨[(1, .one (.val (.int .i64))), (2, .one (.ptr 0 0))], [.cells [] [.val (.int .i64), .any, .any, .any, .val (.sl 29 (.st 0))]]⟩
def spec_l1Ok.c_j13 : Cut sg (HL sg.S [.bool]) := ⟨spec_l1Ok.p_j13, [(.int .i64), (.int .i64), (.sl 29 (.st 0))], fun k h => spec_l1Ok.j13 k h.1 h.2.1 h.2.2⟩
def spec_l1Ok.p_l14 : Pat := ⟨[(1, .one (.val (.int .i64))), (2, .one (.ptr 0 0)), (5, .one (.val (.int .i64)))], [.cells [] [.val (.int .i64), .any, .any, .any, .val (.sl 29 (.st 0))]]⟩
def spec_l1Ok.c_l14 : Cut sg (HL sg.S [.bool]) := ⟨spec_l1Ok.p_l14, [(.int .i64), (.int .i64), (.int .i64), (.sl 29 (.st 0))], fun k h => spec_l1Ok.l14 k h.1 h.2.1 h.2.2.1 h.2.2.2⟩
def spec_l1Ok.ct (k : Nat) : Ct sg := ⟨true, ⟨[(0, .st 0), (1, .one (.val (.int .i64)))], []⟩, ⟨[(0, .one (.val .bool))], []⟩, [(.st 0), (.int .i64)], [.bool], fun h => spec_l1Ok.f k h.1 h.2⟩
def spec_l1Ok.cts (k : Nat) : List (Nat × Ct sg) := [(56, spec_l1Ok.ct k), (86, spec_l1IdOk.ct k), (87, spec_l1ScopesOk.ct k), (88, spec_l1AtomOk.ct k)]
def spec_l1Ok.env (k : Nat) : Env sg (HL sg.S [.bool]) := ⟨127, [], k, get (spec_l1Ok.cts k), [(14, spec_l1Ok.c_l14)], [(11, spec_l1Ok.c_j11), (13, spec_l1Ok.c_j13)], [], []⟩
theorem spec_l1Ok.eq (k : Nat) (h : HL sg.S (spec_l1Ok.ct (k + 1)).its) : (spec_l1Ok.ct (k + 1)).F h = semF (spec_l1Ok.ct (k + 1)) (spec_l1Ok.env k) Tryd.f56 (bodyOf Tryd.f56) h := by kernel_rfl
noncomputable def spec_l1Ok.pts (m : Nat) := used spec_l1Ok.env (ptsOf spec_l1Ok.env (bodyOf Tryd.f56) (fun _ => retK Tryd.f56 (spec_l1Ok.ct m)))
theorem spec_l1Ok.n (m : Nat) : len (spec_l1Ok.pts m) = 3 := by kernel_rfl
theorem spec_l1Ok.g0 (m : Nat) : AtGood spec_l1Ok.env (nth (spec_l1Ok.pts m) 0) := joinGood spec_l1Ok.c_j13 (by kernel_rfl) (by kernel_rfl) (fun k h => by kernel_rfl)
theorem spec_l1Ok.g1 (m : Nat) : AtGood spec_l1Ok.env (nth (spec_l1Ok.pts m) 1) := joinGood spec_l1Ok.c_j11 (by kernel_rfl) (by kernel_rfl) (fun k h => by kernel_rfl)
theorem spec_l1Ok.g2 (m : Nat) : AtGood spec_l1Ok.env (nth (spec_l1Ok.pts m) 2) := loopGood spec_l1Ok.c_l14 (by kernel_rfl) (by kernel_rfl) (fun _ => rfl) (fun k h => by kernel_rfl)
theorem spec_l1Ok.good (m : Nat) : AllGood spec_l1Ok.env (ptsOf spec_l1Ok.env (bodyOf Tryd.f56) (fun _ => retK Tryd.f56 (spec_l1Ok.ct m))) := allGood 3 (spec_l1Ok.n m) (fun i hi => match i with | 0 => spec_l1Ok.g0 m | 1 => spec_l1Ok.g1 m | 2 => spec_l1Ok.g2 m | i + 3 => absurd hi (by omega))
theorem spec_l1Ok.ordsOK : ordsB sg (spec_l1Ok.env 0).ords (bodyOf Tryd.f56) = true := by kernel_rfl
theorem spec_l1Ok.all (k : Nat) : (spec_l1Ok.ct k).Holds Tryd.prog 56 := by
  induction k using Nat.strongRecOn with
  | _ k ih => cases k with
    | zero => exact ⟨by kernel_rfl, by kernel_rfl, (fun _ => by kernel_rfl), fun _ _ _ _ _ _ _ h => absurd (show none = some _ from h) (by intro e; cases e)⟩
    | succ k => exact fn_ok (fn := Tryd.f56) (body := (bodyOf Tryd.f56)) sg.ok sg.tab sg.mixed (by kernel_rfl) (by kernel_rfl) (by kernel_rfl) (spec_l1Ok.ct (k + 1)) spec_l1Ok.env k (fun _ => by kernel_rfl) (fun _ => rfl) (fun _ => by kernel_rfl) (fun _ => rfl) (fun _ => rfl) (fun _ => rfl) spec_l1Ok.ordsOK (fun j hj => ctsOK (l := spec_l1Ok.cts j) ⟨(ih j (by omega)), (spec_l1IdOk.holds j), (spec_l1ScopesOk.holds j), (spec_l1AtomOk.holds j), trivial⟩) (spec_l1Ok.good (k + 1)) (spec_l1Ok.eq k) (Nat.le_of_ble_eq_true (by kernel_rfl)) (by kernel_rfl) (by kernel_rfl) (by kernel_rfl) (fun _ => by kernel_rfl)
theorem spec_l1Ok.holds (k : Nat) : (spec_l1Ok.ct k).Holds Tryd.prog 56 := (spec_l1Ok.all k)
def spec_l1Size.p_l3 : Pat := ⟨[(1, .one (.ptr 0 0)), (3, .one (.val (.int .i64))), (4, .one (.val (.int .i64)))], [.cells [] [.any, .any, .any, .any, .val (.sl 29 (.st 0))]]⟩
def spec_l1Size.c_l3 : Cut sg (HL sg.S [(.int .i64)]) := ⟨spec_l1Size.p_l3, [(.int .i64), (.int .i64), (.sl 29 (.st 0))], fun k h => spec_l1Size.l3 k h.1 h.2.1 h.2.2⟩
def spec_l1Size.ct (k : Nat) : Ct sg := ⟨true, ⟨[(0, .st 0)], []⟩, ⟨[(0, .one (.val (.int .i64)))], []⟩, [(.st 0)], [(.int .i64)], fun h => spec_l1Size.f k h⟩
def spec_l1Size.cts (k : Nat) : List (Nat × Ct sg) := [(57, spec_l1Size.ct k)]
def spec_l1Size.env (k : Nat) : Env sg (HL sg.S [(.int .i64)]) := ⟨21, [], k, get (spec_l1Size.cts k), [(3, spec_l1Size.c_l3)], [], [], []⟩
theorem spec_l1Size.eq (k : Nat) (h : HL sg.S (spec_l1Size.ct (k + 1)).its) : (spec_l1Size.ct (k + 1)).F h = semF (spec_l1Size.ct (k + 1)) (spec_l1Size.env k) Tryd.f57 (bodyOf Tryd.f57) h := by kernel_rfl
noncomputable def spec_l1Size.pts (m : Nat) := used spec_l1Size.env (ptsOf spec_l1Size.env (bodyOf Tryd.f57) (fun _ => retK Tryd.f57 (spec_l1Size.ct m)))
theorem spec_l1Size.n (m : Nat) : len (spec_l1Size.pts m) = 1 := by kernel_rfl
theorem spec_l1Size.g0 (m : Nat) : AtGood spec_l1Size.env (nth (spec_l1Size.pts m) 0) := loopGood spec_l1Size.c_l3 (by kernel_rfl) (by kernel_rfl) (fun _ => rfl) (fun k h => by kernel_rfl)
theorem spec_l1Size.good (m : Nat) : AllGood spec_l1Size.env (ptsOf spec_l1Size.env (bodyOf Tryd.f57) (fun _ => retK Tryd.f57 (spec_l1Size.ct m))) := allGood 1 (spec_l1Size.n m) (fun i hi => match i with | 0 => spec_l1Size.g0 m | i + 1 => absurd hi (by omega))
theorem spec_l1Size.ordsOK : ordsB sg (spec_l1Size.env 0).ords (bodyOf Tryd.f57) = true := by kernel_rfl
theorem spec_l1Size.all (k : Nat) : (spec_l1Size.ct k).Holds Tryd.prog 57 := by
  induction k using Nat.strongRecOn with
  | _ k ih => cases k with
    | zero => exact ⟨by kernel_rfl, by kernel_rfl, (fun _ => by kernel_rfl), fun _ _ _ _ _ _ _ h => absurd (show none = some _ from h) (by intro e; cases e)⟩
    | succ k => exact fn_ok (fn := Tryd.f57) (body := (bodyOf Tryd.f57)) sg.ok sg.tab sg.mixed (by kernel_rfl) (by kernel_rfl) (by kernel_rfl) (spec_l1Size.ct (k + 1)) spec_l1Size.env k (fun _ => by kernel_rfl) (fun _ => rfl) (fun _ => by kernel_rfl) (fun _ => rfl) (fun _ => rfl) (fun _ => rfl) spec_l1Size.ordsOK (fun j hj => ctsOK (l := spec_l1Size.cts j) ⟨(ih j (by omega)), trivial⟩) (spec_l1Size.good (k + 1)) (spec_l1Size.eq k) (Nat.le_of_ble_eq_true (by kernel_rfl)) (by kernel_rfl) (by kernel_rfl) (by kernel_rfl) (fun _ => by kernel_rfl)
theorem spec_l1Size.holds (k : Nat) : (spec_l1Size.ct k).Holds Tryd.prog 57 := (spec_l1Size.all k)
def spec_ExpFormOk.ct (k : Nat) : Ct sg := ⟨true, ⟨[(0, .st 0)], []⟩, ⟨[(0, .one (.val .bool))], []⟩, [(.st 0)], [.bool], fun h => spec_ExpFormOk.f k h⟩
def spec_ExpFormOk.cts (k : Nat) : List (Nat × Ct sg) := [(56, spec_l1Ok.ct k), (57, spec_l1Size.ct k)]
def spec_ExpFormOk.env (k : Nat) : Env sg (HL sg.S [.bool]) := ⟨10, [], k, get (spec_ExpFormOk.cts k), [], [], [], []⟩
theorem spec_ExpFormOk.eq (k : Nat) (h : HL sg.S (spec_ExpFormOk.ct k).its) : (spec_ExpFormOk.ct k).F h = semF (spec_ExpFormOk.ct k) (spec_ExpFormOk.env k) Tryd.f25 (bodyOf Tryd.f25) h := by kernel_rfl
noncomputable def spec_ExpFormOk.pts (m : Nat) := used spec_ExpFormOk.env (ptsOf spec_ExpFormOk.env (bodyOf Tryd.f25) (fun _ => retK Tryd.f25 (spec_ExpFormOk.ct m)))
theorem spec_ExpFormOk.n (m : Nat) : len (spec_ExpFormOk.pts m) = 0 := by kernel_rfl
theorem spec_ExpFormOk.good (m : Nat) : AllGood spec_ExpFormOk.env (ptsOf spec_ExpFormOk.env (bodyOf Tryd.f25) (fun _ => retK Tryd.f25 (spec_ExpFormOk.ct m))) := allGood 0 (spec_ExpFormOk.n m) (fun i hi => match i with | i + 0 => absurd hi (by omega))
theorem spec_ExpFormOk.ordsOK : ordsB sg (spec_ExpFormOk.env 0).ords (bodyOf Tryd.f25) = true := by kernel_rfl
theorem spec_ExpFormOk.holds (k : Nat) : (spec_ExpFormOk.ct k).Holds Tryd.prog 25 :=
  fn_ok (fn := Tryd.f25) (body := (bodyOf Tryd.f25)) sg.ok sg.tab sg.mixed (by kernel_rfl) (by kernel_rfl) (by kernel_rfl) (spec_ExpFormOk.ct k) spec_ExpFormOk.env k (fun _ => by kernel_rfl) (fun _ => rfl) (fun _ => by kernel_rfl) (fun _ => rfl) (fun _ => rfl) (fun _ => rfl) spec_ExpFormOk.ordsOK (fun j hj => ctsOK (l := spec_ExpFormOk.cts j) ⟨(spec_l1Ok.holds j), (spec_l1Size.holds j), trivial⟩) (spec_ExpFormOk.good k) (spec_ExpFormOk.eq k) (Nat.le_of_ble_eq_true (by kernel_rfl)) (by kernel_rfl) (by kernel_rfl) (by kernel_rfl) (fun _ => by kernel_rfl)
def spec_l1Copy.ct (k : Nat) : Ct sg := ⟨false, ⟨[(0, .st 0)], []⟩, ⟨[(0, .agg [.val (.int .i64), .val .str, .arr 0, .val (.int .i64), .arr 1])], [.arr 3 (.int .i64), .arr 29 (.st 0)]⟩, [(.st 0)], [(.int .i64), .str, (.int .i64), (.sl 3 (.int .i64)), (.sl 29 (.st 0))], fun h => spec_l1Copy.f k h⟩
def spec_l1Copies.p_l3 : Pat := ⟨[(0, .one (.val (.sl 29 (.st 0)))), (3, .one (.arr 0)), (4, .one (.val (.int .i64)))], [.arr 29 (.st 0)]⟩
def spec_l1Copies.c_l3 : Cut sg (HL sg.S [(.sl 29 (.st 0))]) := ⟨spec_l1Copies.p_l3, [(.sl 29 (.st 0)), (.int .i64), (.sl 29 (.st 0))], fun k h => spec_l1Copies.l3 k h.1 h.2.1 h.2.2⟩
def spec_l1Copies.ct (k : Nat) : Ct sg := ⟨false, ⟨[(0, .one (.val (.sl 29 (.st 0))))], []⟩, ⟨[(0, .one (.arr 0))], [.arr 29 (.st 0)]⟩, [(.sl 29 (.st 0))], [(.sl 29 (.st 0))], fun h => spec_l1Copies.f k h⟩
def spec_l1Copy.cts (k : Nat) : List (Nat × Ct sg) := [(59, spec_l1Copies.ct k)]
def spec_l1Copy.env (k : Nat) : Env sg (HL sg.S [(.int .i64), .str, (.int .i64), (.sl 3 (.int .i64)), (.sl 29 (.st 0))]) := ⟨15, [], k, get (spec_l1Copy.cts k), [], [], [], []⟩
theorem spec_l1Copy.eq (k : Nat) (h : HL sg.S (spec_l1Copy.ct (k + 1)).its) : (spec_l1Copy.ct (k + 1)).F h = semF (spec_l1Copy.ct (k + 1)) (spec_l1Copy.env k) Tryd.f65 (bodyOf Tryd.f65) h := by kernel_rfl
noncomputable def spec_l1Copy.pts (m : Nat) := used spec_l1Copy.env (ptsOf spec_l1Copy.env (bodyOf Tryd.f65) (fun _ => retK Tryd.f65 (spec_l1Copy.ct m)))
theorem spec_l1Copy.n (m : Nat) : len (spec_l1Copy.pts m) = 0 := by kernel_rfl
theorem spec_l1Copy.good (m : Nat) : AllGood spec_l1Copy.env (ptsOf spec_l1Copy.env (bodyOf Tryd.f65) (fun _ => retK Tryd.f65 (spec_l1Copy.ct m))) := allGood 0 (spec_l1Copy.n m) (fun i hi => match i with | i + 0 => absurd hi (by omega))
theorem spec_l1Copy.ordsOK : ordsB sg (spec_l1Copy.env 0).ords (bodyOf Tryd.f65) = true := by kernel_rfl
def spec_l1Copies.cts (k : Nat) : List (Nat × Ct sg) := [(65, spec_l1Copy.ct k)]
def spec_l1Copies.env (k : Nat) : Env sg (HL sg.S [(.sl 29 (.st 0))]) := ⟨21, [], k, get (spec_l1Copies.cts k), [(3, spec_l1Copies.c_l3)], [], [], []⟩
theorem spec_l1Copies.eq (k : Nat) (h : HL sg.S (spec_l1Copies.ct (k + 1)).its) : (spec_l1Copies.ct (k + 1)).F h = semF (spec_l1Copies.ct (k + 1)) (spec_l1Copies.env k) Tryd.f59 (bodyOf Tryd.f59) h := by kernel_rfl
noncomputable def spec_l1Copies.pts (m : Nat) := used spec_l1Copies.env (ptsOf spec_l1Copies.env (bodyOf Tryd.f59) (fun _ => retK Tryd.f59 (spec_l1Copies.ct m)))
theorem spec_l1Copies.n (m : Nat) : len (spec_l1Copies.pts m) = 1 := by kernel_rfl
theorem spec_l1Copies.g0 (m : Nat) : AtGood spec_l1Copies.env (nth (spec_l1Copies.pts m) 0) := loopGood spec_l1Copies.c_l3 (by kernel_rfl) (by kernel_rfl) (fun _ => rfl) (fun k h => by kernel_rfl)
theorem spec_l1Copies.good (m : Nat) : AllGood spec_l1Copies.env (ptsOf spec_l1Copies.env (bodyOf Tryd.f59) (fun _ => retK Tryd.f59 (spec_l1Copies.ct m))) := allGood 1 (spec_l1Copies.n m) (fun i hi => match i with | 0 => spec_l1Copies.g0 m | i + 1 => absurd hi (by omega))
theorem spec_l1Copies.ordsOK : ordsB sg (spec_l1Copies.env 0).ords (bodyOf Tryd.f59) = true := by kernel_rfl
theorem spec_l1Copy.all (k : Nat) : (spec_l1Copy.ct k).Holds Tryd.prog 65 ∧ (spec_l1Copies.ct k).Holds Tryd.prog 59 := by
  induction k using Nat.strongRecOn with
  | _ k ih => cases k with
    | zero => exact ⟨⟨by kernel_rfl, by kernel_rfl, (fun h => by cases h), fun _ _ _ _ _ _ _ h => absurd (show none = some _ from h) (by intro e; cases e)⟩, ⟨by kernel_rfl, by kernel_rfl, (fun h => by cases h), fun _ _ _ _ _ _ _ h => absurd (show none = some _ from h) (by intro e; cases e)⟩⟩
    | succ k => exact ⟨fn_ok (fn := Tryd.f65) (body := (bodyOf Tryd.f65)) sg.ok sg.tab sg.mixed (by kernel_rfl) (by kernel_rfl) (by kernel_rfl) (spec_l1Copy.ct (k + 1)) spec_l1Copy.env k (fun _ => by kernel_rfl) (fun _ => rfl) (fun _ => by kernel_rfl) (fun _ => rfl) (fun _ => rfl) (fun _ => rfl) spec_l1Copy.ordsOK (fun j hj => ctsOK (l := spec_l1Copy.cts j) ⟨(ih j (by omega)).2, trivial⟩) (spec_l1Copy.good (k + 1)) (spec_l1Copy.eq k) (Nat.le_of_ble_eq_true (by kernel_rfl)) (by kernel_rfl) (by kernel_rfl) (by kernel_rfl) (fun h => by cases h), fn_ok (fn := Tryd.f59) (body := (bodyOf Tryd.f59)) sg.ok sg.tab sg.mixed (by kernel_rfl) (by kernel_rfl) (by kernel_rfl) (spec_l1Copies.ct (k + 1)) spec_l1Copies.env k (fun _ => by kernel_rfl) (fun _ => rfl) (fun _ => by kernel_rfl) (fun _ => rfl) (fun _ => rfl) (fun _ => rfl) spec_l1Copies.ordsOK (fun j hj => ctsOK (l := spec_l1Copies.cts j) ⟨(ih j (by omega)).1, trivial⟩) (spec_l1Copies.good (k + 1)) (spec_l1Copies.eq k) (Nat.le_of_ble_eq_true (by kernel_rfl)) (by kernel_rfl) (by kernel_rfl) (by kernel_rfl) (fun h => by cases h)⟩
theorem spec_l1Copy.holds (k : Nat) : (spec_l1Copy.ct k).Holds Tryd.prog 65 := (spec_l1Copy.all k).1
theorem spec_l1Copies.holds (k : Nat) : (spec_l1Copies.ct k).Holds Tryd.prog 59 := (spec_l1Copy.all k).2
def spec_l2Has.p_l2 : Pat := ⟨[(0, .one (.val (.sl 3 (.int .i64)))), (1, .one (.val (.int .i64))), (5, .one (.val (.int .i64)))], []⟩
def spec_l2Has.c_l2 : Cut sg (HL sg.S [.bool]) := ⟨spec_l2Has.p_l2, [(.sl 3 (.int .i64)), (.int .i64), (.int .i64)], fun k h => spec_l2Has.l2 k h.1 h.2.1 h.2.2⟩
def spec_l2Has.ct (k : Nat) : Ct sg := ⟨true, ⟨[(0, .one (.val (.sl 3 (.int .i64)))), (1, .one (.val (.int .i64)))], []⟩, ⟨[(0, .one (.val .bool))], []⟩, [(.sl 3 (.int .i64)), (.int .i64)], [.bool], fun h => spec_l2Has.f k h.1 h.2⟩
def spec_l2Has.cts (k : Nat) : List (Nat × Ct sg) := []
def spec_l2Has.env (k : Nat) : Env sg (HL sg.S [.bool]) := ⟨18, [], k, get (spec_l2Has.cts k), [(2, spec_l2Has.c_l2)], [], [], []⟩
theorem spec_l2Has.eq (k : Nat) (h : HL sg.S (spec_l2Has.ct k).its) : (spec_l2Has.ct k).F h = semF (spec_l2Has.ct k) (spec_l2Has.env k) Tryd.f77 (bodyOf Tryd.f77) h := by kernel_rfl
noncomputable def spec_l2Has.pts (m : Nat) := used spec_l2Has.env (ptsOf spec_l2Has.env (bodyOf Tryd.f77) (fun _ => retK Tryd.f77 (spec_l2Has.ct m)))
theorem spec_l2Has.n (m : Nat) : len (spec_l2Has.pts m) = 1 := by kernel_rfl
theorem spec_l2Has.g0 (m : Nat) : AtGood spec_l2Has.env (nth (spec_l2Has.pts m) 0) := loopGood spec_l2Has.c_l2 (by kernel_rfl) (by kernel_rfl) (fun _ => rfl) (fun k h => by kernel_rfl)
theorem spec_l2Has.good (m : Nat) : AllGood spec_l2Has.env (ptsOf spec_l2Has.env (bodyOf Tryd.f77) (fun _ => retK Tryd.f77 (spec_l2Has.ct m))) := allGood 1 (spec_l2Has.n m) (fun i hi => match i with | 0 => spec_l2Has.g0 m | i + 1 => absurd hi (by omega))
theorem spec_l2Has.ordsOK : ordsB sg (spec_l2Has.env 0).ords (bodyOf Tryd.f77) = true := by kernel_rfl
theorem spec_l2Has.holds (k : Nat) : (spec_l2Has.ct k).Holds Tryd.prog 77 :=
  fn_ok (fn := Tryd.f77) (body := (bodyOf Tryd.f77)) sg.ok sg.tab sg.mixed (by kernel_rfl) (by kernel_rfl) (by kernel_rfl) (spec_l2Has.ct k) spec_l2Has.env k (fun _ => by kernel_rfl) (fun _ => rfl) (fun _ => by kernel_rfl) (fun _ => rfl) (fun _ => rfl) (fun _ => rfl) spec_l2Has.ordsOK (fun j hj => ctsOK (l := spec_l2Has.cts j) trivial) (spec_l2Has.good k) (spec_l2Has.eq k) (Nat.le_of_ble_eq_true (by kernel_rfl)) (by kernel_rfl) (by kernel_rfl) (by kernel_rfl) (fun _ => by kernel_rfl)
def spec_l2Take.p_l3 : Pat := ⟨[(0, .one (.val (.sl 3 (.int .i64)))), (1, .one (.val (.int .i64))), (5, .one (.arr 0)), (6, .one (.val (.int .i64)))], [.arr 3 (.int .i64)]⟩
def spec_l2Take.c_l3 : Cut sg (HL sg.S [(.sl 3 (.int .i64))]) := ⟨spec_l2Take.p_l3, [(.sl 3 (.int .i64)), (.int .i64), (.int .i64), (.sl 3 (.int .i64))], fun k h => spec_l2Take.l3 k h.1 h.2.1 h.2.2.1 h.2.2.2⟩
def spec_l2Take.ct (k : Nat) : Ct sg := ⟨true, ⟨[(0, .one (.val (.sl 3 (.int .i64)))), (1, .one (.val (.int .i64)))], []⟩, ⟨[(0, .one (.arr 0))], [.arr 3 (.int .i64)]⟩, [(.sl 3 (.int .i64)), (.int .i64)], [(.sl 3 (.int .i64))], fun h => spec_l2Take.f k h.1 h.2⟩
def spec_l2Take.cts (k : Nat) : List (Nat × Ct sg) := []
def spec_l2Take.env (k : Nat) : Env sg (HL sg.S [(.sl 3 (.int .i64))]) := ⟨28, [], k, get (spec_l2Take.cts k), [(3, spec_l2Take.c_l3)], [], [], []⟩
theorem spec_l2Take.eq (k : Nat) (h : HL sg.S (spec_l2Take.ct k).its) : (spec_l2Take.ct k).F h = semF (spec_l2Take.ct k) (spec_l2Take.env k) Tryd.f78 (bodyOf Tryd.f78) h := by kernel_rfl
noncomputable def spec_l2Take.pts (m : Nat) := used spec_l2Take.env (ptsOf spec_l2Take.env (bodyOf Tryd.f78) (fun _ => retK Tryd.f78 (spec_l2Take.ct m)))
theorem spec_l2Take.n (m : Nat) : len (spec_l2Take.pts m) = 1 := by kernel_rfl
theorem spec_l2Take.g0 (m : Nat) : AtGood spec_l2Take.env (nth (spec_l2Take.pts m) 0) := loopGood spec_l2Take.c_l3 (by kernel_rfl) (by kernel_rfl) (fun _ => rfl) (fun k h => by kernel_rfl)
theorem spec_l2Take.good (m : Nat) : AllGood spec_l2Take.env (ptsOf spec_l2Take.env (bodyOf Tryd.f78) (fun _ => retK Tryd.f78 (spec_l2Take.ct m))) := allGood 1 (spec_l2Take.n m) (fun i hi => match i with | 0 => spec_l2Take.g0 m | i + 1 => absurd hi (by omega))
theorem spec_l2Take.ordsOK : ordsB sg (spec_l2Take.env 0).ords (bodyOf Tryd.f78) = true := by kernel_rfl
theorem spec_l2Take.holds (k : Nat) : (spec_l2Take.ct k).Holds Tryd.prog 78 :=
  fn_ok (fn := Tryd.f78) (body := (bodyOf Tryd.f78)) sg.ok sg.tab sg.mixed (by kernel_rfl) (by kernel_rfl) (by kernel_rfl) (spec_l2Take.ct k) spec_l2Take.env k (fun _ => by kernel_rfl) (fun _ => rfl) (fun _ => by kernel_rfl) (fun _ => rfl) (fun _ => rfl) (fun _ => rfl) spec_l2Take.ordsOK (fun j hj => ctsOK (l := spec_l2Take.cts j) trivial) (spec_l2Take.good k) (spec_l2Take.eq k) (Nat.le_of_ble_eq_true (by kernel_rfl)) (by kernel_rfl) (by kernel_rfl) (by kernel_rfl) (fun _ => by kernel_rfl)
def spec_l2Put.p_d6 : Pat := ⟨[(0, .one (.val (.sl 3 (.int .i64)))), (1, .one (.val (.int .i64))), (5, .one (.val (.int .i64)))], []⟩
def spec_l2Put.c_d6 : Cut sg (HL sg.S [(.sl 3 (.int .i64))]) := ⟨spec_l2Put.p_d6, [(.sl 3 (.int .i64)), (.int .i64), (.int .i64)], fun k h => spec_l2Put.d6 k h.1 h.2.1 h.2.2⟩
def spec_l2Put.p_l2 : Pat := ⟨[(0, .one (.val (.sl 3 (.int .i64)))), (1, .one (.val (.int .i64))), (5, .one (.val (.int .i64)))], []⟩
def spec_l2Put.c_l2 : Cut sg (HL sg.S [(.sl 3 (.int .i64))]) := ⟨spec_l2Put.p_l2, [(.sl 3 (.int .i64)), (.int .i64), (.int .i64)], fun k h => spec_l2Put.l2 k h.1 h.2.1 h.2.2⟩
def spec_l2Put.ct (k : Nat) : Ct sg := ⟨true, ⟨[(0, .one (.val (.sl 3 (.int .i64)))), (1, .one (.val (.int .i64)))], []⟩, ⟨[(0, .one (.arr 0))], [.arr 3 (.int .i64)]⟩, [(.sl 3 (.int .i64)), (.int .i64)], [(.sl 3 (.int .i64))], fun h => spec_l2Put.f k h.1 h.2⟩
def spec_l2Put.cts (k : Nat) : List (Nat × Ct sg) := []
def spec_l2Put.env (k : Nat) : Env sg (HL sg.S [(.sl 3 (.int .i64))]) := ⟨47, [], k, get (spec_l2Put.cts k), [(2, spec_l2Put.c_l2)], [(100006, spec_l2Put.c_d6)], [(6, [[1, 2, 3, 5, 8, 9, 10, 0, 4, 6, 7, 11, 12], [1, 2, 3, 5, 8, 9, 10, 0, 6, 4, 7, 11, 12], [1, 2, 3, 5, 8, 9, 10, 6, 0, 4, 7, 11, 12]])], []⟩
theorem spec_l2Put.eq (k : Nat) (h : HL sg.S (spec_l2Put.ct k).its) : (spec_l2Put.ct k).F h = semF (spec_l2Put.ct k) (spec_l2Put.env k) Tryd.f66 (bodyOf Tryd.f66) h := by kernel_rfl
noncomputable def spec_l2Put.pts (m : Nat) := used spec_l2Put.env (ptsOf spec_l2Put.env (bodyOf Tryd.f66) (fun _ => retK Tryd.f66 (spec_l2Put.ct m)))
theorem spec_l2Put.n (m : Nat) : len (spec_l2Put.pts m) = 4 := by kernel_rfl
theorem spec_l2Put.g0 (m : Nat) : AtGood spec_l2Put.env (nth (spec_l2Put.pts m) 0) := loopGood spec_l2Put.c_l2 (by kernel_rfl) (by kernel_rfl) (fun _ => rfl) (fun k h => by kernel_rfl)
theorem spec_l2Put.g1 (m : Nat) : AtGood spec_l2Put.env (nth (spec_l2Put.pts m) 1) := joinGood spec_l2Put.c_d6 (by kernel_rfl) (by kernel_rfl) (fun k h => by kernel_rfl)
theorem spec_l2Put.g2 (m : Nat) : AtGood spec_l2Put.env (nth (spec_l2Put.pts m) 2) := joinGood spec_l2Put.c_d6 (by kernel_rfl) (by kernel_rfl) (fun k h => by kernel_rfl)
theorem spec_l2Put.g3 (m : Nat) : AtGood spec_l2Put.env (nth (spec_l2Put.pts m) 3) := joinGood spec_l2Put.c_d6 (by kernel_rfl) (by kernel_rfl) (fun k h => by kernel_rfl)
theorem spec_l2Put.good (m : Nat) : AllGood spec_l2Put.env (ptsOf spec_l2Put.env (bodyOf Tryd.f66) (fun _ => retK Tryd.f66 (spec_l2Put.ct m))) := allGood 4 (spec_l2Put.n m) (fun i hi => match i with | 0 => spec_l2Put.g0 m | 1 => spec_l2Put.g1 m | 2 => spec_l2Put.g2 m | 3 => spec_l2Put.g3 m | i + 4 => absurd hi (by omega))
theorem spec_l2Put.ordsOK : ordsB sg (spec_l2Put.env 0).ords (bodyOf Tryd.f66) = true := by kernel_rfl
theorem spec_l2Put.holds (k : Nat) : (spec_l2Put.ct k).Holds Tryd.prog 66 :=
  fn_ok (fn := Tryd.f66) (body := (bodyOf Tryd.f66)) sg.ok sg.tab sg.mixed (by kernel_rfl) (by kernel_rfl) (by kernel_rfl) (spec_l2Put.ct k) spec_l2Put.env k (fun _ => by kernel_rfl) (fun _ => rfl) (fun _ => by kernel_rfl) (fun _ => rfl) (fun _ => rfl) (fun _ => rfl) spec_l2Put.ordsOK (fun j hj => ctsOK (l := spec_l2Put.cts j) trivial) (spec_l2Put.good k) (spec_l2Put.eq k) (Nat.le_of_ble_eq_true (by kernel_rfl)) (by kernel_rfl) (by kernel_rfl) (by kernel_rfl) (fun _ => by kernel_rfl)
def spec_l2Flip.p_d10 : Pat := ⟨[(1, .one (.val (.int .i64))), (4, .one (.ptr 0 0)), (5, .one (.ptr 1 0)), (6, .one (.val (.int .i64)))], [.cells [] [.any, .any, .any, .any, .any], .cells [] [.val (.int .i64), .val .str, .arr 2, .val (.int .i64), .arr 3], .arr 3 (.int .i64), .arr 29 (.st 0)]⟩
def spec_l2Flip.c_d10 : Cut sg (HL sg.S [(.st 0)]) := ⟨spec_l2Flip.p_d10, [(.int .i64), (.int .i64), (.int .i64), .str, (.int .i64), (.sl 3 (.int .i64)), (.sl 29 (.st 0))], fun k h => spec_l2Flip.d10 k h.1 h.2.1 h.2.2.1 h.2.2.2.1 h.2.2.2.2.1 h.2.2.2.2.2.1 h.2.2.2.2.2.2⟩
def spec_l2Flip.p_l8 : Pat := ⟨[(1, .one (.val (.int .i64))), (4, .one (.ptr 0 0)), (5, .one (.ptr 1 0)), (6, .one (.val (.int .i64)))], [.cells [] [.any, .any, .any, .any, .any], .cells [] [.val (.int .i64), .val .str, .arr 2, .val (.int .i64), .arr 3], .arr 3 (.int .i64), .arr 29 (.st 0)]⟩
def spec_l2Flip.c_l8 : Cut sg (HL sg.S [(.st 0)]) := ⟨spec_l2Flip.p_l8, [(.int .i64), (.int .i64), (.int .i64), .str, (.int .i64), (.sl 3 (.int .i64)), (.sl 29 (.st 0))], fun k h => spec_l2Flip.l8 k h.1 h.2.1 h.2.2.1 h.2.2.2.1 h.2.2.2.2.1 h.2.2.2.2.2.1 h.2.2.2.2.2.2⟩
def spec_l2Flip.ct (k : Nat) : Ct sg := ⟨false, ⟨[(0, .st 0), (1, .one (.val (.int .i64)))], []⟩, ⟨[(0, .st 0)], []⟩, [(.st 0), (.int .i64)], [(.st 0)], fun h => spec_l2Flip.f k h.1 h.2⟩
def spec_l2Flip.cts (k : Nat) : List (Nat × Ct sg) := [(48, spec_l2Flip.ct k), (65, spec_l1Copy.ct k), (66, spec_l2Put.ct k), (77, spec_l2Has.ct k), (78, spec_l2Take.ct k)]
def spec_l2Flip.env (k : Nat) : Env sg (HL sg.S [(.st 0)]) := ⟨46, [], k, get (spec_l2Flip.cts k), [(8, spec_l2Flip.c_l8)], [(100010, spec_l2Flip.c_d10)], [(10, [[0, 2, 3, 4, 5, 6, 7, 8, 1, 9, 10, 11], [0, 2, 3, 4, 5, 6, 7, 8, 9, 1, 10, 11]])], []⟩
theorem spec_l2Flip.eq (k : Nat) (h : HL sg.S (spec_l2Flip.ct (k + 1)).its) : (spec_l2Flip.ct (k + 1)).F h = semF (spec_l2Flip.ct (k + 1)) (spec_l2Flip.env k) Tryd.f48 (bodyOf Tryd.f48) h := by kernel_rfl
noncomputable def spec_l2Flip.pts (m : Nat) := used spec_l2Flip.env (ptsOf spec_l2Flip.env (bodyOf Tryd.f48) (fun _ => retK Tryd.f48 (spec_l2Flip.ct m)))
theorem spec_l2Flip.n (m : Nat) : len (spec_l2Flip.pts m) = 3 := by kernel_rfl
theorem spec_l2Flip.g0 (m : Nat) : AtGood spec_l2Flip.env (nth (spec_l2Flip.pts m) 0) := loopGood spec_l2Flip.c_l8 (by kernel_rfl) (by kernel_rfl) (fun _ => rfl) (fun k h => by kernel_rfl)
theorem spec_l2Flip.g1 (m : Nat) : AtGood spec_l2Flip.env (nth (spec_l2Flip.pts m) 1) := joinGood spec_l2Flip.c_d10 (by kernel_rfl) (by kernel_rfl) (fun k h => by kernel_rfl)
theorem spec_l2Flip.g2 (m : Nat) : AtGood spec_l2Flip.env (nth (spec_l2Flip.pts m) 2) := joinGood spec_l2Flip.c_d10 (by kernel_rfl) (by kernel_rfl) (fun k h => by kernel_rfl)
theorem spec_l2Flip.good (m : Nat) : AllGood spec_l2Flip.env (ptsOf spec_l2Flip.env (bodyOf Tryd.f48) (fun _ => retK Tryd.f48 (spec_l2Flip.ct m))) := allGood 3 (spec_l2Flip.n m) (fun i hi => match i with | 0 => spec_l2Flip.g0 m | 1 => spec_l2Flip.g1 m | 2 => spec_l2Flip.g2 m | i + 3 => absurd hi (by omega))
theorem spec_l2Flip.ordsOK : ordsB sg (spec_l2Flip.env 0).ords (bodyOf Tryd.f48) = true := by kernel_rfl
theorem spec_l2Flip.all (k : Nat) : (spec_l2Flip.ct k).Holds Tryd.prog 48 := by
  induction k using Nat.strongRecOn with
  | _ k ih => cases k with
    | zero => exact ⟨by kernel_rfl, by kernel_rfl, (fun h => by cases h), fun _ _ _ _ _ _ _ h => absurd (show none = some _ from h) (by intro e; cases e)⟩
    | succ k => exact fn_ok (fn := Tryd.f48) (body := (bodyOf Tryd.f48)) sg.ok sg.tab sg.mixed (by kernel_rfl) (by kernel_rfl) (by kernel_rfl) (spec_l2Flip.ct (k + 1)) spec_l2Flip.env k (fun _ => by kernel_rfl) (fun _ => rfl) (fun _ => by kernel_rfl) (fun _ => rfl) (fun _ => rfl) (fun _ => rfl) spec_l2Flip.ordsOK (fun j hj => ctsOK (l := spec_l2Flip.cts j) ⟨(ih j (by omega)), (spec_l1Copy.holds j), (spec_l2Put.holds j), (spec_l2Has.holds j), (spec_l2Take.holds j), trivial⟩) (spec_l2Flip.good (k + 1)) (spec_l2Flip.eq k) (Nat.le_of_ble_eq_true (by kernel_rfl)) (by kernel_rfl) (by kernel_rfl) (by kernel_rfl) (fun h => by cases h)
theorem spec_l2Flip.holds (k : Nat) : (spec_l2Flip.ct k).Holds Tryd.prog 48 := (spec_l2Flip.all k)
def spec_ExpFlip.ct (k : Nat) : Ct sg := ⟨false, ⟨[(0, .st 0), (1, .one (.val (.int .i64)))], []⟩, ⟨[(0, .st 0)], []⟩, [(.st 0), (.int .i64)], [(.st 0)], fun h => spec_ExpFlip.f k h.1 h.2⟩
def spec_ExpFlip.cts (k : Nat) : List (Nat × Ct sg) := [(25, spec_ExpFormOk.ct k), (48, spec_l2Flip.ct k)]
def spec_ExpFlip.env (k : Nat) : Env sg (HL sg.S [(.st 0)]) := ⟨16, [], k, get (spec_ExpFlip.cts k), [], [], [], []⟩
theorem spec_ExpFlip.eq (k : Nat) (h : HL sg.S (spec_ExpFlip.ct k).its) : (spec_ExpFlip.ct k).F h = semF (spec_ExpFlip.ct k) (spec_ExpFlip.env k) Tryd.f20 (bodyOf Tryd.f20) h := by kernel_rfl
noncomputable def spec_ExpFlip.pts (m : Nat) := used spec_ExpFlip.env (ptsOf spec_ExpFlip.env (bodyOf Tryd.f20) (fun _ => retK Tryd.f20 (spec_ExpFlip.ct m)))
theorem spec_ExpFlip.n (m : Nat) : len (spec_ExpFlip.pts m) = 0 := by kernel_rfl
theorem spec_ExpFlip.good (m : Nat) : AllGood spec_ExpFlip.env (ptsOf spec_ExpFlip.env (bodyOf Tryd.f20) (fun _ => retK Tryd.f20 (spec_ExpFlip.ct m))) := allGood 0 (spec_ExpFlip.n m) (fun i hi => match i with | i + 0 => absurd hi (by omega))
theorem spec_ExpFlip.ordsOK : ordsB sg (spec_ExpFlip.env 0).ords (bodyOf Tryd.f20) = true := by kernel_rfl
theorem spec_ExpFlip.holds (k : Nat) : (spec_ExpFlip.ct k).Holds Tryd.prog 20 :=
  fn_ok (fn := Tryd.f20) (body := (bodyOf Tryd.f20)) sg.ok sg.tab sg.mixed (by kernel_rfl) (by kernel_rfl) (by kernel_rfl) (spec_ExpFlip.ct k) spec_ExpFlip.env k (fun _ => by kernel_rfl) (fun _ => rfl) (fun _ => by kernel_rfl) (fun _ => rfl) (fun _ => rfl) (fun _ => rfl) spec_ExpFlip.ordsOK (fun j hj => ctsOK (l := spec_ExpFlip.cts j) ⟨(spec_ExpFormOk.holds j), (spec_l2Flip.holds j), trivial⟩) (spec_ExpFlip.good k) (spec_ExpFlip.eq k) (Nat.le_of_ble_eq_true (by kernel_rfl)) (by kernel_rfl) (by kernel_rfl) (by kernel_rfl) (fun h => by cases h)
def internal_stringslite_HasPrefix.ct (k : Nat) : Ct sg := ⟨true, ⟨[(0, .one (.val .str)), (1, .one (.val .str))], []⟩, ⟨[(0, .one (.val .bool))], []⟩, [.str, .str], [.bool], fun h => internal_stringslite_HasPrefix.f k h.1 h.2⟩
def internal_stringslite_HasPrefix.cts (k : Nat) : List (Nat × Ct sg) := []
def internal_stringslite_HasPrefix.env (k : Nat) : Env sg (HL sg.S [.bool]) := ⟨18, [], k, get (internal_stringslite_HasPrefix.cts k), [], [], [], []⟩
theorem internal_stringslite_HasPrefix.eq (k : Nat) (h : HL sg.S (internal_stringslite_HasPrefix.ct k).its) : (internal_stringslite_HasPrefix.ct k).F h = semF (internal_stringslite_HasPrefix.ct k) (internal_stringslite_HasPrefix.env k) Tryd.f119 (bodyOf Tryd.f119) h := by kernel_rfl
noncomputable def internal_stringslite_HasPrefix.pts (m : Nat) := used internal_stringslite_HasPrefix.env (ptsOf internal_stringslite_HasPrefix.env (bodyOf Tryd.f119) (fun _ => retK Tryd.f119 (internal_stringslite_HasPrefix.ct m)))
theorem internal_stringslite_HasPrefix.n (m : Nat) : len (internal_stringslite_HasPrefix.pts m) = 0 := by kernel_rfl
theorem internal_stringslite_HasPrefix.good (m : Nat) : AllGood internal_stringslite_HasPrefix.env (ptsOf internal_stringslite_HasPrefix.env (bodyOf Tryd.f119) (fun _ => retK Tryd.f119 (internal_stringslite_HasPrefix.ct m))) := allGood 0 (internal_stringslite_HasPrefix.n m) (fun i hi => match i with | i + 0 => absurd hi (by omega))
theorem internal_stringslite_HasPrefix.ordsOK : ordsB sg (internal_stringslite_HasPrefix.env 0).ords (bodyOf Tryd.f119) = true := by kernel_rfl
theorem internal_stringslite_HasPrefix.holds (k : Nat) : (internal_stringslite_HasPrefix.ct k).Holds Tryd.prog 119 :=
  fn_ok (fn := Tryd.f119) (body := (bodyOf Tryd.f119)) sg.ok sg.tab sg.mixed (by kernel_rfl) (by kernel_rfl) (by kernel_rfl) (internal_stringslite_HasPrefix.ct k) internal_stringslite_HasPrefix.env k (fun _ => by kernel_rfl) (fun _ => rfl) (fun _ => by kernel_rfl) (fun _ => rfl) (fun _ => rfl) (fun _ => rfl) internal_stringslite_HasPrefix.ordsOK (fun j hj => ctsOK (l := internal_stringslite_HasPrefix.cts j) trivial) (internal_stringslite_HasPrefix.good k) (internal_stringslite_HasPrefix.eq k) (Nat.le_of_ble_eq_true (by kernel_rfl)) (by kernel_rfl) (by kernel_rfl) (by kernel_rfl) (fun _ => by kernel_rfl)
def internal_stringslite_TrimPrefix.ct (k : Nat) : Ct sg := ⟨true, ⟨[(0, .one (.val .str)), (1, .one (.val .str))], []⟩, ⟨[(0, .one (.val .str))], []⟩, [.str, .str], [.str], fun h => internal_stringslite_TrimPrefix.f k h.1 h.2⟩
def internal_stringslite_TrimPrefix.cts (k : Nat) : List (Nat × Ct sg) := [(119, internal_stringslite_HasPrefix.ct k)]
def internal_stringslite_TrimPrefix.env (k : Nat) : Env sg (HL sg.S [.str]) := ⟨13, [], k, get (internal_stringslite_TrimPrefix.cts k), [], [], [], []⟩
theorem internal_stringslite_TrimPrefix.eq (k : Nat) (h : HL sg.S (internal_stringslite_TrimPrefix.ct k).its) : (internal_stringslite_TrimPrefix.ct k).F h = semF (internal_stringslite_TrimPrefix.ct k) (internal_stringslite_TrimPrefix.env k) Tryd.f107 (bodyOf Tryd.f107) h := by kernel_rfl
noncomputable def internal_stringslite_TrimPrefix.pts (m : Nat) := used internal_stringslite_TrimPrefix.env (ptsOf internal_stringslite_TrimPrefix.env (bodyOf Tryd.f107) (fun _ => retK Tryd.f107 (internal_stringslite_TrimPrefix.ct m)))
theorem internal_stringslite_TrimPrefix.n (m : Nat) : len (internal_stringslite_TrimPrefix.pts m) = 0 := by kernel_rfl
theorem internal_stringslite_TrimPrefix.good (m : Nat) : AllGood internal_stringslite_TrimPrefix.env (ptsOf internal_stringslite_TrimPrefix.env (bodyOf Tryd.f107) (fun _ => retK Tryd.f107 (internal_stringslite_TrimPrefix.ct m))) := allGood 0 (internal_stringslite_TrimPrefix.n m) (fun i hi => match i with | i + 0 => absurd hi (by omega))
theorem internal_stringslite_TrimPrefix.ordsOK : ordsB sg (internal_stringslite_TrimPrefix.env 0).ords (bodyOf Tryd.f107) = true := by kernel_rfl
theorem internal_stringslite_TrimPrefix.holds (k : Nat) : (internal_stringslite_TrimPrefix.ct k).Holds Tryd.prog 107 :=
  fn_ok (fn := Tryd.f107) (body := (bodyOf Tryd.f107)) sg.ok sg.tab sg.mixed (by kernel_rfl) (by kernel_rfl) (by kernel_rfl) (internal_stringslite_TrimPrefix.ct k) internal_stringslite_TrimPrefix.env k (fun _ => by kernel_rfl) (fun _ => rfl) (fun _ => by kernel_rfl) (fun _ => rfl) (fun _ => rfl) (fun _ => rfl) internal_stringslite_TrimPrefix.ordsOK (fun j hj => ctsOK (l := internal_stringslite_TrimPrefix.cts j) ⟨(internal_stringslite_HasPrefix.holds j), trivial⟩) (internal_stringslite_TrimPrefix.good k) (internal_stringslite_TrimPrefix.eq k) (Nat.le_of_ble_eq_true (by kernel_rfl)) (by kernel_rfl) (by kernel_rfl) (by kernel_rfl) (fun _ => by kernel_rfl)
def strings_TrimPrefix.ct (k : Nat) : Ct sg := ⟨true, ⟨[(0, .one (.val .str)), (1, .one (.val .str))], []⟩, ⟨[(0, .one (.val .str))], []⟩, [.str, .str], [.str], fun h => strings_TrimPrefix.f k h.1 h.2⟩
def strings_TrimPrefix.cts (k : Nat) : List (Nat × Ct sg) := [(107, internal_stringslite_TrimPrefix.ct k)]
def strings_TrimPrefix.env (k : Nat) : Env sg (HL sg.S [.str]) := ⟨8, [], k, get (strings_TrimPrefix.cts k), [], [], [], []⟩
theorem strings_TrimPrefix.eq (k : Nat) (h : HL sg.S (strings_TrimPrefix.ct k).its) : (strings_TrimPrefix.ct k).F h = semF (strings_TrimPrefix.ct k) (strings_TrimPrefix.env k) Tryd.f98 (bodyOf Tryd.f98) h := by kernel_rfl
noncomputable def strings_TrimPrefix.pts (m : Nat) := used strings_TrimPrefix.env (ptsOf strings_TrimPrefix.env (bodyOf Tryd.f98) (fun _ => retK Tryd.f98 (strings_TrimPrefix.ct m)))
theorem strings_TrimPrefix.n (m : Nat) : len (strings_TrimPrefix.pts m) = 0 := by kernel_rfl
theorem strings_TrimPrefix.good (m : Nat) : AllGood strings_TrimPrefix.env (ptsOf strings_TrimPrefix.env (bodyOf Tryd.f98) (fun _ => retK Tryd.f98 (strings_TrimPrefix.ct m))) := allGood 0 (strings_TrimPrefix.n m) (fun i hi => match i with | i + 0 => absurd hi (by omega))
theorem strings_TrimPrefix.ordsOK : ordsB sg (strings_TrimPrefix.env 0).ords (bodyOf Tryd.f98) = true := by kernel_rfl
theorem strings_TrimPrefix.holds (k : Nat) : (strings_TrimPrefix.ct k).Holds Tryd.prog 98 :=
  fn_ok (fn := Tryd.f98) (body := (bodyOf Tryd.f98)) sg.ok sg.tab sg.mixed (by kernel_rfl) (by kernel_rfl) (by kernel_rfl) (strings_TrimPrefix.ct k) strings_TrimPrefix.env k (fun _ => by kernel_rfl) (fun _ => rfl) (fun _ => by kernel_rfl) (fun _ => rfl) (fun _ => rfl) (fun _ => rfl) strings_TrimPrefix.ordsOK (fun j hj => ctsOK (l := strings_TrimPrefix.cts j) ⟨(internal_stringslite_TrimPrefix.holds j), trivial⟩) (strings_TrimPrefix.good k) (strings_TrimPrefix.eq k) (Nat.le_of_ble_eq_true (by kernel_rfl)) (by kernel_rfl) (by kernel_rfl) (by kernel_rfl) (fun _ => by kernel_rfl)
def impl_expAtom.p_j3 : Pat := ⟨[(0, .one (.val .str))], []⟩
def impl_expAtom.c_j3 : Cut sg (HL sg.S [.bool]) := ⟨impl_expAtom.p_j3, [.str], fun k h => impl_expAtom.j3 k h⟩
def impl_expAtom.p_j5 : Pat := ⟨[(0, .one (.val .str)), (3, .one (.val (.int .i64))), (28, .one (.val .bool))], []⟩
def impl_expAtom.c_j5 : Cut sg (HL sg.S [.bool]) := ⟨impl_expAtom.p_j5, [.str, (.int .i64), .bool], fun k h => impl_expAtom.j5 k h.1 h.2.1 h.2.2⟩
def impl_expAtom.p_l6 : Pat := ⟨[(33, .one (.val (.sl 5 (.int .u8)))), (34, .one (.val (.int .i64))), (35, .one (.val (.int .i64)))], []⟩
def impl_expAtom.c_l6 : Cut sg (HL sg.S [.bool]) := ⟨impl_expAtom.p_l6, [(.sl 5 (.int .u8)), (.int .i64), (.int .i64)], fun k h => impl_expAtom.l6 k h.1 h.2.1 h.2.2⟩
def impl_expAtom.ct (k : Nat) : Ct sg := ⟨true, ⟨[(0, .one (.val .str))], []⟩, ⟨[(0, .one (.val .bool))], []⟩, [.str], [.bool], fun h => impl_expAtom.f k h⟩
def impl_expAtom.cts (k : Nat) : List (Nat × Ct sg) := [(98, strings_TrimPrefix.ct k), (99, LTrim.ct)]
def impl_expAtom.env (k : Nat) : Env sg (HL sg.S [.bool]) := ⟨59, [], k, get (impl_expAtom.cts k), [(6, impl_expAtom.c_l6)], [(3, impl_expAtom.c_j3), (5, impl_expAtom.c_j5)], [], []⟩
theorem impl_expAtom.eq (k : Nat) (h : HL sg.S (impl_expAtom.ct k).its) : (impl_expAtom.ct k).F h = semF (impl_expAtom.ct k) (impl_expAtom.env k) Tryd.f85 (bodyOf Tryd.f85) h := by kernel_rfl
noncomputable def impl_expAtom.pts (m : Nat) := used impl_expAtom.env (ptsOf impl_expAtom.env (bodyOf Tryd.f85) (fun _ => retK Tryd.f85 (impl_expAtom.ct m)))
theorem impl_expAtom.n (m : Nat) : len (impl_expAtom.pts m) = 3 := by kernel_rfl
theorem impl_expAtom.g0 (m : Nat) : AtGood impl_expAtom.env (nth (impl_expAtom.pts m) 0) := joinGood impl_expAtom.c_j3 (by kernel_rfl) (by kernel_rfl) (fun k h => by kernel_rfl)
theorem impl_expAtom.g1 (m : Nat) : AtGood impl_expAtom.env (nth (impl_expAtom.pts m) 1) := joinGood impl_expAtom.c_j5 (by kernel_rfl) (by kernel_rfl) (fun k h => by kernel_rfl)
theorem impl_expAtom.g2 (m : Nat) : AtGood impl_expAtom.env (nth (impl_expAtom.pts m) 2) := loopGood impl_expAtom.c_l6 (by kernel_rfl) (by kernel_rfl) (fun _ => rfl) (fun k h => by kernel_rfl)
theorem impl_expAtom.good (m : Nat) : AllGood impl_expAtom.env (ptsOf impl_expAtom.env (bodyOf Tryd.f85) (fun _ => retK Tryd.f85 (impl_expAtom.ct m))) := allGood 3 (impl_expAtom.n m) (fun i hi => match i with | 0 => impl_expAtom.g0 m | 1 => impl_expAtom.g1 m | 2 => impl_expAtom.g2 m | i + 3 => absurd hi (by omega))
theorem impl_expAtom.ordsOK : ordsB sg (impl_expAtom.env 0).ords (bodyOf Tryd.f85) = true := by kernel_rfl
theorem impl_expAtom.holds (k : Nat) : (impl_expAtom.ct k).Holds Tryd.prog 85 :=
  fn_ok (fn := Tryd.f85) (body := (bodyOf Tryd.f85)) sg.ok sg.tab sg.mixed (by kernel_rfl) (by kernel_rfl) (by kernel_rfl) (impl_expAtom.ct k) impl_expAtom.env k (fun _ => by kernel_rfl) (fun _ => rfl) (fun _ => by kernel_rfl) (fun _ => rfl) (fun _ => rfl) (fun _ => rfl) impl_expAtom.ordsOK (fun j hj => ctsOK (l := impl_expAtom.cts j) ⟨(strings_TrimPrefix.holds j), LTrim.holds, trivial⟩) (impl_expAtom.good k) (impl_expAtom.eq k) (Nat.le_of_ble_eq_true (by kernel_rfl)) (by kernel_rfl) (by kernel_rfl) (by kernel_rfl) (fun _ => by kernel_rfl)
def impl_expId.p_l2 : Pat := ⟨[(0, .one (.val .str)), (6, .one (.val (.sl 5 (.int .u8)))), (7, .one (.val (.int .i64))), (8, .one (.val (.int .i64)))], []⟩
def impl_expId.c_l2 : Cut sg (HL sg.S [.bool]) := ⟨impl_expId.p_l2, [.str, (.sl 5 (.int .u8)), (.int .i64), (.int .i64)], fun k h => impl_expId.l2 k h.1 h.2.1 h.2.2.1 h.2.2.2⟩
def impl_expId.ct (k : Nat) : Ct sg := ⟨true, ⟨[(0, .one (.val .str))], []⟩, ⟨[(0, .one (.val .bool))], []⟩, [.str], [.bool], fun h => impl_expId.f k h⟩
def impl_expId.cts (k : Nat) : List (Nat × Ct sg) := [(85, impl_expAtom.ct k), (97, LIndexByte.ct)]
def impl_expId.env (k : Nat) : Env sg (HL sg.S [.bool]) := ⟨40, [], k, get (impl_expId.cts k), [(2, impl_expId.c_l2)], [], [], []⟩
theorem impl_expId.eq (k : Nat) (h : HL sg.S (impl_expId.ct k).its) : (impl_expId.ct k).F h = semF (impl_expId.ct k) (impl_expId.env k) Tryd.f84 (bodyOf Tryd.f84) h := by kernel_rfl
noncomputable def impl_expId.pts (m : Nat) := used impl_expId.env (ptsOf impl_expId.env (bodyOf Tryd.f84) (fun _ => retK Tryd.f84 (impl_expId.ct m)))
theorem impl_expId.n (m : Nat) : len (impl_expId.pts m) = 1 := by kernel_rfl
theorem impl_expId.g0 (m : Nat) : AtGood impl_expId.env (nth (impl_expId.pts m) 0) := loopGood impl_expId.c_l2 (by kernel_rfl) (by kernel_rfl) (fun _ => rfl) (fun k h => by kernel_rfl)
theorem impl_expId.good (m : Nat) : AllGood impl_expId.env (ptsOf impl_expId.env (bodyOf Tryd.f84) (fun _ => retK Tryd.f84 (impl_expId.ct m))) := allGood 1 (impl_expId.n m) (fun i hi => match i with | 0 => impl_expId.g0 m | i + 1 => absurd hi (by omega))
theorem impl_expId.ordsOK : ordsB sg (impl_expId.env 0).ords (bodyOf Tryd.f84) = true := by kernel_rfl
theorem impl_expId.holds (k : Nat) : (impl_expId.ct k).Holds Tryd.prog 84 :=
  fn_ok (fn := Tryd.f84) (body := (bodyOf Tryd.f84)) sg.ok sg.tab sg.mixed (by kernel_rfl) (by kernel_rfl) (by kernel_rfl) (impl_expId.ct k) impl_expId.env k (fun _ => by kernel_rfl) (fun _ => rfl) (fun _ => by kernel_rfl) (fun _ => rfl) (fun _ => rfl) (fun _ => rfl) impl_expId.ordsOK (fun j hj => ctsOK (l := impl_expId.cts j) ⟨(impl_expAtom.holds j), LIndexByte.holds, trivial⟩) (impl_expId.good k) (impl_expId.eq k) (Nat.le_of_ble_eq_true (by kernel_rfl)) (by kernel_rfl) (by kernel_rfl) (by kernel_rfl) (fun _ => by kernel_rfl)
def impl_expCount.p_j20 : Pat := ⟨[(1, .one (.val (.int .i64))), (2, .one (.ptr 0 0)), (5, .one (.val (.int .i64))), (93, .one (.val .bool))], [.cells [] [.val (.int .i64), .val .str, .val (.sl 3 (.int .i64)), .val (.int .i64), .val (.sl 29 (.st 0))]]⟩
def impl_expCount.c_j20 : Cut sg (HL sg.S [(.int .i64)]) := ⟨impl_expCount.p_j20, [(.int .i64), (.int .i64), .bool, (.int .i64), .str, (.sl 3 (.int .i64)), (.int .i64), (.sl 29 (.st 0))], fun k h => impl_expCount.j20 k h.1 h.2.1 h.2.2.1 h.2.2.2.1 h.2.2.2.2.1 h.2.2.2.2.2.1 h.2.2.2.2.2.2.1 h.2.2.2.2.2.2.2⟩
def impl_expCount.p_j22 : Pat := ⟨[(1, .one (.val (.int .i64))), (2, .one (.ptr 0 0)), (5, .one (.val (.int .i64)))], [.cells [] [.val (.int .i64), .any, .any, .any, .val (.sl 29 (.st 0))]]⟩
def impl_expCount.c_j22 : Cut sg (HL sg.S [(.int .i64)]) := ⟨impl_expCount.p_j22, [(.int .i64), (.int .i64), (.int .i64), (.sl 29 (.st 0))], fun k h => impl_expCount.j22 k h.1 h.2.1 h.2.2.1 h.2.2.2⟩
def impl_expCount.p_j26 : Pat := ⟨[(1, .one (.val (.int .i64))), (2, .one (.ptr 0 0)), (5, .one (.val (.int .i64)))], [.cells [] [.any, .any, .any, .any, .val (.sl 29 (.st 0))]]⟩
def impl_expCount.c_j26 : Cut sg (HL sg.S [(.int .i64)]) := ⟨impl_expCount.p_j26, [(.int .i64), (.int .i64), (.sl 29 (.st 0))], fun k h => impl_expCount.j26 k h.1 h.2.1 h.2.2⟩
def impl_expCount.p_j9 : Pat := ⟨[(2, .one (.ptr 0 0)), (5, .one (.val (.int .i64)))], [.cells [] [.any, .any, .val (.sl 3 (.int .i64)), .any, .any]]⟩
def impl_expCount.c_j9 : Cut sg (HL sg.S [(.int .i64)]) := ⟨impl_expCount.p_j9, [(.int .i64), (.sl 3 (.int .i64))], fun k h => impl_expCount.j9 k h.1 h.2⟩
def impl_expCount.p_l10 : Pat := ⟨[(2, .one (.ptr 0 0)), (5, .one (.val (.int .i64))), (40, .one (.val (.sl 3 (.int .i64)))), (41, .one (.val (.int .i64))), (42, .one (.val (.int .i64)))], [.cells [] [.any, .any, .val (.sl 3 (.int .i64)), .any, .any]]⟩
def impl_expCount.c_l10 : Cut sg (HL sg.S [(.int .i64)]) := ⟨impl_expCount.p_l10, [(.int .i64), (.sl 3 (.int .i64)), (.int .i64), (.int .i64), (.sl 3 (.int .i64))], fun k h => impl_expCount.l10 k h.1 h.2.1 h.2.2.1 h.2.2.2.1 h.2.2.2.2⟩
def impl_expCount.p_l27 : Pat := ⟨[(1, .one (.val (.int .i64))), (5, .one (.val (.int .i64))), (139, .one (.val (.sl 29 (.st 0)))), (140, .one (.val (.int .i64))), (141, .one (.val (.int .i64)))], []⟩
def impl_expCount.c_l27 : Cut sg (HL sg.S [(.int .i64)]) := ⟨impl_expCount.p_l27, [(.int .i64), (.int .i64), (.sl 29 (.st 0)), (.int .i64), (.int .i64)], fun k h => impl_expCount.l27 k h.1 h.2.1 h.2.2.1 h.2.2.2.1 h.2.2.2.2⟩
def impl_expCount.ct (k : Nat) : Ct sg := ⟨true, ⟨[(0, .st 0), (1, .one (.val (.int .i64)))], []⟩, ⟨[(0, .one (.val (.int .i64)))], []⟩, [(.st 0), (.int .i64)], [(.int .i64)], fun h => impl_expCount.f k h.1 h.2⟩
def impl_expCount.cts (k : Nat) : List (Nat × Ct sg) := [(55, impl_expCount.ct k), (84, impl_expId.ct k), (85, impl_expAtom.ct k)]
def impl_expCount.env (k : Nat) : Env sg (HL sg.S [(.int .i64)]) := ⟨158, [], k, get (impl_expCount.cts k), [(10, impl_expCount.c_l10), (27, impl_expCount.c_l27)], [(9, impl_expCount.c_j9), (20, impl_expCount.c_j20), (22, impl_expCount.c_j22), (26, impl_expCount.c_j26)], [], []⟩
theorem impl_expCount.eq (k : Nat) (h : HL sg.S (impl_expCount.ct (k + 1)).its) : (impl_expCount.ct (k + 1)).F h = semF (impl_expCount.ct (k + 1)) (impl_expCount.env k) Tryd.f55 (bodyOf Tryd.f55) h := by kernel_rfl
noncomputable def impl_expCount.pts (m : Nat) := used impl_expCount.env (ptsOf impl_expCount.env (bodyOf Tryd.f55) (fun _ => retK Tryd.f55 (impl_expCount.ct m)))
theorem impl_expCount.n (m : Nat) : len (impl_expCount.pts m) = 6 := by kernel_rfl
theorem impl_expCount.g0 (m : Nat) : AtGood impl_expCount.env (nth (impl_expCount.pts m) 0) := joinGood impl_expCount.c_j9 (by kernel_rfl) (by kernel_rfl) (fun k h => by kernel_rfl)
theorem impl_expCount.g1 (m : Nat) : AtGood impl_expCount.env (nth (impl_expCount.pts m) 1) := loopGood impl_expCount.c_l10 (by kernel_rfl) (by kernel_rfl) (fun _ => rfl) (fun k h => by kernel_rfl)
theorem impl_expCount.g2 (m : Nat) : AtGood impl_expCount.env (nth (impl_expCount.pts m) 2) := joinGood impl_expCount.c_j20 (by kernel_rfl) (by kernel_rfl) (fun k h => by kernel_rfl)
theorem impl_expCount.g3 (m : Nat) : AtGood impl_expCount.env (nth (impl_expCount.pts m) 3) := joinGood impl_expCount.c_j22 (by kernel_rfl) (by kernel_rfl) (fun k h => by kernel_rfl)
theorem impl_expCount.g4 (m : Nat) : AtGood impl_expCount.env (nth (impl_expCount.pts m) 4) := joinGood impl_expCount.c_j26 (by kernel_rfl) (by kernel_rfl) (fun k h => by kernel_rfl)
theorem impl_expCount.g5 (m : Nat) : AtGood impl_expCount.env (nth (impl_expCount.pts m) 5) := loopGood impl_expCount.c_l27 (by kernel_rfl) (by kernel_rfl) (fun _ => rfl) (fun k h => by kernel_rfl)
theorem impl_expCount.good (m : Nat) : AllGood impl_expCount.env (ptsOf impl_expCount.env (bodyOf Tryd.f55) (fun _ => retK Tryd.f55 (impl_expCount.ct m))) := allGood 6 (impl_expCount.n m) (fun i hi => match i with | 0 => impl_expCount.g0 m | 1 => impl_expCount.g1 m | 2 => impl_expCount.g2 m | 3 => impl_expCount.g3 m | 4 => impl_expCount.g4 m | 5 => impl_expCount.g5 m | i + 6 => absurd hi (by omega))
theorem impl_expCount.ordsOK : ordsB sg (impl_expCount.env 0).ords (bodyOf Tryd.f55) = true := by kernel_rfl
theorem impl_expCount.all (k : Nat) : (impl_expCount.ct k).Holds Tryd.prog 55 := by
  induction k using Nat.strongRecOn with
  | _ k ih => cases k with
    | zero => exact ⟨by kernel_rfl, by kernel_rfl, (fun _ => by kernel_rfl), fun _ _ _ _ _ _ _ h => absurd (show none = some _ from h) (by intro e; cases e)⟩
    | succ k => exact fn_ok (fn := Tryd.f55) (body := (bodyOf Tryd.f55)) sg.ok sg.tab sg.mixed (by kernel_rfl) (by kernel_rfl) (by kernel_rfl) (impl_expCount.ct (k + 1)) impl_expCount.env k (fun _ => by kernel_rfl) (fun _ => rfl) (fun _ => by kernel_rfl) (fun _ => rfl) (fun _ => rfl) (fun _ => rfl) impl_expCount.ordsOK (fun j hj => ctsOK (l := impl_expCount.cts j) ⟨(ih j (by omega)), (impl_expId.holds j), (impl_expAtom.holds j), trivial⟩) (impl_expCount.good (k + 1)) (impl_expCount.eq k) (Nat.le_of_ble_eq_true (by kernel_rfl)) (by kernel_rfl) (by kernel_rfl) (by kernel_rfl) (fun _ => by kernel_rfl)
theorem impl_expCount.holds (k : Nat) : (impl_expCount.ct k).Holds Tryd.prog 55 := (impl_expCount.all k)
def impl_ExpFormOk.ct (k : Nat) : Ct sg := ⟨true, ⟨[(0, .st 0)], []⟩, ⟨[(0, .one (.val .bool))], []⟩, [(.st 0)], [.bool], fun h => impl_ExpFormOk.f k h⟩
def impl_ExpFormOk.cts (k : Nat) : List (Nat × Ct sg) := [(55, impl_expCount.ct k)]
def impl_ExpFormOk.env (k : Nat) : Env sg (HL sg.S [.bool]) := ⟨6, [], k, get (impl_ExpFormOk.cts k), [], [], [], []⟩
theorem impl_ExpFormOk.eq (k : Nat) (h : HL sg.S (impl_ExpFormOk.ct k).its) : (impl_ExpFormOk.ct k).F h = semF (impl_ExpFormOk.ct k) (impl_ExpFormOk.env k) Tryd.f24 (bodyOf Tryd.f24) h := by kernel_rfl
noncomputable def impl_ExpFormOk.pts (m : Nat) := used impl_ExpFormOk.env (ptsOf impl_ExpFormOk.env (bodyOf Tryd.f24) (fun _ => retK Tryd.f24 (impl_ExpFormOk.ct m)))
theorem impl_ExpFormOk.n (m : Nat) : len (impl_ExpFormOk.pts m) = 0 := by kernel_rfl
theorem impl_ExpFormOk.good (m : Nat) : AllGood impl_ExpFormOk.env (ptsOf impl_ExpFormOk.env (bodyOf Tryd.f24) (fun _ => retK Tryd.f24 (impl_ExpFormOk.ct m))) := allGood 0 (impl_ExpFormOk.n m) (fun i hi => match i with | i + 0 => absurd hi (by omega))
theorem impl_ExpFormOk.ordsOK : ordsB sg (impl_ExpFormOk.env 0).ords (bodyOf Tryd.f24) = true := by kernel_rfl
theorem impl_ExpFormOk.holds (k : Nat) : (impl_ExpFormOk.ct k).Holds Tryd.prog 24 :=
  fn_ok (fn := Tryd.f24) (body := (bodyOf Tryd.f24)) sg.ok sg.tab sg.mixed (by kernel_rfl) (by kernel_rfl) (by kernel_rfl) (impl_ExpFormOk.ct k) impl_ExpFormOk.env k (fun _ => by kernel_rfl) (fun _ => rfl) (fun _ => by kernel_rfl) (fun _ => rfl) (fun _ => rfl) (fun _ => rfl) impl_ExpFormOk.ordsOK (fun j hj => ctsOK (l := impl_ExpFormOk.cts j) ⟨(impl_expCount.holds j), trivial⟩) (impl_ExpFormOk.good k) (impl_ExpFormOk.eq k) (Nat.le_of_ble_eq_true (by kernel_rfl)) (by kernel_rfl) (by kernel_rfl) (by kernel_rfl) (fun _ => by kernel_rfl)
def impl_expHas.p_l2 : Pat := ⟨[(1, .one (.val (.int .i64))), (7, .one (.val (.sl 3 (.int .i64)))), (8, .one (.val (.int .i64))), (9, .one (.val (.int .i64)))], []⟩
def impl_expHas.c_l2 : Cut sg (HL sg.S [.bool]) := ⟨impl_expHas.p_l2, [(.int .i64), (.sl 3 (.int .i64)), (.int .i64), (.int .i64)], fun k h => impl_expHas.l2 k h.1 h.2.1 h.2.2.1 h.2.2.2⟩
def impl_expHas.ct (k : Nat) : Ct sg := ⟨true, ⟨[(0, .one (.val (.sl 3 (.int .i64)))), (1, .one (.val (.int .i64)))], []⟩, ⟨[(0, .one (.val .bool))], []⟩, [(.sl 3 (.int .i64)), (.int .i64)], [.bool], fun h => impl_expHas.f k h.1 h.2⟩
def impl_expHas.cts (k : Nat) : List (Nat × Ct sg) := []
def impl_expHas.env (k : Nat) : Env sg (HL sg.S [.bool]) := ⟨17, [], k, get (impl_expHas.cts k), [(2, impl_expHas.c_l2)], [], [], []⟩
theorem impl_expHas.eq (k : Nat) (h : HL sg.S (impl_expHas.ct k).its) : (impl_expHas.ct k).F h = semF (impl_expHas.ct k) (impl_expHas.env k) Tryd.f80 (bodyOf Tryd.f80) h := by kernel_rfl
noncomputable def impl_expHas.pts (m : Nat) := used impl_expHas.env (ptsOf impl_expHas.env (bodyOf Tryd.f80) (fun _ => retK Tryd.f80 (impl_expHas.ct m)))
theorem impl_expHas.n (m : Nat) : len (impl_expHas.pts m) = 1 := by kernel_rfl
theorem impl_expHas.g0 (m : Nat) : AtGood impl_expHas.env (nth (impl_expHas.pts m) 0) := loopGood impl_expHas.c_l2 (by kernel_rfl) (by kernel_rfl) (fun _ => rfl) (fun k h => by kernel_rfl)
theorem impl_expHas.good (m : Nat) : AllGood impl_expHas.env (ptsOf impl_expHas.env (bodyOf Tryd.f80) (fun _ => retK Tryd.f80 (impl_expHas.ct m))) := allGood 1 (impl_expHas.n m) (fun i hi => match i with | 0 => impl_expHas.g0 m | i + 1 => absurd hi (by omega))
theorem impl_expHas.ordsOK : ordsB sg (impl_expHas.env 0).ords (bodyOf Tryd.f80) = true := by kernel_rfl
theorem impl_expHas.holds (k : Nat) : (impl_expHas.ct k).Holds Tryd.prog 80 :=
  fn_ok (fn := Tryd.f80) (body := (bodyOf Tryd.f80)) sg.ok sg.tab sg.mixed (by kernel_rfl) (by kernel_rfl) (by kernel_rfl) (impl_expHas.ct k) impl_expHas.env k (fun _ => by kernel_rfl) (fun _ => rfl) (fun _ => by kernel_rfl) (fun _ => rfl) (fun _ => rfl) (fun _ => rfl) impl_expHas.ordsOK (fun j hj => ctsOK (l := impl_expHas.cts j) trivial) (impl_expHas.good k) (impl_expHas.eq k) (Nat.le_of_ble_eq_true (by kernel_rfl)) (by kernel_rfl) (by kernel_rfl) (by kernel_rfl) (fun _ => by kernel_rfl)
def impl_expDrop.p_l3 : Pat := ⟨[(1, .one (.val (.int .i64))), (5, .one (.arr 0)), (8, .one (.val (.sl 3 (.int .i64)))), (9, .one (.val (.int .i64))), (10, .one (.val (.int .i64)))], [.arr 3 (.int .i64)]⟩
def impl_expDrop.c_l3 : Cut sg (HL sg.S [(.sl 3 (.int .i64))]) := ⟨impl_expDrop.p_l3, [(.int .i64), (.sl 3 (.int .i64)), (.int .i64), (.int .i64), (.sl 3 (.int .i64))], fun k h => impl_expDrop.l3 k h.1 h.2.1 h.2.2.1 h.2.2.2.1 h.2.2.2.2⟩
def impl_expDrop.ct (k : Nat) : Ct sg := ⟨true, ⟨[(0, .one (.val (.sl 3 (.int .i64)))), (1, .one (.val (.int .i64)))], []⟩, ⟨[(0, .one (.arr 0))], [.arr 3 (.int .i64)]⟩, [(.sl 3 (.int .i64)), (.int .i64)], [(.sl 3 (.int .i64))], fun h => impl_expDrop.f k h.1 h.2⟩
def impl_expDrop.cts (k : Nat) : List (Nat × Ct sg) := []
def impl_expDrop.env (k : Nat) : Env sg (HL sg.S [(.sl 3 (.int .i64))]) := ⟨23, [], k, get (impl_expDrop.cts k), [(3, impl_expDrop.c_l3)], [], [], []⟩
theorem impl_expDrop.eq (k : Nat) (h : HL sg.S (impl_expDrop.ct k).its) : (impl_expDrop.ct k).F h = semF (impl_expDrop.ct k) (impl_expDrop.env k) Tryd.f81 (bodyOf Tryd.f81) h := by kernel_rfl
noncomputable def impl_expDrop.pts (m : Nat) := used impl_expDrop.env (ptsOf impl_expDrop.env (bodyOf Tryd.f81) (fun _ => retK Tryd.f81 (impl_expDrop.ct m)))
theorem impl_expDrop.n (m : Nat) : len (impl_expDrop.pts m) = 1 := by kernel_rfl
theorem impl_expDrop.g0 (m : Nat) : AtGood impl_expDrop.env (nth (impl_expDrop.pts m) 0) := loopGood impl_expDrop.c_l3 (by kernel_rfl) (by kernel_rfl) (fun _ => rfl) (fun k h => by kernel_rfl)
theorem impl_expDrop.good (m : Nat) : AllGood impl_expDrop.env (ptsOf impl_expDrop.env (bodyOf Tryd.f81) (fun _ => retK Tryd.f81 (impl_expDrop.ct m))) := allGood 1 (impl_expDrop.n m) (fun i hi => match i with | 0 => impl_expDrop.g0 m | i + 1 => absurd hi (by omega))
theorem impl_expDrop.ordsOK : ordsB sg (impl_expDrop.env 0).ords (bodyOf Tryd.f81) = true := by kernel_rfl
theorem impl_expDrop.holds (k : Nat) : (impl_expDrop.ct k).Holds Tryd.prog 81 :=
  fn_ok (fn := Tryd.f81) (body := (bodyOf Tryd.f81)) sg.ok sg.tab sg.mixed (by kernel_rfl) (by kernel_rfl) (by kernel_rfl) (impl_expDrop.ct k) impl_expDrop.env k (fun _ => by kernel_rfl) (fun _ => rfl) (fun _ => by kernel_rfl) (fun _ => rfl) (fun _ => rfl) (fun _ => rfl) impl_expDrop.ordsOK (fun j hj => ctsOK (l := impl_expDrop.cts j) trivial) (impl_expDrop.good k) (impl_expDrop.eq k) (Nat.le_of_ble_eq_true (by kernel_rfl)) (by kernel_rfl) (by kernel_rfl) (by kernel_rfl) (fun _ => by kernel_rfl)
def impl_expAdd.p_j10 : Pat := ⟨[(1, .one (.val (.int .i64))), (5, .one (.arr 0)), (6, .one (.val .bool)), (8, .one (.val (.int .i64))), (9, .one (.val (.sl 3 (.int .i64)))), (10, .one (.val (.int .i64))), (11, .one (.val (.int .i64)))], [.arr 3 (.int .i64)]⟩
def impl_expAdd.c_j10 : Cut sg (HL sg.S [(.sl 3 (.int .i64))]) := ⟨impl_expAdd.p_j10, [(.int .i64), .bool, (.int .i64), (.sl 3 (.int .i64)), (.int .i64), (.int .i64), (.sl 3 (.int .i64))], fun k h => impl_expAdd.j10 k h.1 h.2.1 h.2.2.1 h.2.2.2.1 h.2.2.2.2.1 h.2.2.2.2.2.1 h.2.2.2.2.2.2⟩
def impl_expAdd.p_l4 : Pat := ⟨[(1, .one (.val (.int .i64))), (5, .one (.arr 0)), (6, .one (.val .bool)), (9, .one (.val (.sl 3 (.int .i64)))), (10, .one (.val (.int .i64))), (11, .one (.val (.int .i64)))], [.arr 3 (.int .i64)]⟩
def impl_expAdd.c_l4 : Cut sg (HL sg.S [(.sl 3 (.int .i64))]) := ⟨impl_expAdd.p_l4, [(.int .i64), .bool, (.sl 3 (.int .i64)), (.int .i64), (.int .i64), (.sl 3 (.int .i64))], fun k h => impl_expAdd.l4 k h.1 h.2.1 h.2.2.1 h.2.2.2.1 h.2.2.2.2.1 h.2.2.2.2.2⟩
def impl_expAdd.ct (k : Nat) : Ct sg := ⟨true, ⟨[(0, .one (.val (.sl 3 (.int .i64)))), (1, .one (.val (.int .i64)))], []⟩, ⟨[(0, .one (.arr 0))], [.arr 3 (.int .i64)]⟩, [(.sl 3 (.int .i64)), (.int .i64)], [(.sl 3 (.int .i64))], fun h => impl_expAdd.f k h.1 h.2⟩
def impl_expAdd.cts (k : Nat) : List (Nat × Ct sg) := []
def impl_expAdd.env (k : Nat) : Env sg (HL sg.S [(.sl 3 (.int .i64))]) := ⟨41, [], k, get (impl_expAdd.cts k), [(4, impl_expAdd.c_l4)], [(10, impl_expAdd.c_j10)], [], []⟩
theorem impl_expAdd.eq (k : Nat) (h : HL sg.S (impl_expAdd.ct k).its) : (impl_expAdd.ct k).F h = semF (impl_expAdd.ct k) (impl_expAdd.env k) Tryd.f69 (bodyOf Tryd.f69) h := by kernel_rfl
noncomputable def impl_expAdd.pts (m : Nat) := used impl_expAdd.env (ptsOf impl_expAdd.env (bodyOf Tryd.f69) (fun _ => retK Tryd.f69 (impl_expAdd.ct m)))
theorem impl_expAdd.n (m : Nat) : len (impl_expAdd.pts m) = 2 := by kernel_rfl
theorem impl_expAdd.g0 (m : Nat) : AtGood impl_expAdd.env (nth (impl_expAdd.pts m) 0) := loopGood impl_expAdd.c_l4 (by kernel_rfl) (by kernel_rfl) (fun _ => rfl) (fun k h => by kernel_rfl)
theorem impl_expAdd.g1 (m : Nat) : AtGood impl_expAdd.env (nth (impl_expAdd.pts m) 1) := joinGood impl_expAdd.c_j10 (by kernel_rfl) (by kernel_rfl) (fun k h => by kernel_rfl)
theorem impl_expAdd.good (m : Nat) : AllGood impl_expAdd.env (ptsOf impl_expAdd.env (bodyOf Tryd.f69) (fun _ => retK Tryd.f69 (impl_expAdd.ct m))) := allGood 2 (impl_expAdd.n m) (fun i hi => match i with | 0 => impl_expAdd.g0 m | 1 => impl_expAdd.g1 m | i + 2 => absurd hi (by omega))
theorem impl_expAdd.ordsOK : ordsB sg (impl_expAdd.env 0).ords (bodyOf Tryd.f69) = true := by kernel_rfl
theorem impl_expAdd.holds (k : Nat) : (impl_expAdd.ct k).Holds Tryd.prog 69 :=
  fn_ok (fn := Tryd.f69) (body := (bodyOf Tryd.f69)) sg.ok sg.tab sg.mixed (by kernel_rfl) (by kernel_rfl) (by kernel_rfl) (impl_expAdd.ct k) impl_expAdd.env k (fun _ => by kernel_rfl) (fun _ => rfl) (fun _ => by kernel_rfl) (fun _ => rfl) (fun _ => rfl) (fun _ => rfl) impl_expAdd.ordsOK (fun j hj => ctsOK (l := impl_expAdd.cts j) trivial) (impl_expAdd.good k) (impl_expAdd.eq k) (Nat.le_of_ble_eq_true (by kernel_rfl)) (by kernel_rfl) (by kernel_rfl) (by kernel_rfl) (fun _ => by kernel_rfl)
def impl_expFlip_1.ct (k : Nat) : Ct sg := ⟨true, ⟨[(0, .one (.val (.sl 3 (.int .i64)))), (1, .one (.ptr 0 0))], [.cells [] [.val (.int .i64)]]⟩, ⟨[(0, .one (.arr 1))], [.cells [] [.val (.int .i64)], .arr 3 (.int .i64)]⟩, [(.sl 3 (.int .i64)), (.int .i64)], [(.int .i64), (.sl 3 (.int .i64))], fun h => impl_expFlip_1.f k h.1 h.2⟩
def impl_expFlip_1.cts (k : Nat) : List (Nat × Ct sg) := [(69, impl_expAdd.ct k), (80, impl_expHas.ct k), (81, impl_expDrop.ct k)]
def impl_expFlip_1.env (k : Nat) : Env sg (HL sg.S [(.int .i64), (.sl 3 (.int .i64))]) := ⟨13, [0], k, get (impl_expFlip_1.cts k), [], [], [], []⟩
theorem impl_expFlip_1.eq (k : Nat) (h : HL sg.S (impl_expFlip_1.ct k).its) : (impl_expFlip_1.ct k).F h = semF (impl_expFlip_1.ct k) (impl_expFlip_1.env k) Tryd.f79 (bodyOf Tryd.f79) h := by kernel_rfl
noncomputable def impl_expFlip_1.pts (m : Nat) := used impl_expFlip_1.env (ptsOf impl_expFlip_1.env (bodyOf Tryd.f79) (fun _ => retK Tryd.f79 (impl_expFlip_1.ct m)))
theorem impl_expFlip_1.n (m : Nat) : len (impl_expFlip_1.pts m) = 0 := by kernel_rfl
theorem impl_expFlip_1.good (m : Nat) : AllGood impl_expFlip_1.env (ptsOf impl_expFlip_1.env (bodyOf Tryd.f79) (fun _ => retK Tryd.f79 (impl_expFlip_1.ct m))) := allGood 0 (impl_expFlip_1.n m) (fun i hi => match i with | i + 0 => absurd hi (by omega))
theorem impl_expFlip_1.ordsOK : ordsB sg (impl_expFlip_1.env 0).ords (bodyOf Tryd.f79) = true := by kernel_rfl
theorem impl_expFlip_1.holds (k : Nat) : (impl_expFlip_1.ct k).Holds Tryd.prog 79 :=
  fn_ok (fn := Tryd.f79) (body := (bodyOf Tryd.f79)) sg.ok sg.tab sg.mixed (by kernel_rfl) (by kernel_rfl) (by kernel_rfl) (impl_expFlip_1.ct k) impl_expFlip_1.env k (fun _ => by kernel_rfl) (fun _ => rfl) (fun _ => by kernel_rfl) (fun _ => rfl) (fun _ => rfl) (fun _ => rfl) impl_expFlip_1.ordsOK (fun j hj => ctsOK (l := impl_expFlip_1.cts j) ⟨(impl_expAdd.holds j), (impl_expHas.holds j), (impl_expDrop.holds j), trivial⟩) (impl_expFlip_1.good k) (impl_expFlip_1.eq k) (Nat.le_of_ble_eq_true (by kernel_rfl)) (by kernel_rfl) (by kernel_rfl) (by kernel_rfl) (fun _ => by kernel_rfl)
def impl_expMap.p_l6 : Pat := ⟨[(1, .one (.fn 79 [0])), (2, .one (.ptr 1 0)), (4, .one (.ptr 2 0)), (5, .one (.arr 3)), (18, .one (.val (.sl 29 (.st 0)))), (19, .one (.val (.int .i64))), (20, .one (.val (.int .i64)))], [.cells [] [.val (.int .i64)], .cells [] [.val (.int .i64), .val .str, .val (.sl 3 (.int .i64)), .val (.int .i64), .any], .cells [] [.any, .any, .any, .any, .any], .ow false true 29 (.st 0)]⟩
def impl_expMap.c_l6 : Cut sg (HL sg.S [(.int .i64), .str, (.int .i64), (.int .i64), (.sl 3 (.int .i64)), (.sl 29 (.st 0))]) := ⟨impl_expMap.p_l6, [(.sl 29 (.st 0)), (.int .i64), (.int .i64), (.int .i64), (.int .i64), .str, (.sl 3 (.int .i64)), (.int .i64), (.sl 29 (.st 0))], fun k h => impl_expMap.l6 k h.1 h.2.1 h.2.2.1 h.2.2.2.1 h.2.2.2.2.1 h.2.2.2.2.2.1 h.2.2.2.2.2.2.1 h.2.2.2.2.2.2.2.1 h.2.2.2.2.2.2.2.2⟩
def impl_expMap.ct (k : Nat) : Ct sg := ⟨true, ⟨[(0, .st 0), (1, .one (.fn 79 [0]))], [.cells [] [.val (.int .i64)]]⟩, ⟨[(0, .agg [.val (.int .i64), .val .str, .warr 1, .val (.int .i64), .warr 2])], [.cells [] [.val (.int .i64)], .ow false false 3 (.int .i64), .ow false true 29 (.st 0)]⟩, [(.st 0), (.int .i64)], [(.int .i64), .str, (.int .i64), (.int .i64), (.sl 3 (.int .i64)), (.sl 29 (.st 0))], fun h => impl_expMap.f k h.1 h.2⟩
def impl_expMap.cts (k : Nat) : List (Nat × Ct sg) := [(67, impl_expMap.ct k), (79, impl_expFlip_1.ct k)]
def impl_expMap.env (k : Nat) : Env sg (HL sg.S [(.int .i64), .str, (.int .i64), (.int .i64), (.sl 3 (.int .i64)), (.sl 29 (.st 0))]) := ⟨34, [0], k, get (impl_expMap.cts k), [(6, impl_expMap.c_l6)], [], [], [28, 29]⟩
theorem impl_expMap.eq (k : Nat) (h : HL sg.S (impl_expMap.ct (k + 1)).its) : (impl_expMap.ct (k + 1)).F h = semF (impl_expMap.ct (k + 1)) (impl_expMap.env k) Tryd.f67 (bodyOf Tryd.f67) h := by kernel_rfl
noncomputable def impl_expMap.pts (m : Nat) := used impl_expMap.env (ptsOf impl_expMap.env (bodyOf Tryd.f67) (fun _ => retK Tryd.f67 (impl_expMap.ct m)))
theorem impl_expMap.n (m : Nat) : len (impl_expMap.pts m) = 1 := by kernel_rfl
theorem impl_expMap.g0 (m : Nat) : AtGood impl_expMap.env (nth (impl_expMap.pts m) 0) := loopGood impl_expMap.c_l6 (by kernel_rfl) (by kernel_rfl) (fun _ => rfl) (fun k h => by kernel_rfl)
theorem impl_expMap.good (m : Nat) : AllGood impl_expMap.env (ptsOf impl_expMap.env (bodyOf Tryd.f67) (fun _ => retK Tryd.f67 (impl_expMap.ct m))) := allGood 1 (impl_expMap.n m) (fun i hi => match i with | 0 => impl_expMap.g0 m | i + 1 => absurd hi (by omega))
theorem impl_expMap.ordsOK : ordsB sg (impl_expMap.env 0).ords (bodyOf Tryd.f67) = true := by kernel_rfl
theorem impl_expMap.all (k : Nat) : (impl_expMap.ct k).Holds Tryd.prog 67 := by
  induction k using Nat.strongRecOn with
  | _ k ih => cases k with
    | zero => exact ⟨by kernel_rfl, by kernel_rfl, (fun _ => by kernel_rfl), fun _ _ _ _ _ _ _ h => absurd (show none = some _ from h) (by intro e; cases e)⟩
    | succ k => exact fn_ok (fn := Tryd.f67) (body := (bodyOf Tryd.f67)) sg.ok sg.tab sg.mixed (by kernel_rfl) (by kernel_rfl) (by kernel_rfl) (impl_expMap.ct (k + 1)) impl_expMap.env k (fun _ => by kernel_rfl) (fun _ => rfl) (fun _ => by kernel_rfl) (fun _ => rfl) (fun _ => rfl) (fun _ => rfl) impl_expMap.ordsOK (fun j hj => ctsOK (l := impl_expMap.cts j) ⟨(ih j (by omega)), (impl_expFlip_1.holds j), trivial⟩) (impl_expMap.good (k + 1)) (impl_expMap.eq k) (Nat.le_of_ble_eq_true (by kernel_rfl)) (by kernel_rfl) (by kernel_rfl) (by kernel_rfl) (fun _ => by kernel_rfl)
theorem impl_expMap.holds (k : Nat) : (impl_expMap.ct k).Holds Tryd.prog 67 := (impl_expMap.all k)
def impl_expFlip.ct (k : Nat) : Ct sg := ⟨true, ⟨[(0, .st 0), (1, .one (.val (.int .i64)))], []⟩, ⟨[(0, .agg [.val (.int .i64), .val .str, .warr 0, .val (.int .i64), .warr 1])], [.ow false false 3 (.int .i64), .ow false true 29 (.st 0)]⟩, [(.st 0), (.int .i64)], [(.int .i64), .str, (.int .i64), (.sl 3 (.int .i64)), (.sl 29 (.st 0))], fun h => impl_expFlip.f k h.1 h.2⟩
def impl_expFlip.cts (k : Nat) : List (Nat × Ct sg) := [(67, impl_expMap.ct k)]
def impl_expFlip.env (k : Nat) : Env sg (HL sg.S [(.int .i64), .str, (.int .i64), (.sl 3 (.int .i64)), (.sl 29 (.st 0))]) := ⟨8, [], k, get (impl_expFlip.cts k), [], [], [], []⟩
theorem impl_expFlip.eq (k : Nat) (h : HL sg.S (impl_expFlip.ct k).its) : (impl_expFlip.ct k).F h = semF (impl_expFlip.ct k) (impl_expFlip.env k) Tryd.f49 (bodyOf Tryd.f49) h := by kernel_rfl
noncomputable def impl_expFlip.pts (m : Nat) := used impl_expFlip.env (ptsOf impl_expFlip.env (bodyOf Tryd.f49) (fun _ => retK Tryd.f49 (impl_expFlip.ct m)))
theorem impl_expFlip.n (m : Nat) : len (impl_expFlip.pts m) = 0 := by kernel_rfl
theorem impl_expFlip.good (m : Nat) : AllGood impl_expFlip.env (ptsOf impl_expFlip.env (bodyOf Tryd.f49) (fun _ => retK Tryd.f49 (impl_expFlip.ct m))) := allGood 0 (impl_expFlip.n m) (fun i hi => match i with | i + 0 => absurd hi (by omega))
theorem impl_expFlip.ordsOK : ordsB sg (impl_expFlip.env 0).ords (bodyOf Tryd.f49) = true := by kernel_rfl
theorem impl_expFlip.holds (k : Nat) : (impl_expFlip.ct k).Holds Tryd.prog 49 :=
  fn_ok (fn := Tryd.f49) (body := (bodyOf Tryd.f49)) sg.ok sg.tab sg.mixed (by kernel_rfl) (by kernel_rfl) (by kernel_rfl) (impl_expFlip.ct k) impl_expFlip.env k (fun _ => by kernel_rfl) (fun _ => rfl) (fun _ => by kernel_rfl) (fun _ => rfl) (fun _ => rfl) (fun _ => rfl) impl_expFlip.ordsOK (fun j hj => ctsOK (l := impl_expFlip.cts j) ⟨(impl_expMap.holds j), trivial⟩) (impl_expFlip.good k) (impl_expFlip.eq k) (Nat.le_of_ble_eq_true (by kernel_rfl)) (by kernel_rfl) (by kernel_rfl) (by kernel_rfl) (fun _ => by kernel_rfl)
def impl_ExpFlip.ct (k : Nat) : Ct sg := ⟨true, ⟨[(0, .st 0), (1, .one (.val (.int .i64)))], []⟩, ⟨[(0, .agg [.val (.int .i64), .val .str, .warr 0, .val (.int .i64), .warr 1])], [.ow false false 3 (.int .i64), .ow false true 29 (.st 0)]⟩, [(.st 0), (.int .i64)], [(.int .i64), .str, (.int .i64), (.sl 3 (.int .i64)), (.sl 29 (.st 0))], fun h => impl_ExpFlip.f k h.1 h.2⟩
def impl_ExpFlip.cts (k : Nat) : List (Nat × Ct sg) := [(24, impl_ExpFormOk.ct k), (49, impl_expFlip.ct k)]
def impl_ExpFlip.env (k : Nat) : Env sg (HL sg.S [(.int .i64), .str, (.int .i64), (.sl 3 (.int .i64)), (.sl 29 (.st 0))]) := ⟨16, [], k, get (impl_ExpFlip.cts k), [], [], [], []⟩
theorem impl_ExpFlip.eq (k : Nat) (h : HL sg.S (impl_ExpFlip.ct k).its) : (impl_ExpFlip.ct k).F h = semF (impl_ExpFlip.ct k) (impl_ExpFlip.env k) Tryd.f21 (bodyOf Tryd.f21) h := by kernel_rfl
noncomputable def impl_ExpFlip.pts (m : Nat) := used impl_ExpFlip.env (ptsOf impl_ExpFlip.env (bodyOf Tryd.f21) (fun _ => retK Tryd.f21 (impl_ExpFlip.ct m)))
theorem impl_ExpFlip.n (m : Nat) : len (impl_ExpFlip.pts m) = 0 := by kernel_rfl
theorem impl_ExpFlip.good (m : Nat) : AllGood impl_ExpFlip.env (ptsOf impl_ExpFlip.env (bodyOf Tryd.f21) (fun _ => retK Tryd.f21 (impl_ExpFlip.ct m))) := allGood 0 (impl_ExpFlip.n m) (fun i hi => match i with | i + 0 => absurd hi (by omega))
theorem impl_ExpFlip.ordsOK : ordsB sg (impl_ExpFlip.env 0).ords (bodyOf Tryd.f21) = true := by kernel_rfl
theorem impl_ExpFlip.holds (k : Nat) : (impl_ExpFlip.ct k).Holds Tryd.prog 21 :=
  fn_ok (fn := Tryd.f21) (body := (bodyOf Tryd.f21)) sg.ok sg.tab sg.mixed (by kernel_rfl) (by kernel_rfl) (by kernel_rfl) (impl_ExpFlip.ct k) impl_ExpFlip.env k (fun _ => by kernel_rfl) (fun _ => rfl) (fun _ => by kernel_rfl) (fun _ => rfl) (fun _ => rfl) (fun _ => rfl) impl_ExpFlip.ordsOK (fun j hj => ctsOK (l := impl_ExpFlip.cts j) ⟨(impl_ExpFormOk.holds j), (impl_expFlip.holds j), trivial⟩) (impl_ExpFlip.good k) (impl_ExpFlip.eq k) (Nat.le_of_ble_eq_true (by kernel_rfl)) (by kernel_rfl) (by kernel_rfl) (by kernel_rfl) (fun _ => by kernel_rfl)
def laws_eqIntS.p_l4 : Pat := ⟨[(0, .one (.val (.sl 3 (.int .i64)))), (1, .one (.val (.sl 3 (.int .i64)))), (5, .one (.val (.int .i64)))], []⟩
def laws_eqIntS.c_l4 : Cut sg (HL sg.S [.bool]) := ⟨laws_eqIntS.p_l4, [(.sl 3 (.int .i64)), (.sl 3 (.int .i64)), (.int .i64)], fun k h => laws_eqIntS.l4 k h.1 h.2.1 h.2.2⟩
def laws_eqIntS.ct (k : Nat) : Ct sg := ⟨true, ⟨[(0, .one (.val (.sl 3 (.int .i64)))), (1, .one (.val (.sl 3 (.int .i64))))], []⟩, ⟨[(0, .one (.val .bool))], []⟩, [(.sl 3 (.int .i64)), (.sl 3 (.int .i64))], [.bool], fun h => laws_eqIntS.f k h.1 h.2⟩
def laws_eqIntS.cts (k : Nat) : List (Nat × Ct sg) := []
def laws_eqIntS.env (k : Nat) : Env sg (HL sg.S [.bool]) := ⟨26, [], k, get (laws_eqIntS.cts k), [(4, laws_eqIntS.c_l4)], [], [(6, [[0, 1, 2, 3, 4, 5, 6, 7, 8]])], []⟩
theorem laws_eqIntS.eq (k : Nat) (h : HL sg.S (laws_eqIntS.ct k).its) : (laws_eqIntS.ct k).F h = semF (laws_eqIntS.ct k) (laws_eqIntS.env k) Tryd.f36 (bodyOf Tryd.f36) h := by kernel_rfl
noncomputable def laws_eqIntS.pts (m : Nat) := used laws_eqIntS.env (ptsOf laws_eqIntS.env (bodyOf Tryd.f36) (fun _ => retK Tryd.f36 (laws_eqIntS.ct m)))
theorem laws_eqIntS.n (m : Nat) : len (laws_eqIntS.pts m) = 1 := by kernel_rfl
theorem laws_eqIntS.g0 (m : Nat) : AtGood laws_eqIntS.env (nth (laws_eqIntS.pts m) 0) := loopGood laws_eqIntS.c_l4 (by kernel_rfl) (by kernel_rfl) (fun _ => rfl) (fun k h => by kernel_rfl)
theorem laws_eqIntS.good (m : Nat) : AllGood laws_eqIntS.env (ptsOf laws_eqIntS.env (bodyOf Tryd.f36) (fun _ => retK Tryd.f36 (laws_eqIntS.ct m))) := allGood 1 (laws_eqIntS.n m) (fun i hi => match i with | 0 => laws_eqIntS.g0 m | i + 1 => absurd hi (by omega))
theorem laws_eqIntS.ordsOK : ordsB sg (laws_eqIntS.env 0).ords (bodyOf Tryd.f36) = true := by kernel_rfl
theorem laws_eqIntS.holds (k : Nat) : (laws_eqIntS.ct k).Holds Tryd.prog 36 :=
  fn_ok (fn := Tryd.f36) (body := (bodyOf Tryd.f36)) sg.ok sg.tab sg.mixed (by kernel_rfl) (by kernel_rfl) (by kernel_rfl) (laws_eqIntS.ct k) laws_eqIntS.env k (fun _ => by kernel_rfl) (fun _ => rfl) (fun _ => by kernel_rfl) (fun _ => rfl) (fun _ => rfl) (fun _ => rfl) laws_eqIntS.ordsOK (fun j hj => ctsOK (l := laws_eqIntS.cts j) trivial) (laws_eqIntS.good k) (laws_eqIntS.eq k) (Nat.le_of_ble_eq_true (by kernel_rfl)) (by kernel_rfl) (by kernel_rfl) (by kernel_rfl) (fun _ => by kernel_rfl)
def laws_eqExpForm.ct (k : Nat) : Ct sg := ⟨true, ⟨[(0, .st 0), (1, .st 0)], []⟩, ⟨[(0, .one (.val .bool))], []⟩, [(.st 0), (.st 0)], [.bool], fun h => laws_eqExpForm.f k h.1 h.2⟩
def laws_eqExpFormS.p_l4 : Pat := ⟨[(0, .one (.val (.sl 29 (.st 0)))), (1, .one (.val (.sl 29 (.st 0)))), (5, .one (.val (.int .i64)))], []⟩
def laws_eqExpFormS.c_l4 : Cut sg (HL sg.S [.bool]) := ⟨laws_eqExpFormS.p_l4, [(.sl 29 (.st 0)), (.sl 29 (.st 0)), (.int .i64)], fun k h => laws_eqExpFormS.l4 k h.1 h.2.1 h.2.2⟩
def laws_eqExpFormS.ct (k : Nat) : Ct sg := ⟨true, ⟨[(0, .one (.val (.sl 29 (.st 0)))), (1, .one (.val (.sl 29 (.st 0))))], []⟩, ⟨[(0, .one (.val .bool))], []⟩, [(.sl 29 (.st 0)), (.sl 29 (.st 0))], [.bool], fun h => laws_eqExpFormS.f k h.1 h.2⟩
def laws_eqExpForm.cts (k : Nat) : List (Nat × Ct sg) := [(19, laws_eqExpFormS.ct k), (36, laws_eqIntS.ct k)]
def laws_eqExpForm.env (k : Nat) : Env sg (HL sg.S [.bool]) := ⟨32, [], k, get (laws_eqExpForm.cts k), [], [], [], []⟩
theorem laws_eqExpForm.eq (k : Nat) (h : HL sg.S (laws_eqExpForm.ct (k + 1)).its) : (laws_eqExpForm.ct (k + 1)).F h = semF (laws_eqExpForm.ct (k + 1)) (laws_eqExpForm.env k) Tryd.f12 (bodyOf Tryd.f12) h := by kernel_rfl
noncomputable def laws_eqExpForm.pts (m : Nat) := used laws_eqExpForm.env (ptsOf laws_eqExpForm.env (bodyOf Tryd.f12) (fun _ => retK Tryd.f12 (laws_eqExpForm.ct m)))
theorem laws_eqExpForm.n (m : Nat) : len (laws_eqExpForm.pts m) = 0 := by kernel_rfl
theorem laws_eqExpForm.good (m : Nat) : AllGood laws_eqExpForm.env (ptsOf laws_eqExpForm.env (bodyOf Tryd.f12) (fun _ => retK Tryd.f12 (laws_eqExpForm.ct m))) := allGood 0 (laws_eqExpForm.n m) (fun i hi => match i with | i + 0 => absurd hi (by omega))
theorem laws_eqExpForm.ordsOK : ordsB sg (laws_eqExpForm.env 0).ords (bodyOf Tryd.f12) = true := by kernel_rfl
def laws_eqExpFormS.cts (k : Nat) : List (Nat × Ct sg) := [(12, laws_eqExpForm.ct k)]
def laws_eqExpFormS.env (k : Nat) : Env sg (HL sg.S [.bool]) := ⟨27, [], k, get (laws_eqExpFormS.cts k), [(4, laws_eqExpFormS.c_l4)], [], [(6, [[0, 1, 2, 3, 4, 5, 6, 7, 8, 9]])], []⟩
theorem laws_eqExpFormS.eq (k : Nat) (h : HL sg.S (laws_eqExpFormS.ct (k + 1)).its) : (laws_eqExpFormS.ct (k + 1)).F h = semF (laws_eqExpFormS.ct (k + 1)) (laws_eqExpFormS.env k) Tryd.f19 (bodyOf Tryd.f19) h := by kernel_rfl
noncomputable def laws_eqExpFormS.pts (m : Nat) := used laws_eqExpFormS.env (ptsOf laws_eqExpFormS.env (bodyOf Tryd.f19) (fun _ => retK Tryd.f19 (laws_eqExpFormS.ct m)))
theorem laws_eqExpFormS.n (m : Nat) : len (laws_eqExpFormS.pts m) = 1 := by kernel_rfl
theorem laws_eqExpFormS.g0 (m : Nat) : AtGood laws_eqExpFormS.env (nth (laws_eqExpFormS.pts m) 0) := loopGood laws_eqExpFormS.c_l4 (by kernel_rfl) (by kernel_rfl) (fun _ => rfl) (fun k h => by kernel_rfl)
theorem laws_eqExpFormS.good (m : Nat) : AllGood laws_eqExpFormS.env (ptsOf laws_eqExpFormS.env (bodyOf Tryd.f19) (fun _ => retK Tryd.f19 (laws_eqExpFormS.ct m))) := allGood 1 (laws_eqExpFormS.n m) (fun i hi => match i with | 0 => laws_eqExpFormS.g0 m | i + 1 => absurd hi (by omega))
theorem laws_eqExpFormS.ordsOK : ordsB sg (laws_eqExpFormS.env 0).ords (bodyOf Tryd.f19) = true := by kernel_rfl
theorem laws_eqExpForm.all (k : Nat) : (laws_eqExpForm.ct k).Holds Tryd.prog 12 ∧ (laws_eqExpFormS.ct k).Holds Tryd.prog 19 := by
  induction k using Nat.strongRecOn with
  | _ k ih => cases k with
    | zero => exact ⟨⟨by kernel_rfl, by kernel_rfl, (fun _ => by kernel_rfl), fun _ _ _ _ _ _ _ h => absurd (show none = some _ from h) (by intro e; cases e)⟩, ⟨by kernel_rfl, by kernel_rfl, (fun _ => by kernel_rfl), fun _ _ _ _ _ _ _ h => absurd (show none = some _ from h) (by intro e; cases e)⟩⟩
    | succ k => exact ⟨fn_ok (fn := Tryd.f12) (body := (bodyOf Tryd.f12)) sg.ok sg.tab sg.mixed (by kernel_rfl) (by kernel_rfl) (by kernel_rfl) (laws_eqExpForm.ct (k + 1)) laws_eqExpForm.env k (fun _ => by kernel_rfl) (fun _ => rfl) (fun _ => by kernel_rfl) (fun _ => rfl) (fun _ => rfl) (fun _ => rfl) laws_eqExpForm.ordsOK (fun j hj => ctsOK (l := laws_eqExpForm.cts j) ⟨(ih j (by omega)).2, (laws_eqIntS.holds j), trivial⟩) (laws_eqExpForm.good (k + 1)) (laws_eqExpForm.eq k) (Nat.le_of_ble_eq_true (by kernel_rfl)) (by kernel_rfl) (by kernel_rfl) (by kernel_rfl) (fun _ => by kernel_rfl), fn_ok (fn := Tryd.f19) (body := (bodyOf Tryd.f19)) sg.ok sg.tab sg.mixed (by kernel_rfl) (by kernel_rfl) (by kernel_rfl) (laws_eqExpFormS.ct (k + 1)) laws_eqExpFormS.env k (fun _ => by kernel_rfl) (fun _ => rfl) (fun _ => by kernel_rfl) (fun _ => rfl) (fun _ => rfl) (fun _ => rfl) laws_eqExpFormS.ordsOK (fun j hj => ctsOK (l := laws_eqExpFormS.cts j) ⟨(ih j (by omega)).1, trivial⟩) (laws_eqExpFormS.good (k + 1)) (laws_eqExpFormS.eq k) (Nat.le_of_ble_eq_true (by kernel_rfl)) (by kernel_rfl) (by kernel_rfl) (by kernel_rfl) (fun _ => by kernel_rfl)⟩
theorem laws_eqExpForm.holds (k : Nat) : (laws_eqExpForm.ct k).Holds Tryd.prog 12 := (laws_eqExpForm.all k).1
theorem laws_eqExpFormS.holds (k : Nat) : (laws_eqExpFormS.ct k).Holds Tryd.prog 19 := (laws_eqExpForm.all k).2
def laws_markIntS.p_j1 : Pat := ⟨[(0, .one (.warr 0)), (1, .one (.val (.int .i64)))], [.ow true false 3 (.int .i64)]⟩
def laws_markIntS.c_j1 : Cut sg (HL sg.S [(.int .i64), (.sl 3 (.int .i64))]) := ⟨laws_markIntS.p_j1, [(.int .i64), (.sl 3 (.int .i64))], fun k h => laws_markIntS.j1 k h.1 h.2⟩
def laws_markIntS.p_j2 : Pat := ⟨[(0, .one (.warr 0)), (1, .one (.val (.int .i64))), (5, .one (.val (.int .i64)))], [.ow true false 3 (.int .i64)]⟩
def laws_markIntS.c_j2 : Cut sg (HL sg.S [(.int .i64), (.sl 3 (.int .i64))]) := ⟨laws_markIntS.p_j2, [(.int .i64), (.int .i64), (.sl 3 (.int .i64))], fun k h => laws_markIntS.j2 k h.1 h.2.1 h.2.2⟩
def laws_markIntS.p_j3 : Pat := ⟨[(0, .one (.warr 0)), (1, .one (.val (.int .i64))), (5, .one (.val (.int .i64)))], [.ow true false 3 (.int .i64)]⟩
def laws_markIntS.c_j3 : Cut sg (HL sg.S [(.int .i64), (.sl 3 (.int .i64))]) := ⟨laws_markIntS.p_j3, [(.int .i64), (.int .i64), (.sl 3 (.int .i64))], fun k h => laws_markIntS.j3 k h.1 h.2.1 h.2.2⟩
def laws_markIntS.p_j4 : Pat := ⟨[(0, .one (.warr 0)), (1, .one (.val (.int .i64))), (5, .one (.val (.int .i64)))], [.ow true false 3 (.int .i64)]⟩
def laws_markIntS.c_j4 : Cut sg (HL sg.S [(.int .i64), (.sl 3 (.int .i64))]) := ⟨laws_markIntS.p_j4, [(.int .i64), (.int .i64), (.sl 3 (.int .i64))], fun k h => laws_markIntS.j4 k h.1 h.2.1 h.2.2⟩
def laws_markIntS.p_j5 : Pat := ⟨[(0, .one (.warr 0)), (1, .one (.val (.int .i64))), (5, .one (.val (.int .i64)))], [.ow true false 3 (.int .i64)]⟩
def laws_markIntS.c_j5 : Cut sg (HL sg.S [(.int .i64), (.sl 3 (.int .i64))]) := ⟨laws_markIntS.p_j5, [(.int .i64), (.int .i64), (.sl 3 (.int .i64))], fun k h => laws_markIntS.j5 k h.1 h.2.1 h.2.2⟩
def laws_markIntS.p_j6 : Pat := ⟨[(1, .one (.val (.int .i64)))], [.ow true false 3 (.int .i64)]⟩
def laws_markIntS.c_j6 : Cut sg (HL sg.S [(.int .i64), (.sl 3 (.int .i64))]) := ⟨laws_markIntS.p_j6, [(.int .i64), (.sl 3 (.int .i64))], fun k h => laws_markIntS.j6 k h.1 h.2⟩
def laws_markIntS.p_l2 : Pat := ⟨[(0, .one (.warr 0)), (1, .one (.val (.int .i64))), (5, .one (.val (.int .i64)))], [.ow true false 3 (.int .i64)]⟩
def laws_markIntS.c_l2 : Cut sg (HL sg.S [(.int .i64), (.sl 3 (.int .i64))]) := ⟨laws_markIntS.p_l2, [(.int .i64), (.int .i64), (.sl 3 (.int .i64))], fun k h => laws_markIntS.l2 k h.1 h.2.1 h.2.2⟩
def laws_markIntS.ct (k : Nat) : Ct sg := ⟨false, ⟨[(0, .one (.warr 0)), (1, .one (.val (.int .i64)))], [.ow true false 3 (.int .i64)]⟩, ⟨[(0, .one (.val (.int .i64)))], [.ow true false 3 (.int .i64)]⟩, [(.int .i64), (.sl 3 (.int .i64))], [(.int .i64), (.sl 3 (.int .i64))], fun h => laws_markIntS.f k h.1 h.2⟩
def laws_markIntS.cts (k : Nat) : List (Nat × Ct sg) := []
def laws_markIntS.env (k : Nat) : Env sg (HL sg.S [(.int .i64), (.sl 3 (.int .i64))]) := ⟨19, [0], k, get (laws_markIntS.cts k), [(2, laws_markIntS.c_l2)], [(1, laws_markIntS.c_j1), (2, laws_markIntS.c_j2), (3, laws_markIntS.c_j3), (4, laws_markIntS.c_j4), (5, laws_markIntS.c_j5), (6, laws_markIntS.c_j6)], [], []⟩
theorem laws_markIntS.eq (k : Nat) (h : HL sg.S (laws_markIntS.ct k).its) : (laws_markIntS.ct k).F h = semF (laws_markIntS.ct k) (laws_markIntS.env k) Tryd.f37 (bodyOf Tryd.f37) h := by kernel_rfl
noncomputable def laws_markIntS.pts (m : Nat) := used laws_markIntS.env (ptsOf laws_markIntS.env (bodyOf Tryd.f37) (fun _ => retK Tryd.f37 (laws_markIntS.ct m)))
theorem laws_markIntS.n (m : Nat) : len (laws_markIntS.pts m) = 7 := by kernel_rfl
theorem laws_markIntS.g0 (m : Nat) : AtGood laws_markIntS.env (nth (laws_markIntS.pts m) 0) := joinGood laws_markIntS.c_j1 (by kernel_rfl) (by kernel_rfl) (fun k h => by kernel_rfl)
theorem laws_markIntS.g1 (m : Nat) : AtGood laws_markIntS.env (nth (laws_markIntS.pts m) 1) := joinGood laws_markIntS.c_j6 (by kernel_rfl) (by kernel_rfl) (fun k h => by kernel_rfl)
theorem laws_markIntS.g2 (m : Nat) : AtGood laws_markIntS.env (nth (laws_markIntS.pts m) 2) := joinGood laws_markIntS.c_j2 (by kernel_rfl) (by kernel_rfl) (fun k h => by kernel_rfl)
theorem laws_markIntS.g3 (m : Nat) : AtGood laws_markIntS.env (nth (laws_markIntS.pts m) 3) := loopGood laws_markIntS.c_l2 (by kernel_rfl) (by kernel_rfl) (fun _ => rfl) (fun k h => by kernel_rfl)
theorem laws_markIntS.g4 (m : Nat) : AtGood laws_markIntS.env (nth (laws_markIntS.pts m) 4) := joinGood laws_markIntS.c_j4 (by kernel_rfl) (by kernel_rfl) (fun k h => by kernel_rfl)
theorem laws_markIntS.g5 (m : Nat) : AtGood laws_markIntS.env (nth (laws_markIntS.pts m) 5) := joinGood laws_markIntS.c_j3 (by kernel_rfl) (by kernel_rfl) (fun k h => by kernel_rfl)
theorem laws_markIntS.g6 (m : Nat) : AtGood laws_markIntS.env (nth (laws_markIntS.pts m) 6) := joinGood laws_markIntS.c_j5 (by kernel_rfl) (by kernel_rfl) (fun k h => by kernel_rfl)
theorem laws_markIntS.good (m : Nat) : AllGood laws_markIntS.env (ptsOf laws_markIntS.env (bodyOf Tryd.f37) (fun _ => retK Tryd.f37 (laws_markIntS.ct m))) := allGood 7 (laws_markIntS.n m) (fun i hi => match i with | 0 => laws_markIntS.g0 m | 1 => laws_markIntS.g1 m | 2 => laws_markIntS.g2 m | 3 => laws_markIntS.g3 m | 4 => laws_markIntS.g4 m | 5 => laws_markIntS.g5 m | 6 => laws_markIntS.g6 m | i + 7 => absurd hi (by omega))
theorem laws_markIntS.ordsOK : ordsB sg (laws_markIntS.env 0).ords (bodyOf Tryd.f37) = true := by kernel_rfl
theorem laws_markIntS.holds (k : Nat) : (laws_markIntS.ct k).Holds Tryd.prog 37 :=
  fn_ok (fn := Tryd.f37) (body := (bodyOf Tryd.f37)) sg.ok sg.tab sg.mixed (by kernel_rfl) (by kernel_rfl) (by kernel_rfl) (laws_markIntS.ct k) laws_markIntS.env k (fun _ => by kernel_rfl) (fun _ => rfl) (fun _ => by kernel_rfl) (fun _ => rfl) (fun _ => rfl) (fun _ => rfl) laws_markIntS.ordsOK (fun j hj => ctsOK (l := laws_markIntS.cts j) trivial) (laws_markIntS.good k) (laws_markIntS.eq k) (Nat.le_of_ble_eq_true (by kernel_rfl)) (by kernel_rfl) (by kernel_rfl) (by kernel_rfl) (fun h => by cases h)
def laws_markText.p_l4 : Pat := ⟨[(0, .one (.val (.int .i64))), (3, .one (.val .str))], []⟩
def laws_markText.c_l4 : Cut sg (HL sg.S [.str]) := ⟨laws_markText.p_l4, [(.int .i64), .str], fun k h => laws_markText.l4 k h.1 h.2⟩
def laws_markText.ct (k : Nat) : Ct sg := ⟨true, ⟨[(0, .one (.val (.int .i64)))], []⟩, ⟨[(0, .one (.val .str))], []⟩, [(.int .i64)], [.str], fun h => laws_markText.f k h⟩
def laws_markText.cts (k : Nat) : List (Nat × Ct sg) := []
def laws_markText.env (k : Nat) : Env sg (HL sg.S [.str]) := ⟨20, [], k, get (laws_markText.cts k), [(4, laws_markText.c_l4)], [], [], []⟩
theorem laws_markText.eq (k : Nat) (h : HL sg.S (laws_markText.ct k).its) : (laws_markText.ct k).F h = semF (laws_markText.ct k) (laws_markText.env k) Tryd.f70 (bodyOf Tryd.f70) h := by kernel_rfl
noncomputable def laws_markText.pts (m : Nat) := used laws_markText.env (ptsOf laws_markText.env (bodyOf Tryd.f70) (fun _ => retK Tryd.f70 (laws_markText.ct m)))
theorem laws_markText.n (m : Nat) : len (laws_markText.pts m) = 1 := by kernel_rfl
theorem laws_markText.g0 (m : Nat) : AtGood laws_markText.env (nth (laws_markText.pts m) 0) := loopGood laws_markText.c_l4 (by kernel_rfl) (by kernel_rfl) (fun _ => rfl) (fun k h => by kernel_rfl)
theorem laws_markText.good (m : Nat) : AllGood laws_markText.env (ptsOf laws_markText.env (bodyOf Tryd.f70) (fun _ => retK Tryd.f70 (laws_markText.ct m))) := allGood 1 (laws_markText.n m) (fun i hi => match i with | 0 => laws_markText.g0 m | i + 1 => absurd hi (by omega))
theorem laws_markText.ordsOK : ordsB sg (laws_markText.env 0).ords (bodyOf Tryd.f70) = true := by kernel_rfl
theorem laws_markText.holds (k : Nat) : (laws_markText.ct k).Holds Tryd.prog 70 :=
  fn_ok (fn := Tryd.f70) (body := (bodyOf Tryd.f70)) sg.ok sg.tab sg.mixed (by kernel_rfl) (by kernel_rfl) (by kernel_rfl) (laws_markText.ct k) laws_markText.env k (fun _ => by kernel_rfl) (fun _ => rfl) (fun _ => by kernel_rfl) (fun _ => rfl) (fun _ => rfl) (fun _ => rfl) laws_markText.ordsOK (fun j hj => ctsOK (l := laws_markText.cts j) trivial) (laws_markText.good k) (laws_markText.eq k) (Nat.le_of_ble_eq_true (by kernel_rfl)) (by kernel_rfl) (by kernel_rfl) (by kernel_rfl) (fun _ => by kernel_rfl)
def laws_markExpFormS.p_j1 : Pat := ⟨[(0, .one (.warr 0)), (1, .one (.val (.int .i64)))], [.ow true true 29 (.st 0)]⟩
def laws_markExpFormS.c_j1 : Cut sg (HL sg.S [(.int .i64), (.sl 29 (.st 0))]) := ⟨laws_markExpFormS.p_j1, [(.int .i64), (.sl 29 (.st 0))], fun k h => laws_markExpFormS.j1 k h.1 h.2⟩
def laws_markExpFormS.p_j10 : Pat := ⟨[(0, .one (.warr 0)), (1, .one (.val (.int .i64))), (5, .one (.val (.int .i64)))], [.ow true true 29 (.st 0)]⟩
def laws_markExpFormS.c_j10 : Cut sg (HL sg.S [(.int .i64), (.sl 29 (.st 0))]) := ⟨laws_markExpFormS.p_j10, [(.int .i64), (.int .i64), (.sl 29 (.st 0))], fun k h => laws_markExpFormS.j10 k h.1 h.2.1 h.2.2⟩
def laws_markExpFormS.p_j11 : Pat := ⟨[(0, .one (.warr 0)), (1, .one (.val (.int .i64))), (5, .one (.val (.int .i64)))], [.ow true true 29 (.st 0)]⟩
def laws_markExpFormS.c_j11 : Cut sg (HL sg.S [(.int .i64), (.sl 29 (.st 0))]) := ⟨laws_markExpFormS.p_j11, [(.int .i64), (.int .i64), (.sl 29 (.st 0))], fun k h => laws_markExpFormS.j11 k h.1 h.2.1 h.2.2⟩
def laws_markExpFormS.p_j12 : Pat := ⟨[(1, .one (.val (.int .i64)))], [.ow true true 29 (.st 0)]⟩
def laws_markExpFormS.c_j12 : Cut sg (HL sg.S [(.int .i64), (.sl 29 (.st 0))]) := ⟨laws_markExpFormS.p_j12, [(.int .i64), (.sl 29 (.st 0))], fun k h => laws_markExpFormS.j12 k h.1 h.2⟩
def laws_markExpFormS.p_j2 : Pat := ⟨[(0, .one (.warr 0)), (1, .one (.val (.int .i64))), (5, .one (.val (.int .i64)))], [.ow true true 29 (.st 0)]⟩
def laws_markExpFormS.c_j2 : Cut sg (HL sg.S [(.int .i64), (.sl 29 (.st 0))]) := ⟨laws_markExpFormS.p_j2, [(.int .i64), (.int .i64), (.sl 29 (.st 0))], fun k h => laws_markExpFormS.j2 k h.1 h.2.1 h.2.2⟩
def laws_markExpFormS.p_j3 : Pat := ⟨[(0, .one (.warr 0)), (1, .one (.val (.int .i64))), (5, .one (.val (.int .i64)))], [.ow true true 29 (.st 0)]⟩
def laws_markExpFormS.c_j3 : Cut sg (HL sg.S [(.int .i64), (.sl 29 (.st 0))]) := ⟨laws_markExpFormS.p_j3, [(.int .i64), (.int .i64), (.sl 29 (.st 0))], fun k h => laws_markExpFormS.j3 k h.1 h.2.1 h.2.2⟩
def laws_markExpFormS.p_j4 : Pat := ⟨[(0, .one (.warr 0)), (1, .one (.val (.int .i64))), (5, .one (.val (.int .i64)))], [.ow true true 29 (.st 0)]⟩
def laws_markExpFormS.c_j4 : Cut sg (HL sg.S [(.int .i64), (.sl 29 (.st 0))]) := ⟨laws_markExpFormS.p_j4, [(.int .i64), (.int .i64), (.sl 29 (.st 0))], fun k h => laws_markExpFormS.j4 k h.1 h.2.1 h.2.2⟩
def laws_markExpFormS.p_j5 : Pat := ⟨[(0, .one (.warr 0)), (1, .one (.val (.int .i64))), (5, .one (.val (.int .i64)))], [.ow true true 29 (.st 0)]⟩
def laws_markExpFormS.c_j5 : Cut sg (HL sg.S [(.int .i64), (.sl 29 (.st 0))]) := ⟨laws_markExpFormS.p_j5, [(.int .i64), (.int .i64), (.sl 29 (.st 0))], fun k h => laws_markExpFormS.j5 k h.1 h.2.1 h.2.2⟩
def laws_markExpFormS.p_j6 : Pat := ⟨[(0, .one (.warr 0)), (1, .one (.val (.int .i64))), (5, .one (.val (.int .i64)))], [.ow true true 29 (.st 0)]⟩
def laws_markExpFormS.c_j6 : Cut sg (HL sg.S [(.int .i64), (.sl 29 (.st 0))]) := ⟨laws_markExpFormS.p_j6, [(.int .i64), (.int .i64), (.sl 29 (.st 0))], fun k h => laws_markExpFormS.j6 k h.1 h.2.1 h.2.2⟩
def laws_markExpFormS.p_j7 : Pat := ⟨[(0, .one (.warr 0)), (1, .one (.val (.int .i64))), (5, .one (.val (.int .i64)))], [.ow true true 29 (.st 0)]⟩
def laws_markExpFormS.c_j7 : Cut sg (HL sg.S [(.int .i64), (.sl 29 (.st 0))]) := ⟨laws_markExpFormS.p_j7, [(.int .i64), (.int .i64), (.sl 29 (.st 0))], fun k h => laws_markExpFormS.j7 k h.1 h.2.1 h.2.2⟩
def laws_markExpFormS.p_j8 : Pat := ⟨[(0, .one (.warr 0)), (1, .one (.val (.int .i64))), (5, .one (.val (.int .i64)))], [.ow true true 29 (.st 0)]⟩
def laws_markExpFormS.c_j8 : Cut sg (HL sg.S [(.int .i64), (.sl 29 (.st 0))]) := ⟨laws_markExpFormS.p_j8, [(.int .i64), (.int .i64), (.sl 29 (.st 0))], fun k h => laws_markExpFormS.j8 k h.1 h.2.1 h.2.2⟩
def laws_markExpFormS.p_j9 : Pat := ⟨[(0, .one (.warr 0)), (1, .one (.val (.int .i64))), (5, .one (.val (.int .i64)))], [.ow true true 29 (.st 0)]⟩
def laws_markExpFormS.c_j9 : Cut sg (HL sg.S [(.int .i64), (.sl 29 (.st 0))]) := ⟨laws_markExpFormS.p_j9, [(.int .i64), (.int .i64), (.sl 29 (.st 0))], fun k h => laws_markExpFormS.j9 k h.1 h.2.1 h.2.2⟩
def laws_markExpFormS.p_l2 : Pat := ⟨[(0, .one (.warr 0)), (1, .one (.val (.int .i64))), (5, .one (.val (.int .i64)))], [.ow true true 29 (.st 0)]⟩
def laws_markExpFormS.c_l2 : Cut sg (HL sg.S [(.int .i64), (.sl 29 (.st 0))]) := ⟨laws_markExpFormS.p_l2, [(.int .i64), (.int .i64), (.sl 29 (.st 0))], fun k h => laws_markExpFormS.l2 k h.1 h.2.1 h.2.2⟩
def laws_markExpFormS.ct (k : Nat) : Ct sg := ⟨false, ⟨[(0, .one (.warr 0)), (1, .one (.val (.int .i64)))], [.ow true true 29 (.st 0)]⟩, ⟨[(0, .one (.val (.int .i64)))], [.ow true true 29 (.st 0)]⟩, [(.int .i64), (.sl 29 (.st 0))], [(.int .i64), (.sl 29 (.st 0))], fun h => laws_markExpFormS.f k h.1 h.2⟩
def laws_markExpFormS.cts (k : Nat) : List (Nat × Ct sg) := [(37, laws_markIntS.ct k), (38, laws_markExpFormS.ct k), (70, laws_markText.ct k)]
def laws_markExpFormS.env (k : Nat) : Env sg (HL sg.S [(.int .i64), (.sl 29 (.st 0))]) := ⟨49, [0], k, get (laws_markExpFormS.cts k), [(2, laws_markExpFormS.c_l2)], [(1, laws_markExpFormS.c_j1), (2, laws_markExpFormS.c_j2), (3, laws_markExpFormS.c_j3), (4, laws_markExpFormS.c_j4), (5, laws_markExpFormS.c_j5), (6, laws_markExpFormS.c_j6), (7, laws_markExpFormS.c_j7), (8, laws_markExpFormS.c_j8), (9, laws_markExpFormS.c_j9), (10, laws_markExpFormS.c_j10), (11, laws_markExpFormS.c_j11), (12, laws_markExpFormS.c_j12)], [], []⟩
theorem laws_markExpFormS.eq (k : Nat) (h : HL sg.S (laws_markExpFormS.ct (k + 1)).its) : (laws_markExpFormS.ct (k + 1)).F h = semF (laws_markExpFormS.ct (k + 1)) (laws_markExpFormS.env k) Tryd.f38 (bodyOf Tryd.f38) h := by kernel_rfl
noncomputable def laws_markExpFormS.pts (m : Nat) := used laws_markExpFormS.env (ptsOf laws_markExpFormS.env (bodyOf Tryd.f38) (fun _ => retK Tryd.f38 (laws_markExpFormS.ct m)))
theorem laws_markExpFormS.n (m : Nat) : len (laws_markExpFormS.pts m) = 13 := by kernel_rfl
theorem laws_markExpFormS.g0 (m : Nat) : AtGood laws_markExpFormS.env (nth (laws_markExpFormS.pts m) 0) := joinGood laws_markExpFormS.c_j1 (by kernel_rfl) (by kernel_rfl) (fun k h => by kernel_rfl)
theorem laws_markExpFormS.g1 (m : Nat) : AtGood laws_markExpFormS.env (nth (laws_markExpFormS.pts m) 1) := joinGood laws_markExpFormS.c_j12 (by kernel_rfl) (by kernel_rfl) (fun k h => by kernel_rfl)
theorem laws_markExpFormS.g2 (m : Nat) : AtGood laws_markExpFormS.env (nth (laws_markExpFormS.pts m) 2) := joinGood laws_markExpFormS.c_j2 (by kernel_rfl) (by kernel_rfl) (fun k h => by kernel_rfl)
theorem laws_markExpFormS.g3 (m : Nat) : AtGood laws_markExpFormS.env (nth (laws_markExpFormS.pts m) 3) := loopGood laws_markExpFormS.c_l2 (by kernel_rfl) (by kernel_rfl) (fun _ => rfl) (fun k h => by kernel_rfl)
theorem laws_markExpFormS.g4 (m : Nat) : AtGood laws_markExpFormS.env (nth (laws_markExpFormS.pts m) 4) := joinGood laws_markExpFormS.c_j4 (by kernel_rfl) (by kernel_rfl) (fun k h => by kernel_rfl)
theorem laws_markExpFormS.g5 (m : Nat) : AtGood laws_markExpFormS.env (nth (laws_markExpFormS.pts m) 5) := joinGood laws_markExpFormS.c_j3 (by kernel_rfl) (by kernel_rfl) (fun k h => by kernel_rfl)
theorem laws_markExpFormS.g6 (m : Nat) : AtGood laws_markExpFormS.env (nth (laws_markExpFormS.pts m) 6) := joinGood laws_markExpFormS.c_j5 (by kernel_rfl) (by kernel_rfl) (fun k h => by kernel_rfl)
theorem laws_markExpFormS.g7 (m : Nat) : AtGood laws_markExpFormS.env (nth (laws_markExpFormS.pts m) 7) := joinGood laws_markExpFormS.c_j6 (by kernel_rfl) (by kernel_rfl) (fun k h => by kernel_rfl)
theorem laws_markExpFormS.g8 (m : Nat) : AtGood laws_markExpFormS.env (nth (laws_markExpFormS.pts m) 8) := joinGood laws_markExpFormS.c_j7 (by kernel_rfl) (by kernel_rfl) (fun k h => by kernel_rfl)
theorem laws_markExpFormS.g9 (m : Nat) : AtGood laws_markExpFormS.env (nth (laws_markExpFormS.pts m) 9) := joinGood laws_markExpFormS.c_j8 (by kernel_rfl) (by kernel_rfl) (fun k h => by kernel_rfl)
theorem laws_markExpFormS.g10 (m : Nat) : AtGood laws_markExpFormS.env (nth (laws_markExpFormS.pts m) 10) := joinGood laws_markExpFormS.c_j9 (by kernel_rfl) (by kernel_rfl) (fun k h => by kernel_rfl)
theorem laws_markExpFormS.g11 (m : Nat) : AtGood laws_markExpFormS.env (nth (laws_markExpFormS.pts m) 11) := joinGood laws_markExpFormS.c_j10 (by kernel_rfl) (by kernel_rfl) (fun k h => by kernel_rfl)
theorem laws_markExpFormS.g12 (m : Nat) : AtGood laws_markExpFormS.env (nth (laws_markExpFormS.pts m) 12) := joinGood laws_markExpFormS.c_j11 (by kernel_rfl) (by kernel_rfl) (fun k h => by kernel_rfl)
theorem laws_markExpFormS.good (m : Nat) : AllGood laws_markExpFormS.env (ptsOf laws_markExpFormS.env (bodyOf Tryd.f38) (fun _ => retK Tryd.f38 (laws_markExpFormS.ct m))) := allGood 13 (laws_markExpFormS.n m) (fun i hi => match i with | 0 => laws_markExpFormS.g0 m | 1 => laws_markExpFormS.g1 m | 2 => laws_markExpFormS.g2 m | 3 => laws_markExpFormS.g3 m | 4 => laws_markExpFormS.g4 m | 5 => laws_markExpFormS.g5 m | 6 => laws_markExpFormS.g6 m | 7 => laws_markExpFormS.g7 m | 8 => laws_markExpFormS.g8 m | 9 => laws_markExpFormS.g9 m | 10 => laws_markExpFormS.g10 m | 11 => laws_markExpFormS.g11 m | 12 => laws_markExpFormS.g12 m | i + 13 => absurd hi (by omega))
theorem laws_markExpFormS.ordsOK : ordsB sg (laws_markExpFormS.env 0).ords (bodyOf Tryd.f38) = true := by kernel_rfl
theorem laws_markExpFormS.all (k : Nat) : (laws_markExpFormS.ct k).Holds Tryd.prog 38 := by
  induction k using Nat.strongRecOn with
  | _ k ih => cases k with
    | zero => exact ⟨by kernel_rfl, by kernel_rfl, (fun h => by cases h), fun _ _ _ _ _ _ _ h => absurd (show none = some _ from h) (by intro e; cases e)⟩
    | succ k => exact fn_ok (fn := Tryd.f38) (body := (bodyOf Tryd.f38)) sg.ok sg.tab sg.mixed (by kernel_rfl) (by kernel_rfl) (by kernel_rfl) (laws_markExpFormS.ct (k + 1)) laws_markExpFormS.env k (fun _ => by kernel_rfl) (fun _ => rfl) (fun _ => by kernel_rfl) (fun _ => rfl) (fun _ => rfl) (fun _ => rfl) laws_markExpFormS.ordsOK (fun j hj => ctsOK (l := laws_markExpFormS.cts j) ⟨(laws_markIntS.holds j), (ih j (by omega)), (laws_markText.holds j), trivial⟩) (laws_markExpFormS.good (k + 1)) (laws_markExpFormS.eq k) (Nat.le_of_ble_eq_true (by kernel_rfl)) (by kernel_rfl) (by kernel_rfl) (by kernel_rfl) (fun h => by cases h)
theorem laws_markExpFormS.holds (k : Nat) : (laws_markExpFormS.ct k).Holds Tryd.prog 38 := (laws_markExpFormS.all k)
def laws_markExpForm.p_j1 : Pat := ⟨[(1, .one (.val (.int .i64))), (2, .one (.ptr 2 0))], [.ow true false 3 (.int .i64), .ow true true 29 (.st 0), .cells [] [.any, .any, .warr 0, .any, .warr 1]]⟩
def laws_markExpForm.c_j1 : Cut sg (HL sg.S [(.int .i64), (.sl 3 (.int .i64)), (.sl 29 (.st 0))]) := ⟨laws_markExpForm.p_j1, [(.int .i64), (.sl 3 (.int .i64)), (.sl 29 (.st 0))], fun k h => laws_markExpForm.j1 k h.1 h.2.1 h.2.2⟩
def laws_markExpForm.p_j2 : Pat := ⟨[(1, .one (.val (.int .i64))), (2, .one (.ptr 2 0))], [.ow true false 3 (.int .i64), .ow true true 29 (.st 0), .cells [] [.any, .any, .warr 0, .any, .warr 1]]⟩
def laws_markExpForm.c_j2 : Cut sg (HL sg.S [(.int .i64), (.sl 3 (.int .i64)), (.sl 29 (.st 0))]) := ⟨laws_markExpForm.p_j2, [(.int .i64), (.sl 3 (.int .i64)), (.sl 29 (.st 0))], fun k h => laws_markExpForm.j2 k h.1 h.2.1 h.2.2⟩
def laws_markExpForm.p_j3 : Pat := ⟨[(1, .one (.val (.int .i64)))], [.ow true false 3 (.int .i64), .ow true true 29 (.st 0)]⟩
def laws_markExpForm.c_j3 : Cut sg (HL sg.S [(.int .i64), (.sl 3 (.int .i64)), (.sl 29 (.st 0))]) := ⟨laws_markExpForm.p_j3, [(.int .i64), (.sl 3 (.int .i64)), (.sl 29 (.st 0))], fun k h => laws_markExpForm.j3 k h.1 h.2.1 h.2.2⟩
def laws_markExpForm.ct (k : Nat) : Ct sg := ⟨false, ⟨[(0, .agg [.val (.int .i64), .val .str, .warr 0, .val (.int .i64), .warr 1]), (1, .one (.val (.int .i64)))], [.ow true false 3 (.int .i64), .ow true true 29 (.st 0)]⟩, ⟨[(0, .one (.val (.int .i64)))], [.ow true false 3 (.int .i64), .ow true true 29 (.st 0)]⟩, [(.int .i64), .str, (.int .i64), (.int .i64), (.sl 3 (.int .i64)), (.sl 29 (.st 0))], [(.int .i64), (.sl 3 (.int .i64)), (.sl 29 (.st 0))], fun h => laws_markExpForm.f k h.1 h.2.1 h.2.2.1 h.2.2.2.1 h.2.2.2.2.1 h.2.2.2.2.2⟩
def laws_markExpForm.cts (k : Nat) : List (Nat × Ct sg) := [(37, laws_markIntS.ct k), (38, laws_markExpFormS.ct k)]
def laws_markExpForm.env (k : Nat) : Env sg (HL sg.S [(.int .i64), (.sl 3 (.int .i64)), (.sl 29 (.st 0))]) := ⟨14, [0, 1], k, get (laws_markExpForm.cts k), [], [(1, laws_markExpForm.c_j1), (2, laws_markExpForm.c_j2), (3, laws_markExpForm.c_j3)], [], []⟩
theorem laws_markExpForm.eq (k : Nat) (h : HL sg.S (laws_markExpForm.ct k).its) : (laws_markExpForm.ct k).F h = semF (laws_markExpForm.ct k) (laws_markExpForm.env k) Tryd.f13 (bodyOf Tryd.f13) h := by kernel_rfl
noncomputable def laws_markExpForm.pts (m : Nat) := used laws_markExpForm.env (ptsOf laws_markExpForm.env (bodyOf Tryd.f13) (fun _ => retK Tryd.f13 (laws_markExpForm.ct m)))
theorem laws_markExpForm.n (m : Nat) : len (laws_markExpForm.pts m) = 3 := by kernel_rfl
theorem laws_markExpForm.g0 (m : Nat) : AtGood laws_markExpForm.env (nth (laws_markExpForm.pts m) 0) := joinGood laws_markExpForm.c_j1 (by kernel_rfl) (by kernel_rfl) (fun k h => by kernel_rfl)
theorem laws_markExpForm.g1 (m : Nat) : AtGood laws_markExpForm.env (nth (laws_markExpForm.pts m) 1) := joinGood laws_markExpForm.c_j2 (by kernel_rfl) (by kernel_rfl) (fun k h => by kernel_rfl)
theorem laws_markExpForm.g2 (m : Nat) : AtGood laws_markExpForm.env (nth (laws_markExpForm.pts m) 2) := joinGood laws_markExpForm.c_j3 (by kernel_rfl) (by kernel_rfl) (fun k h => by kernel_rfl)
theorem laws_markExpForm.good (m : Nat) : AllGood laws_markExpForm.env (ptsOf laws_markExpForm.env (bodyOf Tryd.f13) (fun _ => retK Tryd.f13 (laws_markExpForm.ct m))) := allGood 3 (laws_markExpForm.n m) (fun i hi => match i with | 0 => laws_markExpForm.g0 m | 1 => laws_markExpForm.g1 m | 2 => laws_markExpForm.g2 m | i + 3 => absurd hi (by omega))
theorem laws_markExpForm.ordsOK : ordsB sg (laws_markExpForm.env 0).ords (bodyOf Tryd.f13) = true := by kernel_rfl
theorem laws_markExpForm.holds (k : Nat) : (laws_markExpForm.ct k).Holds Tryd.prog 13 :=
  fn_ok (fn := Tryd.f13) (body := (bodyOf Tryd.f13)) sg.ok sg.tab sg.mixed (by kernel_rfl) (by kernel_rfl) (by kernel_rfl) (laws_markExpForm.ct k) laws_markExpForm.env k (fun _ => by kernel_rfl) (fun _ => rfl) (fun _ => by kernel_rfl) (fun _ => rfl) (fun _ => rfl) (fun _ => rfl) laws_markExpForm.ordsOK (fun j hj => ctsOK (l := laws_markExpForm.cts j) ⟨(laws_markIntS.holds j), (laws_markExpFormS.holds j), trivial⟩) (laws_markExpForm.good k) (laws_markExpForm.eq k) (Nat.le_of_ble_eq_true (by kernel_rfl)) (by kernel_rfl) (by kernel_rfl) (by kernel_rfl) (fun h => by cases h)
def laws_heldIntS.p_l2 : Pat := ⟨[(0, .one (.val (.sl 3 (.int .i64)))), (1, .one (.val (.int .i64))), (5, .one (.val (.int .i64)))], []⟩
def laws_heldIntS.c_l2 : Cut sg (HL sg.S [(.int .i64)]) := ⟨laws_heldIntS.p_l2, [(.sl 3 (.int .i64)), (.int .i64), (.int .i64)], fun k h => laws_heldIntS.l2 k h.1 h.2.1 h.2.2⟩
def laws_heldIntS.ct (k : Nat) : Ct sg := ⟨true, ⟨[(0, .one (.val (.sl 3 (.int .i64)))), (1, .one (.val (.int .i64)))], []⟩, ⟨[(0, .one (.val (.int .i64)))], []⟩, [(.sl 3 (.int .i64)), (.int .i64)], [(.int .i64)], fun h => laws_heldIntS.f k h.1 h.2⟩
def laws_heldIntS.cts (k : Nat) : List (Nat × Ct sg) := []
def laws_heldIntS.env (k : Nat) : Env sg (HL sg.S [(.int .i64)]) := ⟨21, [], k, get (laws_heldIntS.cts k), [(2, laws_heldIntS.c_l2)], [], [], []⟩
theorem laws_heldIntS.eq (k : Nat) (h : HL sg.S (laws_heldIntS.ct k).its) : (laws_heldIntS.ct k).F h = semF (laws_heldIntS.ct k) (laws_heldIntS.env k) Tryd.f39 (bodyOf Tryd.f39) h := by kernel_rfl
noncomputable def laws_heldIntS.pts (m : Nat) := used laws_heldIntS.env (ptsOf laws_heldIntS.env (bodyOf Tryd.f39) (fun _ => retK Tryd.f39 (laws_heldIntS.ct m)))
theorem laws_heldIntS.n (m : Nat) : len (laws_heldIntS.pts m) = 1 := by kernel_rfl
theorem laws_heldIntS.g0 (m : Nat) : AtGood laws_heldIntS.env (nth (laws_heldIntS.pts m) 0) := loopGood laws_heldIntS.c_l2 (by kernel_rfl) (by kernel_rfl) (fun _ => rfl) (fun k h => by kernel_rfl)
theorem laws_heldIntS.good (m : Nat) : AllGood laws_heldIntS.env (ptsOf laws_heldIntS.env (bodyOf Tryd.f39) (fun _ => retK Tryd.f39 (laws_heldIntS.ct m))) := allGood 1 (laws_heldIntS.n m) (fun i hi => match i with | 0 => laws_heldIntS.g0 m | i + 1 => absurd hi (by omega))
theorem laws_heldIntS.ordsOK : ordsB sg (laws_heldIntS.env 0).ords (bodyOf Tryd.f39) = true := by kernel_rfl
theorem laws_heldIntS.holds (k : Nat) : (laws_heldIntS.ct k).Holds Tryd.prog 39 :=
  fn_ok (fn := Tryd.f39) (body := (bodyOf Tryd.f39)) sg.ok sg.tab sg.mixed (by kernel_rfl) (by kernel_rfl) (by kernel_rfl) (laws_heldIntS.ct k) laws_heldIntS.env k (fun _ => by kernel_rfl) (fun _ => rfl) (fun _ => by kernel_rfl) (fun _ => rfl) (fun _ => rfl) (fun _ => rfl) laws_heldIntS.ordsOK (fun j hj => ctsOK (l := laws_heldIntS.cts j) trivial) (laws_heldIntS.good k) (laws_heldIntS.eq k) (Nat.le_of_ble_eq_true (by kernel_rfl)) (by kernel_rfl) (by kernel_rfl) (by kernel_rfl) (fun _ => by kernel_rfl)
def laws_heldExpFormS.p_d7 : Pat := ⟨[(0, .one (.val (.sl 29 (.st 0)))), (1, .one (.val (.int .i64))), (5, .one (.val (.int .i64)))], []⟩
def laws_heldExpFormS.c_d7 : Cut sg (HL sg.S [(.int .i64)]) := ⟨laws_heldExpFormS.p_d7, [(.sl 29 (.st 0)), (.int .i64), (.int .i64)], fun k h => laws_heldExpFormS.d7 k h.1 h.2.1 h.2.2⟩
def laws_heldExpFormS.p_l2 : Pat := ⟨[(0, .one (.val (.sl 29 (.st 0)))), (1, .one (.val (.int .i64))), (5, .one (.val (.int .i64)))], []⟩
def laws_heldExpFormS.c_l2 : Cut sg (HL sg.S [(.int .i64)]) := ⟨laws_heldExpFormS.p_l2, [(.sl 29 (.st 0)), (.int .i64), (.int .i64)], fun k h => laws_heldExpFormS.l2 k h.1 h.2.1 h.2.2⟩
def laws_heldExpFormS.ct (k : Nat) : Ct sg := ⟨true, ⟨[(0, .one (.val (.sl 29 (.st 0)))), (1, .one (.val (.int .i64)))], []⟩, ⟨[(0, .one (.val (.int .i64)))], []⟩, [(.sl 29 (.st 0)), (.int .i64)], [(.int .i64)], fun h => laws_heldExpFormS.f k h.1 h.2⟩
def laws_heldExpFormS.cts (k : Nat) : List (Nat × Ct sg) := [(39, laws_heldIntS.ct k), (40, laws_heldExpFormS.ct k), (70, laws_markText.ct k)]
def laws_heldExpFormS.env (k : Nat) : Env sg (HL sg.S [(.int .i64)]) := ⟨59, [], k, get (laws_heldExpFormS.cts k), [(2, laws_heldExpFormS.c_l2)], [(100007, laws_heldExpFormS.c_d7)], [(7, [[0, 1, 2, 3, 5, 4, 6, 7], [0, 1, 2, 3, 5, 6, 4, 7]])], []⟩
theorem laws_heldExpFormS.eq (k : Nat) (h : HL sg.S (laws_heldExpFormS.ct (k + 1)).its) : (laws_heldExpFormS.ct (k + 1)).F h = semF (laws_heldExpFormS.ct (k + 1)) (laws_heldExpFormS.env k) Tryd.f40 (bodyOf Tryd.f40) h := by kernel_rfl
noncomputable def laws_heldExpFormS.pts (m : Nat) := used laws_heldExpFormS.env (ptsOf laws_heldExpFormS.env (bodyOf Tryd.f40) (fun _ => retK Tryd.f40 (laws_heldExpFormS.ct m)))
theorem laws_heldExpFormS.n (m : Nat) : len (laws_heldExpFormS.pts m) = 3 := by kernel_rfl
theorem laws_heldExpFormS.g0 (m : Nat) : AtGood laws_heldExpFormS.env (nth (laws_heldExpFormS.pts m) 0) := loopGood laws_heldExpFormS.c_l2 (by kernel_rfl) (by kernel_rfl) (fun _ => rfl) (fun k h => by kernel_rfl)
theorem laws_heldExpFormS.g1 (m : Nat) : AtGood laws_heldExpFormS.env (nth (laws_heldExpFormS.pts m) 1) := joinGood laws_heldExpFormS.c_d7 (by kernel_rfl) (by kernel_rfl) (fun k h => by kernel_rfl)
theorem laws_heldExpFormS.g2 (m : Nat) : AtGood laws_heldExpFormS.env (nth (laws_heldExpFormS.pts m) 2) := joinGood laws_heldExpFormS.c_d7 (by kernel_rfl) (by kernel_rfl) (fun k h => by kernel_rfl)
theorem laws_heldExpFormS.good (m : Nat) : AllGood laws_heldExpFormS.env (ptsOf laws_heldExpFormS.env (bodyOf Tryd.f40) (fun _ => retK Tryd.f40 (laws_heldExpFormS.ct m))) := allGood 3 (laws_heldExpFormS.n m) (fun i hi => match i with | 0 => laws_heldExpFormS.g0 m | 1 => laws_heldExpFormS.g1 m | 2 => laws_heldExpFormS.g2 m | i + 3 => absurd hi (by omega))
theorem laws_heldExpFormS.ordsOK : ordsB sg (laws_heldExpFormS.env 0).ords (bodyOf Tryd.f40) = true := by kernel_rfl
theorem laws_heldExpFormS.all (k : Nat) : (laws_heldExpFormS.ct k).Holds Tryd.prog 40 := by
  induction k using Nat.strongRecOn with
  | _ k ih => cases k with
    | zero => exact ⟨by kernel_rfl, by kernel_rfl, (fun _ => by kernel_rfl), fun _ _ _ _ _ _ _ h => absurd (show none = some _ from h) (by intro e; cases e)⟩
    | succ k => exact fn_ok (fn := Tryd.f40) (body := (bodyOf Tryd.f40)) sg.ok sg.tab sg.mixed (by kernel_rfl) (by kernel_rfl) (by kernel_rfl) (laws_heldExpFormS.ct (k + 1)) laws_heldExpFormS.env k (fun _ => by kernel_rfl) (fun _ => rfl) (fun _ => by kernel_rfl) (fun _ => rfl) (fun _ => rfl) (fun _ => rfl) laws_heldExpFormS.ordsOK (fun j hj => ctsOK (l := laws_heldExpFormS.cts j) ⟨(laws_heldIntS.holds j), (ih j (by omega)), (laws_markText.holds j), trivial⟩) (laws_heldExpFormS.good (k + 1)) (laws_heldExpFormS.eq k) (Nat.le_of_ble_eq_true (by kernel_rfl)) (by kernel_rfl) (by kernel_rfl) (by kernel_rfl) (fun _ => by kernel_rfl)
theorem laws_heldExpFormS.holds (k : Nat) : (laws_heldExpFormS.ct k).Holds Tryd.prog 40 := (laws_heldExpFormS.all k)
def laws_heldExpForm.ct (k : Nat) : Ct sg := ⟨true, ⟨[(0, .st 0), (1, .one (.val (.int .i64)))], []⟩, ⟨[(0, .one (.val (.int .i64)))], []⟩, [(.st 0), (.int .i64)], [(.int .i64)], fun h => laws_heldExpForm.f k h.1 h.2⟩
def laws_heldExpForm.cts (k : Nat) : List (Nat × Ct sg) := [(39, laws_heldIntS.ct k), (40, laws_heldExpFormS.ct k)]
def laws_heldExpForm.env (k : Nat) : Env sg (HL sg.S [(.int .i64)]) := ⟨18, [], k, get (laws_heldExpForm.cts k), [], [], [], []⟩
theorem laws_heldExpForm.eq (k : Nat) (h : HL sg.S (laws_heldExpForm.ct k).its) : (laws_heldExpForm.ct k).F h = semF (laws_heldExpForm.ct k) (laws_heldExpForm.env k) Tryd.f14 (bodyOf Tryd.f14) h := by kernel_rfl
noncomputable def laws_heldExpForm.pts (m : Nat) := used laws_heldExpForm.env (ptsOf laws_heldExpForm.env (bodyOf Tryd.f14) (fun _ => retK Tryd.f14 (laws_heldExpForm.ct m)))
theorem laws_heldExpForm.n (m : Nat) : len (laws_heldExpForm.pts m) = 0 := by kernel_rfl
theorem laws_heldExpForm.good (m : Nat) : AllGood laws_heldExpForm.env (ptsOf laws_heldExpForm.env (bodyOf Tryd.f14) (fun _ => retK Tryd.f14 (laws_heldExpForm.ct m))) := allGood 0 (laws_heldExpForm.n m) (fun i hi => match i with | i + 0 => absurd hi (by omega))
theorem laws_heldExpForm.ordsOK : ordsB sg (laws_heldExpForm.env 0).ords (bodyOf Tryd.f14) = true := by kernel_rfl
theorem laws_heldExpForm.holds (k : Nat) : (laws_heldExpForm.ct k).Holds Tryd.prog 14 :=
  fn_ok (fn := Tryd.f14) (body := (bodyOf Tryd.f14)) sg.ok sg.tab sg.mixed (by kernel_rfl) (by kernel_rfl) (by kernel_rfl) (laws_heldExpForm.ct k) laws_heldExpForm.env k (fun _ => by kernel_rfl) (fun _ => rfl) (fun _ => by kernel_rfl) (fun _ => rfl) (fun _ => rfl) (fun _ => rfl) laws_heldExpForm.ordsOK (fun j hj => ctsOK (l := laws_heldExpForm.cts j) ⟨(laws_heldIntS.holds j), (laws_heldExpFormS.holds j), trivial⟩) (laws_heldExpForm.good k) (laws_heldExpForm.eq k) (Nat.le_of_ble_eq_true (by kernel_rfl)) (by kernel_rfl) (by kernel_rfl) (by kernel_rfl) (fun _ => by kernel_rfl)
def laws_FnExactExpFlip.p_d10 : Pat := ⟨[(1, .one (.val (.int .i64))), (2, .one (.ptr 0 0)), (6, .one (.ptr 1 0)), (7, .one (.ptr 2 0)), (8, .one (.ptr 3 0))], [.cells [] [.val (.int .i64), .val .str, .val (.sl 3 (.int .i64)), .val (.int .i64), .val (.sl 25 (.st 1))], .cells [] [.val (.int .i64), .val .str, .val (.sl 3 (.int .i64)), .val (.int .i64), .val (.sl 29 (.st 0))], .cells [] [.val (.int .i64), .val .str, .warr 4, .val (.int .i64), .warr 5], .cells [] [.val (.int .i64), .val .str, .warr 6, .val (.int .i64), .warr 7], .arr 3 (.int .i64), .ow false true 29 (.st 0), .arr 3 (.int .i64), .ow false true 29 (.st 0)]⟩
def laws_FnExactExpFlip.c_d10 : Cut sg (HL sg.S [.bool]) := ⟨laws_FnExactExpFlip.p_d10, [(.int .i64), (.int .i64), .str, (.sl 3 (.int .i64)), (.int .i64), (.sl 25 (.st 1)), (.int .i64), .str, (.sl 3 (.int .i64)), (.int .i64), (.sl 29 (.st 0)), (.int .i64), .str, (.int .i64), (.int .i64), .str, (.int .i64), (.sl 3 (.int .i64)), (.sl 29 (.st 0)), (.sl 3 (.int .i64)), (.sl 29 (.st 0))], fun k h => laws_FnExactExpFlip.d10 k h.1 h.2.1 h.2.2.1 h.2.2.2.1 h.2.2.2.2.1 h.2.2.2.2.2.1 h.2.2.2.2.2.2.1 h.2.2.2.2.2.2.2.1 h.2.2.2.2.2.2.2.2.1 h.2.2.2.2.2.2.2.2.2.1 h.2.2.2.2.2.2.2.2.2.2.1 h.2.2.2.2.2.2.2.2.2.2.2.1 h.2.2.2.2.2.2.2.2.2.2.2.2.1 h.2.2.2.2.2.2.2.2.2.2.2.2.2.1 h.2.2.2.2.2.2.2.2.2.2.2.2.2.2.1 h.2.2.2.2.2.2.2.2.2.2.2.2.2.2.2.1 h.2.2.2.2.2.2.2.2.2.2.2.2.2.2.2.2.1 h.2.2.2.2.2.2.2.2.2.2.2.2.2.2.2.2.2.1 h.2.2.2.2.2.2.2.2.2.2.2.2.2.2.2.2.2.2.1 h.2.2.2.2.2.2.2.2.2.2.2.2.2.2.2.2.2.2.2.1 h.2.2.2.2.2.2.2.2.2.2.2.2.2.2.2.2.2.2.2.2⟩
def laws_FnExactExpFlip.p_j16 : Pat := ⟨[(1, .one (.val (.int .i64))), (2, .one (.ptr 0 0)), (6, .one (.ptr 1 0)), (8, .one (.ptr 2 0))], [.cells [] [.val (.int .i64), .val .str, .val (.sl 3 (.int .i64)), .val (.int .i64), .val (.sl 25 (.st 1))], .cells [] [.val (.int .i64), .val .str, .val (.sl 3 (.int .i64)), .val (.int .i64), .val (.sl 29 (.st 0))], .cells [] [.val (.int .i64), .val .str, .warr 3, .val (.int .i64), .warr 4], .arr 3 (.int .i64), .ow false true 29 (.st 0)]⟩
def laws_FnExactExpFlip.c_j16 : Cut sg (HL sg.S [.bool]) := ⟨laws_FnExactExpFlip.p_j16, [(.int .i64), (.int .i64), .str, (.sl 3 (.int .i64)), (.int .i64), (.sl 25 (.st 1)), (.int .i64), .str, (.sl 3 (.int .i64)), (.int .i64), (.sl 29 (.st 0)), (.int .i64), .str, (.int .i64), (.sl 3 (.int .i64)), (.sl 29 (.st 0))], fun k h => laws_FnExactExpFlip.j16 k h.1 h.2.1 h.2.2.1 h.2.2.2.1 h.2.2.2.2.1 h.2.2.2.2.2.1 h.2.2.2.2.2.2.1 h.2.2.2.2.2.2.2.1 h.2.2.2.2.2.2.2.2.1 h.2.2.2.2.2.2.2.2.2.1 h.2.2.2.2.2.2.2.2.2.2.1 h.2.2.2.2.2.2.2.2.2.2.2.1 h.2.2.2.2.2.2.2.2.2.2.2.2.1 h.2.2.2.2.2.2.2.2.2.2.2.2.2.1 h.2.2.2.2.2.2.2.2.2.2.2.2.2.2.1 h.2.2.2.2.2.2.2.2.2.2.2.2.2.2.2⟩
def laws_FnExactExpFlip.ct (k : Nat) : Ct sg := ⟨true, ⟨[(0, .st 1), (1, .one (.val (.int .i64)))], []⟩, ⟨[(0, .one (.val .bool))], []⟩, [(.st 1), (.int .i64)], [.bool], fun h => laws_FnExactExpFlip.f k h.1 h.2⟩
def laws_FnExactExpFlip.cts (k : Nat) : List (Nat × Ct sg) := [(8, laws_szExpForm.ct k), (10, laws_toExpForm.ct k), (12, laws_eqExpForm.ct k), (13, laws_markExpForm.ct k), (14, laws_heldExpForm.ct k), (20, spec_ExpFlip.ct k), (21, impl_ExpFlip.ct k)]
def laws_FnExactExpFlip.env (k : Nat) : Env sg (HL sg.S [.bool]) := ⟨74, [], k, get (laws_FnExactExpFlip.cts k), [], [(100010, laws_FnExactExpFlip.c_d10), (16, laws_FnExactExpFlip.c_j16)], [(10, [[1, 0, 2, 3, 4], [1, 2, 0, 3, 4]])], []⟩
theorem laws_FnExactExpFlip.eq (k : Nat) (h : HL sg.S (laws_FnExactExpFlip.ct k).its) : (laws_FnExactExpFlip.ct k).F h = semF (laws_FnExactExpFlip.ct k) (laws_FnExactExpFlip.env k) Tryd.f5 (bodyOf Tryd.f5) h := by kernel_rfl
noncomputable def laws_FnExactExpFlip.pts (m : Nat) := used laws_FnExactExpFlip.env (ptsOf laws_FnExactExpFlip.env (bodyOf Tryd.f5) (fun _ => retK Tryd.f5 (laws_FnExactExpFlip.ct m)))
theorem laws_FnExactExpFlip.n (m : Nat) : len (laws_FnExactExpFlip.pts m) = 3 := by kernel_rfl
theorem laws_FnExactExpFlip.g0 (m : Nat) : AtGood laws_FnExactExpFlip.env (nth (laws_FnExactExpFlip.pts m) 0) := joinGood laws_FnExactExpFlip.c_d10 (by kernel_rfl) (by kernel_rfl) (fun k h => by kernel_rfl)
theorem laws_FnExactExpFlip.g1 (m : Nat) : AtGood laws_FnExactExpFlip.env (nth (laws_FnExactExpFlip.pts m) 1) := joinGood laws_FnExactExpFlip.c_d10 (by kernel_rfl) (by kernel_rfl) (fun k h => by kernel_rfl)
theorem laws_FnExactExpFlip.g2 (m : Nat) : AtGood laws_FnExactExpFlip.env (nth (laws_FnExactExpFlip.pts m) 2) := joinGood laws_FnExactExpFlip.c_j16 (by kernel_rfl) (by kernel_rfl) (fun k h => by kernel_rfl)
theorem laws_FnExactExpFlip.good (m : Nat) : AllGood laws_FnExactExpFlip.env (ptsOf laws_FnExactExpFlip.env (bodyOf Tryd.f5) (fun _ => retK Tryd.f5 (laws_FnExactExpFlip.ct m))) := allGood 3 (laws_FnExactExpFlip.n m) (fun i hi => match i with | 0 => laws_FnExactExpFlip.g0 m | 1 => laws_FnExactExpFlip.g1 m | 2 => laws_FnExactExpFlip.g2 m | i + 3 => absurd hi (by omega))
theorem laws_FnExactExpFlip.ordsOK : ordsB sg (laws_FnExactExpFlip.env 0).ords (bodyOf Tryd.f5) = true := by kernel_rfl
theorem laws_FnExactExpFlip.holds (k : Nat) : (laws_FnExactExpFlip.ct k).Holds Tryd.prog 5 :=
  fn_ok (fn := Tryd.f5) (body := (bodyOf Tryd.f5)) sg.ok sg.tab sg.mixed (by kernel_rfl) (by kernel_rfl) (by kernel_rfl) (laws_FnExactExpFlip.ct k) laws_FnExactExpFlip.env k (fun _ => by kernel_rfl) (fun _ => rfl) (fun _ => by kernel_rfl) (fun _ => rfl) (fun _ => rfl) (fun _ => rfl) laws_FnExactExpFlip.ordsOK (fun j hj => ctsOK (l := laws_FnExactExpFlip.cts j) ⟨(laws_szExpForm.holds j), (laws_toExpForm.holds j), (laws_eqExpForm.holds j), (laws_markExpForm.holds j), (laws_heldExpForm.holds j), (spec_ExpFlip.holds j), (impl_ExpFlip.holds j), trivial⟩) (laws_FnExactExpFlip.good k) (laws_FnExactExpFlip.eq k) (Nat.le_of_ble_eq_true (by kernel_rfl)) (by kernel_rfl) (by kernel_rfl) (by kernel_rfl) (fun _ => by kernel_rfl)
end Go.Proofs.YtmcbhnbemhfifaaDoor.RX
