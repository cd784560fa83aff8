/- MADE BY PROGRAM (gen.py) -/
import Derived.Test.YtmcbhnbemhfifaaDoorPoRxLib
import Derived.Test.YtmcbhnbemhfifaaDoorPoRxPz
namespace Go.Proofs.YtmcbhnbemhfifaaDoor.RX
open Go Go.RowKit
set_option autoImplicit false
def laws_szIntS.ct (k : Nat) : Ct sg := ⟨true, ⟨[(0, .one (.val (.sl 3 (.int .i64)))), (1, .one (.val (.int .i64)))], []⟩, ⟨[(0, .one (.val (.int .i64)))], []⟩, [(.sl 3 (.int .i64)), (.int .i64)], [(.int .i64)], fun h => laws_szIntS.f k h.1 h.2⟩
def laws_szIntS.cts (k : Nat) : List (Nat × Ct sg) := []
def laws_szIntS.env (k : Nat) : Env sg (HL sg.S [(.int .i64)]) := ⟨12, [], k, get (laws_szIntS.cts k), [], [], [], []⟩
theorem laws_szIntS.eq (k : Nat) (h : HL sg.S (laws_szIntS.ct k).its) : (laws_szIntS.ct k).F h = semF (laws_szIntS.ct k) (laws_szIntS.env k) Tryd.f32 (bodyOf Tryd.f32) h := by kernel_rfl
noncomputable def laws_szIntS.pts (m : Nat) := used laws_szIntS.env (ptsOf laws_szIntS.env (bodyOf Tryd.f32) (fun _ => retK Tryd.f32 (laws_szIntS.ct m)))
theorem laws_szIntS.n (m : Nat) : len (laws_szIntS.pts m) = 0 := by kernel_rfl
theorem laws_szIntS.good (m : Nat) : AllGood laws_szIntS.env (ptsOf laws_szIntS.env (bodyOf Tryd.f32) (fun _ => retK Tryd.f32 (laws_szIntS.ct m))) := allGood 0 (laws_szIntS.n m) (fun i hi => match i with | i + 0 => absurd hi (by omega))
theorem laws_szIntS.ordsOK : ordsB sg (laws_szIntS.env 0).ords (bodyOf Tryd.f32) = true := by kernel_rfl
theorem laws_szIntS.holds (k : Nat) : (laws_szIntS.ct k).Holds Tryd.prog 32 :=
  fn_ok (fn := Tryd.f32) (body := (bodyOf Tryd.f32)) sg.ok sg.tab sg.mixed (by kernel_rfl) (by kernel_rfl) (by kernel_rfl) (laws_szIntS.ct k) laws_szIntS.env k (fun _ => by kernel_rfl) (fun _ => rfl) (fun _ => by kernel_rfl) (fun _ => rfl) (fun _ => rfl) (fun _ => rfl) laws_szIntS.ordsOK (fun j hj => ctsOK (l := laws_szIntS.cts j) trivial) (laws_szIntS.good k) (laws_szIntS.eq k) (Nat.le_of_ble_eq_true (by kernel_rfl)) (by kernel_rfl) (by kernel_rfl) (by kernel_rfl) (fun _ => by kernel_rfl)
def laws_szExpForm.ct (k : Nat) : Ct sg := ⟨true, ⟨[(0, .st 0), (1, .one (.val (.int .i64)))], []⟩, ⟨[(0, .one (.val (.int .i64)))], []⟩, [(.st 0), (.int .i64)], [(.int .i64)], fun h => laws_szExpForm.f k h.1 h.2⟩
def laws_szExpFormS.p_l5 : Pat := ⟨[(0, .one (.val (.sl 25 (.st 0)))), (1, .one (.val (.int .i64))), (5, .one (.val (.int .i64)))], []⟩
def laws_szExpFormS.c_l5 : Cut sg (HL sg.S [(.int .i64)]) := ⟨laws_szExpFormS.p_l5, [(.sl 25 (.st 0)), (.int .i64), (.int .i64)], fun k h => laws_szExpFormS.l5 k h.1 h.2.1 h.2.2⟩
def laws_szExpFormS.ct (k : Nat) : Ct sg := ⟨true, ⟨[(0, .one (.val (.sl 25 (.st 0)))), (1, .one (.val (.int .i64)))], []⟩, ⟨[(0, .one (.val (.int .i64)))], []⟩, [(.sl 25 (.st 0)), (.int .i64)], [(.int .i64)], fun h => laws_szExpFormS.f k h.1 h.2⟩
def laws_szExpForm.cts (k : Nat) : List (Nat × Ct sg) := [(15, laws_szExpFormS.ct k), (32, laws_szIntS.ct k)]
def laws_szExpForm.env (k : Nat) : Env sg (HL sg.S [(.int .i64)]) := ⟨25, [], k, get (laws_szExpForm.cts k), [], [], [], []⟩
theorem laws_szExpForm.eq (k : Nat) (h : HL sg.S (laws_szExpForm.ct (k + 1)).its) : (laws_szExpForm.ct (k + 1)).F h = semF (laws_szExpForm.ct (k + 1)) (laws_szExpForm.env k) Tryd.f8 (bodyOf Tryd.f8) h := by kernel_rfl
noncomputable def laws_szExpForm.pts (m : Nat) := used laws_szExpForm.env (ptsOf laws_szExpForm.env (bodyOf Tryd.f8) (fun _ => retK Tryd.f8 (laws_szExpForm.ct m)))
theorem laws_szExpForm.n (m : Nat) : len (laws_szExpForm.pts m) = 0 := by kernel_rfl
theorem laws_szExpForm.good (m : Nat) : AllGood laws_szExpForm.env (ptsOf laws_szExpForm.env (bodyOf Tryd.f8) (fun _ => retK Tryd.f8 (laws_szExpForm.ct m))) := allGood 0 (laws_szExpForm.n m) (fun i hi => match i with | i + 0 => absurd hi (by omega))
theorem laws_szExpForm.ordsOK : ordsB sg (laws_szExpForm.env 0).ords (bodyOf Tryd.f8) = true := by kernel_rfl
def laws_szExpFormS.cts (k : Nat) : List (Nat × Ct sg) := [(8, laws_szExpForm.ct k)]
def laws_szExpFormS.env (k : Nat) : Env sg (HL sg.S [(.int .i64)]) := ⟨27, [], k, get (laws_szExpFormS.cts k), [(5, laws_szExpFormS.c_l5)], [], [], []⟩
theorem laws_szExpFormS.eq (k : Nat) (h : HL sg.S (laws_szExpFormS.ct (k + 1)).its) : (laws_szExpFormS.ct (k + 1)).F h = semF (laws_szExpFormS.ct (k + 1)) (laws_szExpFormS.env k) Tryd.f15 (bodyOf Tryd.f15) h := by kernel_rfl
noncomputable def laws_szExpFormS.pts (m : Nat) := used laws_szExpFormS.env (ptsOf laws_szExpFormS.env (bodyOf Tryd.f15) (fun _ => retK Tryd.f15 (laws_szExpFormS.ct m)))
theorem laws_szExpFormS.n (m : Nat) : len (laws_szExpFormS.pts m) = 1 := by kernel_rfl
theorem laws_szExpFormS.g0 (m : Nat) : AtGood laws_szExpFormS.env (nth (laws_szExpFormS.pts m) 0) := loopGood laws_szExpFormS.c_l5 (by kernel_rfl) (by kernel_rfl) (fun _ => rfl) (fun k h => by kernel_rfl)
theorem laws_szExpFormS.good (m : Nat) : AllGood laws_szExpFormS.env (ptsOf laws_szExpFormS.env (bodyOf Tryd.f15) (fun _ => retK Tryd.f15 (laws_szExpFormS.ct m))) := allGood 1 (laws_szExpFormS.n m) (fun i hi => match i with | 0 => laws_szExpFormS.g0 m | i + 1 => absurd hi (by omega))
theorem laws_szExpFormS.ordsOK : ordsB sg (laws_szExpFormS.env 0).ords (bodyOf Tryd.f15) = true := by kernel_rfl
theorem laws_szExpForm.all (k : Nat) : (laws_szExpForm.ct k).Holds Tryd.prog 8 ∧ (laws_szExpFormS.ct k).Holds Tryd.prog 15 := by
  induction k using Nat.strongRecOn with
  | _ k ih => cases k with
    | zero => exact ⟨⟨by kernel_rfl, by kernel_rfl, (fun _ => by kernel_rfl), fun _ _ _ _ _ _ _ h => absurd (show none = some _ from h) (by intro e; cases e)⟩, ⟨by kernel_rfl, by kernel_rfl, (fun _ => by kernel_rfl), fun _ _ _ _ _ _ _ h => absurd (show none = some _ from h) (by intro e; cases e)⟩⟩
    | succ k => exact ⟨fn_ok (fn := Tryd.f8) (body := (bodyOf Tryd.f8)) sg.ok sg.tab sg.mixed (by kernel_rfl) (by kernel_rfl) (by kernel_rfl) (laws_szExpForm.ct (k + 1)) laws_szExpForm.env k (fun _ => by kernel_rfl) (fun _ => rfl) (fun _ => by kernel_rfl) (fun _ => rfl) (fun _ => rfl) (fun _ => rfl) laws_szExpForm.ordsOK (fun j hj => ctsOK (l := laws_szExpForm.cts j) ⟨(ih j (by omega)).2, (laws_szIntS.holds j), trivial⟩) (laws_szExpForm.good (k + 1)) (laws_szExpForm.eq k) (Nat.le_of_ble_eq_true (by kernel_rfl)) (by kernel_rfl) (by kernel_rfl) (by kernel_rfl) (fun _ => by kernel_rfl), fn_ok (fn := Tryd.f15) (body := (bodyOf Tryd.f15)) sg.ok sg.tab sg.mixed (by kernel_rfl) (by kernel_rfl) (by kernel_rfl) (laws_szExpFormS.ct (k + 1)) laws_szExpFormS.env k (fun _ => by kernel_rfl) (fun _ => rfl) (fun _ => by kernel_rfl) (fun _ => rfl) (fun _ => rfl) (fun _ => rfl) laws_szExpFormS.ordsOK (fun j hj => ctsOK (l := laws_szExpFormS.cts j) ⟨(ih j (by omega)).1, trivial⟩) (laws_szExpFormS.good (k + 1)) (laws_szExpFormS.eq k) (Nat.le_of_ble_eq_true (by kernel_rfl)) (by kernel_rfl) (by kernel_rfl) (by kernel_rfl) (fun _ => by kernel_rfl)⟩
theorem laws_szExpForm.holds (k : Nat) : (laws_szExpForm.ct k).Holds Tryd.prog 8 := (laws_szExpForm.all k).1
theorem laws_szExpFormS.holds (k : Nat) : (laws_szExpFormS.ct k).Holds Tryd.prog 15 := (laws_szExpForm.all k).2
def laws_toIntS.p_l3 : Pat := ⟨[(0, .one (.val (.sl 3 (.int .i64)))), (3, .one (.arr 0)), (4, .one (.val (.int .i64)))], [.arr 3 (.int .i64)]⟩
def laws_toIntS.c_l3 : Cut sg (HL sg.S [(.sl 3 (.int .i64))]) := ⟨laws_toIntS.p_l3, [(.sl 3 (.int .i64)), (.int .i64), (.sl 3 (.int .i64))], fun k h => laws_toIntS.l3 k h.1 h.2.1 h.2.2⟩
def laws_toIntS.ct (k : Nat) : Ct sg := ⟨false, ⟨[(0, .one (.val (.sl 3 (.int .i64))))], []⟩, ⟨[(0, .one (.arr 0))], [.arr 3 (.int .i64)]⟩, [(.sl 3 (.int .i64))], [(.sl 3 (.int .i64))], fun h => laws_toIntS.f k h⟩
def laws_toIntS.cts (k : Nat) : List (Nat × Ct sg) := []
def laws_toIntS.env (k : Nat) : Env sg (HL sg.S [(.sl 3 (.int .i64))]) := ⟨22, [], k, get (laws_toIntS.cts k), [(3, laws_toIntS.c_l3)], [], [], []⟩
theorem laws_toIntS.eq (k : Nat) (h : HL sg.S (laws_toIntS.ct k).its) : (laws_toIntS.ct k).F h = semF (laws_toIntS.ct k) (laws_toIntS.env k) Tryd.f34 (bodyOf Tryd.f34) h := by kernel_rfl
noncomputable def laws_toIntS.pts (m : Nat) := used laws_toIntS.env (ptsOf laws_toIntS.env (bodyOf Tryd.f34) (fun _ => retK Tryd.f34 (laws_toIntS.ct m)))
theorem laws_toIntS.n (m : Nat) : len (laws_toIntS.pts m) = 1 := by kernel_rfl
theorem laws_toIntS.g0 (m : Nat) : AtGood laws_toIntS.env (nth (laws_toIntS.pts m) 0) := loopGood laws_toIntS.c_l3 (by kernel_rfl) (by kernel_rfl) (fun _ => rfl) (fun k h => by kernel_rfl)
theorem laws_toIntS.good (m : Nat) : AllGood laws_toIntS.env (ptsOf laws_toIntS.env (bodyOf Tryd.f34) (fun _ => retK Tryd.f34 (laws_toIntS.ct m))) := allGood 1 (laws_toIntS.n m) (fun i hi => match i with | 0 => laws_toIntS.g0 m | i + 1 => absurd hi (by omega))
theorem laws_toIntS.ordsOK : ordsB sg (laws_toIntS.env 0).ords (bodyOf Tryd.f34) = true := by kernel_rfl
theorem laws_toIntS.holds (k : Nat) : (laws_toIntS.ct k).Holds Tryd.prog 34 :=
  fn_ok (fn := Tryd.f34) (body := (bodyOf Tryd.f34)) sg.ok sg.tab sg.mixed (by kernel_rfl) (by kernel_rfl) (by kernel_rfl) (laws_toIntS.ct k) laws_toIntS.env k (fun _ => by kernel_rfl) (fun _ => rfl) (fun _ => by kernel_rfl) (fun _ => rfl) (fun _ => rfl) (fun _ => rfl) laws_toIntS.ordsOK (fun j hj => ctsOK (l := laws_toIntS.cts j) trivial) (laws_toIntS.good k) (laws_toIntS.eq k) (Nat.le_of_ble_eq_true (by kernel_rfl)) (by kernel_rfl) (by kernel_rfl) (by kernel_rfl) (fun h => by cases h)
def laws_toExpForm.ct (k : Nat) : Ct sg := ⟨false, ⟨[(0, .st 0)], []⟩, ⟨[(0, .st 1)], []⟩, [(.st 0)], [(.st 1)], fun h => laws_toExpForm.f k h⟩
def laws_toExpFormS.p_l3 : Pat := ⟨[(0, .one (.val (.sl 25 (.st 0)))), (3, .one (.arr 0)), (4, .one (.val (.int .i64)))], [.arr 29 (.st 1)]⟩
def laws_toExpFormS.c_l3 : Cut sg (HL sg.S [(.sl 29 (.st 1))]) := ⟨laws_toExpFormS.p_l3, [(.sl 25 (.st 0)), (.int .i64), (.sl 29 (.st 1))], fun k h => laws_toExpFormS.l3 k h.1 h.2.1 h.2.2⟩
def laws_toExpFormS.ct (k : Nat) : Ct sg := ⟨false, ⟨[(0, .one (.val (.sl 25 (.st 0))))], []⟩, ⟨[(0, .one (.arr 0))], [.arr 29 (.st 1)]⟩, [(.sl 25 (.st 0))], [(.sl 29 (.st 1))], fun h => laws_toExpFormS.f k h⟩
def laws_toExpForm.cts (k : Nat) : List (Nat × Ct sg) := [(17, laws_toExpFormS.ct k), (34, laws_toIntS.ct k)]
def laws_toExpForm.env (k : Nat) : Env sg (HL sg.S [(.st 1)]) := ⟨22, [], k, get (laws_toExpForm.cts k), [], [], [], []⟩
theorem laws_toExpForm.eq (k : Nat) (h : HL sg.S (laws_toExpForm.ct (k + 1)).its) : (laws_toExpForm.ct (k + 1)).F h = semF (laws_toExpForm.ct (k + 1)) (laws_toExpForm.env k) Tryd.f10 (bodyOf Tryd.f10) h := by kernel_rfl
noncomputable def laws_toExpForm.pts (m : Nat) := used laws_toExpForm.env (ptsOf laws_toExpForm.env (bodyOf Tryd.f10) (fun _ => retK Tryd.f10 (laws_toExpForm.ct m)))
theorem laws_toExpForm.n (m : Nat) : len (laws_toExpForm.pts m) = 0 := by kernel_rfl
theorem laws_toExpForm.good (m : Nat) : AllGood laws_toExpForm.env (ptsOf laws_toExpForm.env (bodyOf Tryd.f10) (fun _ => retK Tryd.f10 (laws_toExpForm.ct m))) := allGood 0 (laws_toExpForm.n m) (fun i hi => match i with | i + 0 => absurd hi (by omega))
theorem laws_toExpForm.ordsOK : ordsB sg (laws_toExpForm.env 0).ords (bodyOf Tryd.f10) = true := by kernel_rfl
def laws_toExpFormS.cts (k : Nat) : List (Nat × Ct sg) := [(10, laws_toExpForm.ct k)]
def laws_toExpFormS.env (k : Nat) : Env sg (HL sg.S [(.sl 29 (.st 1))]) := ⟨23, [], k, get (laws_toExpFormS.cts k), [(3, laws_toExpFormS.c_l3)], [], [], []⟩
theorem laws_toExpFormS.eq (k : Nat) (h : HL sg.S (laws_toExpFormS.ct (k + 1)).its) : (laws_toExpFormS.ct (k + 1)).F h = semF (laws_toExpFormS.ct (k + 1)) (laws_toExpFormS.env k) Tryd.f17 (bodyOf Tryd.f17) h := by kernel_rfl
noncomputable def laws_toExpFormS.pts (m : Nat) := used laws_toExpFormS.env (ptsOf laws_toExpFormS.env (bodyOf Tryd.f17) (fun _ => retK Tryd.f17 (laws_toExpFormS.ct m)))
theorem laws_toExpFormS.n (m : Nat) : len (laws_toExpFormS.pts m) = 1 := by kernel_rfl
theorem laws_toExpFormS.g0 (m : Nat) : AtGood laws_toExpFormS.env (nth (laws_toExpFormS.pts m) 0) := loopGood laws_toExpFormS.c_l3 (by kernel_rfl) (by kernel_rfl) (fun _ => rfl) (fun k h => by kernel_rfl)
theorem laws_toExpFormS.good (m : Nat) : AllGood laws_toExpFormS.env (ptsOf laws_toExpFormS.env (bodyOf Tryd.f17) (fun _ => retK Tryd.f17 (laws_toExpFormS.ct m))) := allGood 1 (laws_toExpFormS.n m) (fun i hi => match i with | 0 => laws_toExpFormS.g0 m | i + 1 => absurd hi (by omega))
theorem laws_toExpFormS.ordsOK : ordsB sg (laws_toExpFormS.env 0).ords (bodyOf Tryd.f17) = true := by kernel_rfl
theorem laws_toExpForm.all (k : Nat) : (laws_toExpForm.ct k).Holds Tryd.prog 10 ∧ (laws_toExpFormS.ct k).Holds Tryd.prog 17 := by
  induction k using Nat.strongRecOn with
  | _ k ih => cases k with
    | zero => exact ⟨⟨by kernel_rfl, by kernel_rfl, (fun h => by cases h), fun _ _ _ _ _ _ _ h => absurd (show none = some _ from h) (by intro e; cases e)⟩, ⟨by kernel_rfl, by kernel_rfl, (fun h => by cases h), fun _ _ _ _ _ _ _ h => absurd (show none = some _ from h) (by intro e; cases e)⟩⟩
    | succ k => exact ⟨fn_ok (fn := Tryd.f10) (body := (bodyOf Tryd.f10)) sg.ok sg.tab sg.mixed (by kernel_rfl) (by kernel_rfl) (by kernel_rfl) (laws_toExpForm.ct (k + 1)) laws_toExpForm.env k (fun _ => by kernel_rfl) (fun _ => rfl) (fun _ => by kernel_rfl) (fun _ => rfl) (fun _ => rfl) (fun _ => rfl) laws_toExpForm.ordsOK (fun j hj => ctsOK (l := laws_toExpForm.cts j) ⟨(ih j (by omega)).2, (laws_toIntS.holds j), trivial⟩) (laws_toExpForm.good (k + 1)) (laws_toExpForm.eq k) (Nat.le_of_ble_eq_true (by kernel_rfl)) (by kernel_rfl) (by kernel_rfl) (by kernel_rfl) (fun h => by cases h), fn_ok (fn := Tryd.f17) (body := (bodyOf Tryd.f17)) sg.ok sg.tab sg.mixed (by kernel_rfl) (by kernel_rfl) (by kernel_rfl) (laws_toExpFormS.ct (k + 1)) laws_toExpFormS.env k (fun _ => by kernel_rfl) (fun _ => rfl) (fun _ => by kernel_rfl) (fun _ => rfl) (fun _ => rfl) (fun _ => rfl) laws_toExpFormS.ordsOK (fun j hj => ctsOK (l := laws_toExpFormS.cts j) ⟨(ih j (by omega)).1, trivial⟩) (laws_toExpFormS.good (k + 1)) (laws_toExpFormS.eq k) (Nat.le_of_ble_eq_true (by kernel_rfl)) (by kernel_rfl) (by kernel_rfl) (by kernel_rfl) (fun h => by cases h)⟩
theorem laws_toExpForm.holds (k : Nat) : (laws_toExpForm.ct k).Holds Tryd.prog 10 := (laws_toExpForm.all k).1
theorem laws_toExpFormS.holds (k : Nat) : (laws_toExpFormS.ct k).Holds Tryd.prog 17 := (laws_toExpForm.all k).2
def spec_l1Digits.p_l2 : Pat := ⟨[(0, .one (.val .str)), (3, .one (.val (.int .i64)))], []⟩
def spec_l1Digits.c_l2 : Cut sg (HL sg.S [.bool]) := ⟨spec_l1Digits.p_l2, [.str, (.int .i64)], fun k h => spec_l1Digits.l2 k h.1 h.2⟩
def spec_l1Digits.ct (k : Nat) : Ct sg := ⟨true, ⟨[(0, .one (.val .str))], []⟩, ⟨[(0, .one (.val .bool))], []⟩, [.str], [.bool], fun h => spec_l1Digits.f k h⟩
def spec_l1Digits.cts (k : Nat) : List (Nat × Ct sg) := []
def spec_l1Digits.env (k : Nat) : Env sg (HL sg.S [.bool]) := ⟨23, [], k, get (spec_l1Digits.cts k), [(2, spec_l1Digits.c_l2)], [], [], []⟩
theorem spec_l1Digits.eq (k : Nat) (h : HL sg.S (spec_l1Digits.ct k).its) : (spec_l1Digits.ct k).F h = semF (spec_l1Digits.ct k) (spec_l1Digits.env k) Tryd.f101 (bodyOf Tryd.f101) h := by kernel_rfl
noncomputable def spec_l1Digits.pts (m : Nat) := used spec_l1Digits.env (ptsOf spec_l1Digits.env (bodyOf Tryd.f101) (fun _ => retK Tryd.f101 (spec_l1Digits.ct m)))
theorem spec_l1Digits.n (m : Nat) : len (spec_l1Digits.pts m) = 1 := by kernel_rfl
theorem spec_l1Digits.g0 (m : Nat) : AtGood spec_l1Digits.env (nth (spec_l1Digits.pts m) 0) := loopGood spec_l1Digits.c_l2 (by kernel_rfl) (by kernel_rfl) (fun _ => rfl) (fun k h => by kernel_rfl)
theorem spec_l1Digits.good (m : Nat) : AllGood spec_l1Digits.env (ptsOf spec_l1Digits.env (bodyOf Tryd.f101) (fun _ => retK Tryd.f101 (spec_l1Digits.ct m))) := allGood 1 (spec_l1Digits.n m) (fun i hi => match i with | 0 => spec_l1Digits.g0 m | i + 1 => absurd hi (by omega))
theorem spec_l1Digits.ordsOK : ordsB sg (spec_l1Digits.env 0).ords (bodyOf Tryd.f101) = true := by kernel_rfl
theorem spec_l1Digits.holds (k : Nat) : (spec_l1Digits.ct k).Holds Tryd.prog 101 :=
  fn_ok (fn := Tryd.f101) (body := (bodyOf Tryd.f101)) sg.ok sg.tab sg.mixed (by kernel_rfl) (by kernel_rfl) (by kernel_rfl) (spec_l1Digits.ct k) spec_l1Digits.env k (fun _ => by kernel_rfl) (fun _ => rfl) (fun _ => by kernel_rfl) (fun _ => rfl) (fun _ => rfl) (fun _ => rfl) spec_l1Digits.ordsOK (fun j hj => ctsOK (l := spec_l1Digits.cts j) trivial) (spec_l1Digits.good k) (spec_l1Digits.eq k) (Nat.le_of_ble_eq_true (by kernel_rfl)) (by kernel_rfl) (by kernel_rfl) (by kernel_rfl) (fun _ => by kernel_rfl)
def spec_l1AtomOk.p_j3 : Pat := ⟨[(0, .one (.val .str))], []⟩
def spec_l1AtomOk.c_j3 : Cut sg (HL sg.S [.bool]) := ⟨spec_l1AtomOk.p_j3, [.str], fun k h => spec_l1AtomOk.j3 k h⟩
def spec_l1AtomOk.p_j5 : Pat := ⟨[(0, .one (.val .str))], []⟩
def spec_l1AtomOk.c_j5 : Cut sg (HL sg.S [.bool]) := ⟨spec_l1AtomOk.p_j5, [.str], fun k h => spec_l1AtomOk.j5 k h⟩
def spec_l1AtomOk.p_l6 : Pat := ⟨[(0, .one (.val .str)), (3, .one (.val (.int .i64)))], []⟩
def spec_l1AtomOk.c_l6 : Cut sg (HL sg.S [.bool]) := ⟨spec_l1AtomOk.p_l6, [.str, (.int .i64)], fun k h => spec_l1AtomOk.l6 k h.1 h.2⟩
def spec_l1AtomOk.ct (k : Nat) : Ct sg := ⟨true, ⟨[(0, .one (.val .str))], []⟩, ⟨[(0, .one (.val .bool))], []⟩, [.str], [.bool], fun h => spec_l1AtomOk.f k h⟩
def spec_l1AtomOk.cts (k : Nat) : List (Nat × Ct sg) := [(101, spec_l1Digits.ct k)]
def spec_l1AtomOk.env (k : Nat) : Env sg (HL sg.S [.bool]) := ⟨68, [], k, get (spec_l1AtomOk.cts k), [(6, spec_l1AtomOk.c_l6)], [(3, spec_l1AtomOk.c_j3), (5, spec_l1AtomOk.c_j5)], [], []⟩
theorem spec_l1AtomOk.eq (k : Nat) (h : HL sg.S (spec_l1AtomOk.ct k).its) : (spec_l1AtomOk.ct k).F h = semF (spec_l1AtomOk.ct k) (spec_l1AtomOk.env k) Tryd.f88 (bodyOf Tryd.f88) h := by kernel_rfl
noncomputable def spec_l1AtomOk.pts (m : Nat) := used spec_l1AtomOk.env (ptsOf spec_l1AtomOk.env (bodyOf Tryd.f88) (fun _ => retK Tryd.f88 (spec_l1AtomOk.ct m)))
theorem spec_l1AtomOk.n (m : Nat) : len (spec_l1AtomOk.pts m) = 3 := by kernel_rfl
theorem spec_l1AtomOk.g0 (m : Nat) : AtGood spec_l1AtomOk.env (nth (spec_l1AtomOk.pts m) 0) := joinGood spec_l1AtomOk.c_j3 (by kernel_rfl) (by kernel_rfl) (fun k h => by kernel_rfl)
theorem spec_l1AtomOk.g1 (m : Nat) : AtGood spec_l1AtomOk.env (nth (spec_l1AtomOk.pts m) 1) := joinGood spec_l1AtomOk.c_j5 (by kernel_rfl) (by kernel_rfl) (fun k h => by kernel_rfl)
theorem spec_l1AtomOk.g2 (m : Nat) : AtGood spec_l1AtomOk.env (nth (spec_l1AtomOk.pts m) 2) := loopGood spec_l1AtomOk.c_l6 (by kernel_rfl) (by kernel_rfl) (fun _ => rfl) (fun k h => by kernel_rfl)
theorem spec_l1AtomOk.good (m : Nat) : AllGood spec_l1AtomOk.env (ptsOf spec_l1AtomOk.env (bodyOf Tryd.f88) (fun _ => retK Tryd.f88 (spec_l1AtomOk.ct m))) := allGood 3 (spec_l1AtomOk.n m) (fun i hi => match i with | 0 => spec_l1AtomOk.g0 m | 1 => spec_l1AtomOk.g1 m | 2 => spec_l1AtomOk.g2 m | i + 3 => absurd hi (by omega))
theorem spec_l1AtomOk.ordsOK : ordsB sg (spec_l1AtomOk.env 0).ords (bodyOf Tryd.f88) = true := by kernel_rfl
theorem spec_l1AtomOk.holds (k : Nat) : (spec_l1AtomOk.ct k).Holds Tryd.prog 88 :=
  fn_ok (fn := Tryd.f88) (body := (bodyOf Tryd.f88)) sg.ok sg.tab sg.mixed (by kernel_rfl) (by kernel_rfl) (by kernel_rfl) (spec_l1AtomOk.ct k) spec_l1AtomOk.env k (fun _ => by kernel_rfl) (fun _ => rfl) (fun _ => by kernel_rfl) (fun _ => rfl) (fun _ => rfl) (fun _ => rfl) spec_l1AtomOk.ordsOK (fun j hj => ctsOK (l := spec_l1AtomOk.cts j) ⟨(spec_l1Digits.holds j), trivial⟩) (spec_l1AtomOk.good k) (spec_l1AtomOk.eq k) (Nat.le_of_ble_eq_true (by kernel_rfl)) (by kernel_rfl) (by kernel_rfl) (by kernel_rfl) (fun _ => by kernel_rfl)
def spec_l1Blank.ct (k : Nat) : Ct sg := ⟨true, ⟨[(0, .one (.val (.int .u8)))], []⟩, ⟨[(0, .one (.val .bool))], []⟩, [(.int .u8)], [.bool], fun h => spec_l1Blank.f k h⟩
def spec_l1Blank.cts (k : Nat) : List (Nat × Ct sg) := []
def spec_l1Blank.env (k : Nat) : Env sg (HL sg.S [.bool]) := ⟨9, [], k, get (spec_l1Blank.cts k), [], [], [], []⟩
theorem spec_l1Blank.eq (k : Nat) (h : HL sg.S (spec_l1Blank.ct k).its) : (spec_l1Blank.ct k).F h = semF (spec_l1Blank.ct k) (spec_l1Blank.env k) Tryd.f115 (bodyOf Tryd.f115) h := by kernel_rfl
noncomputable def spec_l1Blank.pts (m : Nat) := used spec_l1Blank.env (ptsOf spec_l1Blank.env (bodyOf Tryd.f115) (fun _ => retK Tryd.f115 (spec_l1Blank.ct m)))
theorem spec_l1Blank.n (m : Nat) : len (spec_l1Blank.pts m) = 0 := by kernel_rfl
theorem spec_l1Blank.good (m : Nat) : AllGood spec_l1Blank.env (ptsOf spec_l1Blank.env (bodyOf Tryd.f115) (fun _ => retK Tryd.f115 (spec_l1Blank.ct m))) := allGood 0 (spec_l1Blank.n m) (fun i hi => match i with | i + 0 => absurd hi (by omega))
theorem spec_l1Blank.ordsOK : ordsB sg (spec_l1Blank.env 0).ords (bodyOf Tryd.f115) = true := by kernel_rfl
theorem spec_l1Blank.holds (k : Nat) : (spec_l1Blank.ct k).Holds Tryd.prog 115 :=
  fn_ok (fn := Tryd.f115) (body := (bodyOf Tryd.f115)) sg.ok sg.tab sg.mixed (by kernel_rfl) (by kernel_rfl) (by kernel_rfl) (spec_l1Blank.ct k) spec_l1Blank.env k (fun _ => by kernel_rfl) (fun _ => rfl) (fun _ => by kernel_rfl) (fun _ => rfl) (fun _ => rfl) (fun _ => rfl) spec_l1Blank.ordsOK (fun j hj => ctsOK (l := spec_l1Blank.cts j) trivial) (spec_l1Blank.good k) (spec_l1Blank.eq k) (Nat.le_of_ble_eq_true (by kernel_rfl)) (by kernel_rfl) (by kernel_rfl) (by kernel_rfl) (fun _ => by kernel_rfl)
def spec_l1Ends.ct (k : Nat) : Ct sg := ⟨true, ⟨[(0, .one (.val (.int .u8)))], []⟩, ⟨[(0, .one (.val .bool))], []⟩, [(.int .u8)], [.bool], fun h => spec_l1Ends.f k h⟩
def spec_l1Ends.cts (k : Nat) : List (Nat × Ct sg) := [(115, spec_l1Blank.ct k)]
def spec_l1Ends.env (k : Nat) : Env sg (HL sg.S [.bool]) := ⟨21, [], k, get (spec_l1Ends.cts k), [], [], [], []⟩
theorem spec_l1Ends.eq (k : Nat) (h : HL sg.S (spec_l1Ends.ct k).its) : (spec_l1Ends.ct k).F h = semF (spec_l1Ends.ct k) (spec_l1Ends.env k) Tryd.f100 (bodyOf Tryd.f100) h := by kernel_rfl
noncomputable def spec_l1Ends.pts (m : Nat) := used spec_l1Ends.env (ptsOf spec_l1Ends.env (bodyOf Tryd.f100) (fun _ => retK Tryd.f100 (spec_l1Ends.ct m)))
theorem spec_l1Ends.n (m : Nat) : len (spec_l1Ends.pts m) = 0 := by kernel_rfl
theorem spec_l1Ends.good (m : Nat) : AllGood spec_l1Ends.env (ptsOf spec_l1Ends.env (bodyOf Tryd.f100) (fun _ => retK Tryd.f100 (spec_l1Ends.ct m))) := allGood 0 (spec_l1Ends.n m) (fun i hi => match i with | i + 0 => absurd hi (by omega))
theorem spec_l1Ends.ordsOK : ordsB sg (spec_l1Ends.env 0).ords (bodyOf Tryd.f100) = true := by kernel_rfl
theorem spec_l1Ends.holds (k : Nat) : (spec_l1Ends.ct k).Holds Tryd.prog 100 :=
  fn_ok (fn := Tryd.f100) (body := (bodyOf Tryd.f100)) sg.ok sg.tab sg.mixed (by kernel_rfl) (by kernel_rfl) (by kernel_rfl) (spec_l1Ends.ct k) spec_l1Ends.env k (fun _ => by kernel_rfl) (fun _ => rfl) (fun _ => by kernel_rfl) (fun _ => rfl) (fun _ => rfl) (fun _ => rfl) spec_l1Ends.ordsOK (fun j hj => ctsOK (l := spec_l1Ends.cts j) ⟨(spec_l1Blank.holds j), trivial⟩) (spec_l1Ends.good k) (spec_l1Ends.eq k) (Nat.le_of_ble_eq_true (by kernel_rfl)) (by kernel_rfl) (by kernel_rfl) (by kernel_rfl) (fun _ => by kernel_rfl)
def spec_l1IdOk.p_j3 : Pat := ⟨[(0, .one (.val .str))], []⟩
def spec_l1IdOk.c_j3 : Cut sg (HL sg.S [.bool]) := ⟨spec_l1IdOk.p_j3, [.str], fun k h => spec_l1IdOk.j3 k h⟩
def spec_l1IdOk.p_l4 : Pat := ⟨[(0, .one (.val .str)), (3, .one (.val (.int .i64)))], []⟩
def spec_l1IdOk.c_l4 : Cut sg (HL sg.S [.bool]) := ⟨spec_l1IdOk.p_l4, [.str, (.int .i64)], fun k h => spec_l1IdOk.l4 k h.1 h.2⟩
def spec_l1IdOk.ct (k : Nat) : Ct sg := ⟨true, ⟨[(0, .one (.val .str))], []⟩, ⟨[(0, .one (.val .bool))], []⟩, [.str], [.bool], fun h => spec_l1IdOk.f k h⟩
def spec_l1IdOk.cts (k : Nat) : List (Nat × Ct sg) := [(88, spec_l1AtomOk.ct k), (100, spec_l1Ends.ct k)]
def spec_l1IdOk.env (k : Nat) : Env sg (HL sg.S [.bool]) := ⟨47, [], k, get (spec_l1IdOk.cts k), [(4, spec_l1IdOk.c_l4)], [(3, spec_l1IdOk.c_j3)], [], []⟩
theorem spec_l1IdOk.eq (k : Nat) (h : HL sg.S (spec_l1IdOk.ct k).its) : (spec_l1IdOk.ct k).F h = semF (spec_l1IdOk.ct k) (spec_l1IdOk.env k) Tryd.f86 (bodyOf Tryd.f86) h := by kernel_rfl
noncomputable def spec_l1IdOk.pts (m : Nat) := used spec_l1IdOk.env (ptsOf spec_l1IdOk.env (bodyOf Tryd.f86) (fun _ => retK Tryd.f86 (spec_l1IdOk.ct m)))
theorem spec_l1IdOk.n (m : Nat) : len (spec_l1IdOk.pts m) = 2 := by kernel_rfl
theorem spec_l1IdOk.g0 (m : Nat) : AtGood spec_l1IdOk.env (nth (spec_l1IdOk.pts m) 0) := joinGood spec_l1IdOk.c_j3 (by kernel_rfl) (by kernel_rfl) (fun k h => by kernel_rfl)
theorem spec_l1IdOk.g1 (m : Nat) : AtGood spec_l1IdOk.env (nth (spec_l1IdOk.pts m) 1) := loopGood spec_l1IdOk.c_l4 (by kernel_rfl) (by kernel_rfl) (fun _ => rfl) (fun k h => by kernel_rfl)
theorem spec_l1IdOk.good (m : Nat) : AllGood spec_l1IdOk.env (ptsOf spec_l1IdOk.env (bodyOf Tryd.f86) (fun _ => retK Tryd.f86 (spec_l1IdOk.ct m))) := allGood 2 (spec_l1IdOk.n m) (fun i hi => match i with | 0 => spec_l1IdOk.g0 m | 1 => spec_l1IdOk.g1 m | i + 2 => absurd hi (by omega))
theorem spec_l1IdOk.ordsOK : ordsB sg (spec_l1IdOk.env 0).ords (bodyOf Tryd.f86) = true := by kernel_rfl
theorem spec_l1IdOk.holds (k : Nat) : (spec_l1IdOk.ct k).Holds Tryd.prog 86 :=
  fn_ok (fn := Tryd.f86) (body := (bodyOf Tryd.f86)) sg.ok sg.tab sg.mixed (by kernel_rfl) (by kernel_rfl) (by kernel_rfl) (spec_l1IdOk.ct k) spec_l1IdOk.env k (fun _ => by kernel_rfl) (fun _ => rfl) (fun _ => by kernel_rfl) (fun _ => rfl) (fun _ => rfl) (fun _ => rfl) spec_l1IdOk.ordsOK (fun j hj => ctsOK (l := spec_l1IdOk.cts j) ⟨(spec_l1AtomOk.holds j), (spec_l1Ends.holds j), trivial⟩) (spec_l1IdOk.good k) (spec_l1IdOk.eq k) (Nat.le_of_ble_eq_true (by kernel_rfl)) (by kernel_rfl) (by kernel_rfl) (by kernel_rfl) (fun _ => by kernel_rfl)
def spec_l1ScopesOk.p_l2 : Pat := ⟨[(0, .one (.val (.sl 3 (.int .i64)))), (3, .one (.val (.int .i64)))], []⟩
def spec_l1ScopesOk.c_l2 : Cut sg (HL sg.S [.bool]) := ⟨spec_l1ScopesOk.p_l2, [(.sl 3 (.int .i64)), (.int .i64)], fun k h => spec_l1ScopesOk.l2 k h.1 h.2⟩
def spec_l1ScopesOk.ct (k : Nat) : Ct sg := ⟨true, ⟨[(0, .one (.val (.sl 3 (.int .i64))))], []⟩, ⟨[(0, .one (.val .bool))], []⟩, [(.sl 3 (.int .i64))], [.bool], fun h => spec_l1ScopesOk.f k h⟩
def spec_l1ScopesOk.cts (k : Nat) : List (Nat × Ct sg) := []
def spec_l1ScopesOk.env (k : Nat) : Env sg (HL sg.S [.bool]) := ⟨31, [], k, get (spec_l1ScopesOk.cts k), [(2, spec_l1ScopesOk.c_l2)], [], [(4, [[0, 1, 2, 3, 4, 5, 6, 7, 8, 9, 10, 11, 12, 13, 14, 15, 16, 17, 18, 19, 20]])], []⟩
theorem spec_l1ScopesOk.eq (k : Nat) (h : HL sg.S (spec_l1ScopesOk.ct k).its) : (spec_l1ScopesOk.ct k).F h = semF (spec_l1ScopesOk.ct k) (spec_l1ScopesOk.env k) Tryd.f87 (bodyOf Tryd.f87) h := by kernel_rfl
noncomputable def spec_l1ScopesOk.pts (m : Nat) := used spec_l1ScopesOk.env (ptsOf spec_l1ScopesOk.env (bodyOf Tryd.f87) (fun _ => retK Tryd.f87 (spec_l1ScopesOk.ct m)))
theorem spec_l1ScopesOk.n (m : Nat) : len (spec_l1ScopesOk.pts m) = 1 := by kernel_rfl
theorem spec_l1ScopesOk.g0 (m : Nat) : AtGood spec_l1ScopesOk.env (nth (spec_l1ScopesOk.pts m) 0) := loopGood spec_l1ScopesOk.c_l2 (by kernel_rfl) (by kernel_rfl) (fun _ => rfl) (fun k h => by kernel_rfl)
theorem spec_l1ScopesOk.good (m : Nat) : AllGood spec_l1ScopesOk.env (ptsOf spec_l1ScopesOk.env (bodyOf Tryd.f87) (fun _ => retK Tryd.f87 (spec_l1ScopesOk.ct m))) := allGood 1 (spec_l1ScopesOk.n m) (fun i hi => match i with | 0 => spec_l1ScopesOk.g0 m | i + 1 => absurd hi (by omega))
theorem spec_l1ScopesOk.ordsOK : ordsB sg (spec_l1ScopesOk.env 0).ords (bodyOf Tryd.f87) = true := by kernel_rfl
theorem spec_l1ScopesOk.holds (k : Nat) : (spec_l1ScopesOk.ct k).Holds Tryd.prog 87 :=
  fn_ok (fn := Tryd.f87) (body := (bodyOf Tryd.f87)) sg.ok sg.tab sg.mixed (by kernel_rfl) (by kernel_rfl) (by kernel_rfl) (spec_l1ScopesOk.ct k) spec_l1ScopesOk.env k (fun _ => by kernel_rfl) (fun _ => rfl) (fun _ => by kernel_rfl) (fun _ => rfl) (fun _ => rfl) (fun _ => rfl) spec_l1ScopesOk.ordsOK (fun j hj => ctsOK (l := spec_l1ScopesOk.cts j) trivial) (spec_l1ScopesOk.good k) (spec_l1ScopesOk.eq k) (Nat.le_of_ble_eq_true (by kernel_rfl)) (by kernel_rfl) (by kernel_rfl) (by kernel_rfl) (fun _ => by kernel_rfl)
def spec_l1Ok.p_j11 : Pat := ⟨[(1, .one (.val (.int .i64))), (2, .one (.ptr 0 0)), (64, .one (.val .bool))], [.cells [] [.val (.int .i64), .val .str, .val (.sl 3 (.int .i64)), .val (.int .i64), .val (.sl 29 (.st 1))]]⟩
def spec_l1Ok.c_j11 : Cut sg (HL sg.S [.bool]) := ⟨spec_l1Ok.p_j11, [(.int .i64), .bool, (.int .i64), .str, (.sl 3 (.int .i64)), (.int .i64), (.sl 29 (.st 1))], fun k h => spec_l1Ok.j11 k h.1 h.2.1 h.2.2.1 h.2.2.2.1 h.2.2.2.2.1 h.2.2.2.2.2.1 h.2.2.2.2.2.2⟩
def spec_l1Ok.p_j13 : Pat := ⟨[(1, .one (.val (.int .i64))), (2, .one (.ptr 0 0))], [.cells [] [.val (.int .i64), .any, .any, .any, .val (.sl 29 (.st 1))]]⟩
def spec_l1Ok.c_j13 : Cut sg (HL sg.S [.bool]) := ⟨spec_l1Ok.p_j13, [(.int .i64), (.int .i64), (.sl 29 (.st 1))], fun k h => spec_l1Ok.j13 k h.1 h.2.1 h.2.2⟩
def spec_l1Ok.p_l14 : Pat := ⟨[(1, .one (.val (.int .i64))), (2, .one (.ptr 0 0)), (5, .one (.val (.int .i64)))], [.cells [] [.val (.int .i64), .any, .any, .any, .val (.sl 29 (.st 1))]]⟩
def spec_l1Ok.c_l14 : Cut sg (HL sg.S [.bool]) := ⟨spec_l1Ok.p_l14, [(.int .i64), (.int .i64), (.int .i64), (.sl 29 (.st 1))], fun k h => spec_l1Ok.l14 k h.1 h.2.1 h.2.2.1 h.2.2.2⟩
def spec_l1Ok.ct (k : Nat) : Ct sg := ⟨true, ⟨[(0, .st 1), (1, .one (.val (.int .i64)))], []⟩, ⟨[(0, .one (.val .bool))], []⟩, [(.st 1), (.int .i64)], [.bool], fun h => spec_l1Ok.f k h.1 h.2⟩
def spec_l1Ok.cts (k : Nat) : List (Nat × Ct sg) := [(56, spec_l1Ok.ct k), (86, spec_l1IdOk.ct k), (87, spec_l1ScopesOk.ct k), (88, spec_l1AtomOk.ct k)]
def spec_l1Ok.env (k : Nat) : Env sg (HL sg.S [.bool]) := ⟨127, [], k, get (spec_l1Ok.cts k), [(14, spec_l1Ok.c_l14)], [(11, spec_l1Ok.c_j11), (13, spec_l1Ok.c_j13)], [], []⟩
theorem spec_l1Ok.eq (k : Nat) (h : HL sg.S (spec_l1Ok.ct (k + 1)).its) : (spec_l1Ok.ct (k + 1)).F h = semF (spec_l1Ok.ct (k + 1)) (spec_l1Ok.env k) Tryd.f56 (bodyOf Tryd.f56) h := by kernel_rfl
noncomputable def spec_l1Ok.pts (m : Nat) := used spec_l1Ok.env (ptsOf spec_l1Ok.env (bodyOf Tryd.f56) (fun _ => retK Tryd.f56 (spec_l1Ok.ct m)))
theorem spec_l1Ok.n (m : Nat) : len (spec_l1Ok.pts m) = 3 := by kernel_rfl
theorem spec_l1Ok.g0 (m : Nat) : AtGood spec_l1Ok.env (nth (spec_l1Ok.pts m) 0) := joinGood spec_l1Ok.c_j13 (by kernel_rfl) (by kernel_rfl) (fun k h => by kernel_rfl)
theorem spec_l1Ok.g1 (m : Nat) : AtGood spec_l1Ok.env (nth (spec_l1Ok.pts m) 1) := joinGood spec_l1Ok.c_j11 (by kernel_rfl) (by kernel_rfl) (fun k h => by kernel_rfl)
theorem spec_l1Ok.g2 (m : Nat) : AtGood spec_l1Ok.env (nth (spec_l1Ok.pts m) 2) := loopGood spec_l1Ok.c_l14 (by kernel_rfl) (by kernel_rfl) (fun _ => rfl) (fun k h => by kernel_rfl)
theorem spec_l1Ok.good (m : Nat) : AllGood spec_l1Ok.env (ptsOf spec_l1Ok.env (bodyOf Tryd.f56) (fun _ => retK Tryd.f56 (spec_l1Ok.ct m))) := allGood 3 (spec_l1Ok.n m) (fun i hi => match i with | 0 => spec_l1Ok.g0 m | 1 => spec_l1Ok.g1 m | 2 => spec_l1Ok.g2 m | i + 3 => absurd hi (by omega))
theorem spec_l1Ok.ordsOK : ordsB sg (spec_l1Ok.env 0).ords (bodyOf Tryd.f56) = true := by kernel_rfl
theorem spec_l1Ok.all (k : Nat) : (spec_l1Ok.ct k).Holds Tryd.prog 56 := by
  induction k using Nat.strongRecOn with
  | _ k ih => cases k with
    | zero => exact ⟨by kernel_rfl, by kernel_rfl, (fun _ => by kernel_rfl), fun _ _ _ _ _ _ _ h => absurd (show none = some _ from h) (by intro e; cases e)⟩
    | succ k => exact fn_ok (fn := Tryd.f56) (body := (bodyOf Tryd.f56)) sg.ok sg.tab sg.mixed (by kernel_rfl) (by kernel_rfl) (by kernel_rfl) (spec_l1Ok.ct (k + 1)) spec_l1Ok.env k (fun _ => by kernel_rfl) (fun _ => rfl) (fun _ => by kernel_rfl) (fun _ => rfl) (fun _ => rfl) (fun _ => rfl) spec_l1Ok.ordsOK (fun j hj => ctsOK (l := spec_l1Ok.cts j) ⟨(ih j (by omega)), (spec_l1IdOk.holds j), (spec_l1ScopesOk.holds j), (spec_l1AtomOk.holds j), trivial⟩) (spec_l1Ok.good (k + 1)) (spec_l1Ok.eq k) (Nat.le_of_ble_eq_true (by kernel_rfl)) (by kernel_rfl) (by kernel_rfl) (by kernel_rfl) (fun _ => by kernel_rfl)
theorem spec_l1Ok.holds (k : Nat) : (spec_l1Ok.ct k).Holds Tryd.prog 56 := (spec_l1Ok.all k)
def spec_l1Size.p_l3 : Pat := ⟨[(1, .one (.ptr 0 0)), (3, .one (.val (.int .i64))), (4, .one (.val (.int .i64)))], [.cells [] [.any, .any, .any, .any, .val (.sl 29 (.st 1))]]⟩
def spec_l1Size.c_l3 : Cut sg (HL sg.S [(.int .i64)]) := ⟨spec_l1Size.p_l3, [(.int .i64), (.int .i64), (.sl 29 (.st 1))], fun k h => spec_l1Size.l3 k h.1 h.2.1 h.2.2⟩
def spec_l1Size.ct (k : Nat) : Ct sg := ⟨true, ⟨[(0, .st 1)], []⟩, ⟨[(0, .one (.val (.int .i64)))], []⟩, [(.st 1)], [(.int .i64)], fun h => spec_l1Size.f k h⟩
def spec_l1Size.cts (k : Nat) : List (Nat × Ct sg) := [(57, spec_l1Size.ct k)]
def spec_l1Size.env (k : Nat) : Env sg (HL sg.S [(.int .i64)]) := ⟨21, [], k, get (spec_l1Size.cts k), [(3, spec_l1Size.c_l3)], [], [], []⟩
theorem spec_l1Size.eq (k : Nat) (h : HL sg.S (spec_l1Size.ct (k + 1)).its) : (spec_l1Size.ct (k + 1)).F h = semF (spec_l1Size.ct (k + 1)) (spec_l1Size.env k) Tryd.f57 (bodyOf Tryd.f57) h := by kernel_rfl
noncomputable def spec_l1Size.pts (m : Nat) := used spec_l1Size.env (ptsOf spec_l1Size.env (bodyOf Tryd.f57) (fun _ => retK Tryd.f57 (spec_l1Size.ct m)))
theorem spec_l1Size.n (m : Nat) : len (spec_l1Size.pts m) = 1 := by kernel_rfl
theorem spec_l1Size.g0 (m : Nat) : AtGood spec_l1Size.env (nth (spec_l1Size.pts m) 0) := loopGood spec_l1Size.c_l3 (by kernel_rfl) (by kernel_rfl) (fun _ => rfl) (fun k h => by kernel_rfl)
theorem spec_l1Size.good (m : Nat) : AllGood spec_l1Size.env (ptsOf spec_l1Size.env (bodyOf Tryd.f57) (fun _ => retK Tryd.f57 (spec_l1Size.ct m))) := allGood 1 (spec_l1Size.n m) (fun i hi => match i with | 0 => spec_l1Size.g0 m | i + 1 => absurd hi (by omega))
theorem spec_l1Size.ordsOK : ordsB sg (spec_l1Size.env 0).ords (bodyOf Tryd.f57) = true := by kernel_rfl
theorem spec_l1Size.all (k : Nat) : (spec_l1Size.ct k).Holds Tryd.prog 57 := by
  induction k using Nat.strongRecOn with
  | _ k ih => cases k with
    | zero => exact ⟨by kernel_rfl, by kernel_rfl, (fun _ => by kernel_rfl), fun _ _ _ _ _ _ _ h => absurd (show none = some _ from h) (by intro e; cases e)⟩
    | succ k => exact fn_ok (fn := Tryd.f57) (body := (bodyOf Tryd.f57)) sg.ok sg.tab sg.mixed (by kernel_rfl) (by kernel_rfl) (by kernel_rfl) (spec_l1Size.ct (k + 1)) spec_l1Size.env k (fun _ => by kernel_rfl) (fun _ => rfl) (fun _ => by kernel_rfl) (fun _ => rfl) (fun _ => rfl) (fun _ => rfl) spec_l1Size.ordsOK (fun j hj => ctsOK (l := spec_l1Size.cts j) ⟨(ih j (by omega)), trivial⟩) (spec_l1Size.good (k + 1)) (spec_l1Size.eq k) (Nat.le_of_ble_eq_true (by kernel_rfl)) (by kernel_rfl) (by kernel_rfl) (by kernel_rfl) (fun _ => by kernel_rfl)
theorem spec_l1Size.holds (k : Nat) : (spec_l1Size.ct k).Holds Tryd.prog 57 := (spec_l1Size.all k)
def spec_ExpFormOk.ct (k : Nat) : Ct sg := ⟨true, ⟨[(0, .st 1)], []⟩, ⟨[(0, .one (.val .bool))], []⟩, [(.st 1)], [.bool], fun h => spec_ExpFormOk.f k h⟩
def spec_ExpFormOk.cts (k : Nat) : List (Nat × Ct sg) := [(56, spec_l1Ok.ct k), (57, spec_l1Size.ct k)]
def spec_ExpFormOk.env (k : Nat) : Env sg (HL sg.S [.bool]) := ⟨10, [], k, get (spec_ExpFormOk.cts k), [], [], [], []⟩
theorem spec_ExpFormOk.eq (k : Nat) (h : HL sg.S (spec_ExpFormOk.ct k).its) : (spec_ExpFormOk.ct k).F h = semF (spec_ExpFormOk.ct k) (spec_ExpFormOk.env k) Tryd.f25 (bodyOf Tryd.f25) h := by kernel_rfl
noncomputable def spec_ExpFormOk.pts (m : Nat) := used spec_ExpFormOk.env (ptsOf spec_ExpFormOk.env (bodyOf Tryd.f25) (fun _ => retK Tryd.f25 (spec_ExpFormOk.ct m)))
theorem spec_ExpFormOk.n (m : Nat) : len (spec_ExpFormOk.pts m) = 0 := by kernel_rfl
theorem spec_ExpFormOk.good (m : Nat) : AllGood spec_ExpFormOk.env (ptsOf spec_ExpFormOk.env (bodyOf Tryd.f25) (fun _ => retK Tryd.f25 (spec_ExpFormOk.ct m))) := allGood 0 (spec_ExpFormOk.n m) (fun i hi => match i with | i + 0 => absurd hi (by omega))
theorem spec_ExpFormOk.ordsOK : ordsB sg (spec_ExpFormOk.env 0).ords (bodyOf Tryd.f25) = true := by kernel_rfl
theorem spec_ExpFormOk.holds (k : Nat) : (spec_ExpFormOk.ct k).Holds Tryd.prog 25 :=
  fn_ok (fn := Tryd.f25) (body := (bodyOf Tryd.f25)) sg.ok sg.tab sg.mixed (by kernel_rfl) (by kernel_rfl) (by kernel_rfl) (spec_ExpFormOk.ct k) spec_ExpFormOk.env k (fun _ => by kernel_rfl) (fun _ => rfl) (fun _ => by kernel_rfl) (fun _ => rfl) (fun _ => rfl) (fun _ => rfl) spec_ExpFormOk.ordsOK (fun j hj => ctsOK (l := spec_ExpFormOk.cts j) ⟨(spec_l1Ok.holds j), (spec_l1Size.holds j), trivial⟩) (spec_ExpFormOk.good k) (spec_ExpFormOk.eq k) (Nat.le_of_ble_eq_true (by kernel_rfl)) (by kernel_rfl) (by kernel_rfl) (by kernel_rfl) (fun _ => by kernel_rfl)
def spec_l3Dots.ct (k : Nat) : Ct sg := ⟨true, ⟨[(0, .st 1)], []⟩, ⟨[(0, .one (.val .bool))], []⟩, [(.st 1)], [.bool], fun h => spec_l3Dots.f k h⟩
def spec_l3Dots.cts (k : Nat) : List (Nat × Ct sg) := []
def spec_l3Dots.env (k : Nat) : Env sg (HL sg.S [.bool]) := ⟨11, [], k, get (spec_l3Dots.cts k), [], [], [], []⟩
theorem spec_l3Dots.eq (k : Nat) (h : HL sg.S (spec_l3Dots.ct k).its) : (spec_l3Dots.ct k).F h = semF (spec_l3Dots.ct k) (spec_l3Dots.env k) Tryd.f71 (bodyOf Tryd.f71) h := by kernel_rfl
noncomputable def spec_l3Dots.pts (m : Nat) := used spec_l3Dots.env (ptsOf spec_l3Dots.env (bodyOf Tryd.f71) (fun _ => retK Tryd.f71 (spec_l3Dots.ct m)))
theorem spec_l3Dots.n (m : Nat) : len (spec_l3Dots.pts m) = 0 := by kernel_rfl
theorem spec_l3Dots.good (m : Nat) : AllGood spec_l3Dots.env (ptsOf spec_l3Dots.env (bodyOf Tryd.f71) (fun _ => retK Tryd.f71 (spec_l3Dots.ct m))) := allGood 0 (spec_l3Dots.n m) (fun i hi => match i with | i + 0 => absurd hi (by omega))
theorem spec_l3Dots.ordsOK : ordsB sg (spec_l3Dots.env 0).ords (bodyOf Tryd.f71) = true := by kernel_rfl
theorem spec_l3Dots.holds (k : Nat) : (spec_l3Dots.ct k).Holds Tryd.prog 71 :=
  fn_ok (fn := Tryd.f71) (body := (bodyOf Tryd.f71)) sg.ok sg.tab sg.mixed (by kernel_rfl) (by kernel_rfl) (by kernel_rfl) (spec_l3Dots.ct k) spec_l3Dots.env k (fun _ => by kernel_rfl) (fun _ => rfl) (fun _ => by kernel_rfl) (fun _ => rfl) (fun _ => rfl) (fun _ => rfl) spec_l3Dots.ordsOK (fun j hj => ctsOK (l := spec_l3Dots.cts j) trivial) (spec_l3Dots.good k) (spec_l3Dots.eq k) (Nat.le_of_ble_eq_true (by kernel_rfl)) (by kernel_rfl) (by kernel_rfl) (by kernel_rfl) (fun _ => by kernel_rfl)
def spec_l3Blank.ct (k : Nat) : Ct sg := ⟨true, ⟨[(0, .st 1)], []⟩, ⟨[(0, .one (.val .bool))], []⟩, [(.st 1)], [.bool], fun h => spec_l3Blank.f k h⟩
def spec_l3Blank.cts (k : Nat) : List (Nat × Ct sg) := []
def spec_l3Blank.env (k : Nat) : Env sg (HL sg.S [.bool]) := ⟨11, [], k, get (spec_l3Blank.cts k), [], [], [], []⟩
theorem spec_l3Blank.eq (k : Nat) (h : HL sg.S (spec_l3Blank.ct k).its) : (spec_l3Blank.ct k).F h = semF (spec_l3Blank.ct k) (spec_l3Blank.env k) Tryd.f72 (bodyOf Tryd.f72) h := by kernel_rfl
noncomputable def spec_l3Blank.pts (m : Nat) := used spec_l3Blank.env (ptsOf spec_l3Blank.env (bodyOf Tryd.f72) (fun _ => retK Tryd.f72 (spec_l3Blank.ct m)))
theorem spec_l3Blank.n (m : Nat) : len (spec_l3Blank.pts m) = 0 := by kernel_rfl
theorem spec_l3Blank.good (m : Nat) : AllGood spec_l3Blank.env (ptsOf spec_l3Blank.env (bodyOf Tryd.f72) (fun _ => retK Tryd.f72 (spec_l3Blank.ct m))) := allGood 0 (spec_l3Blank.n m) (fun i hi => match i with | i + 0 => absurd hi (by omega))
theorem spec_l3Blank.ordsOK : ordsB sg (spec_l3Blank.env 0).ords (bodyOf Tryd.f72) = true := by kernel_rfl
theorem spec_l3Blank.holds (k : Nat) : (spec_l3Blank.ct k).Holds Tryd.prog 72 :=
  fn_ok (fn := Tryd.f72) (body := (bodyOf Tryd.f72)) sg.ok sg.tab sg.mixed (by kernel_rfl) (by kernel_rfl) (by kernel_rfl) (spec_l3Blank.ct k) spec_l3Blank.env k (fun _ => by kernel_rfl) (fun _ => rfl) (fun _ => by kernel_rfl) (fun _ => rfl) (fun _ => rfl) (fun _ => rfl) spec_l3Blank.ordsOK (fun j hj => ctsOK (l := spec_l3Blank.cts j) trivial) (spec_l3Blank.good k) (spec_l3Blank.eq k) (Nat.le_of_ble_eq_true (by kernel_rfl)) (by kernel_rfl) (by kernel_rfl) (by kernel_rfl) (fun _ => by kernel_rfl)
def spec_l3IdsOk.p_l2 : Pat := ⟨[(0, .one (.val (.sl 29 (.st 1)))), (3, .one (.val (.int .i64)))], []⟩
def spec_l3IdsOk.c_l2 : Cut sg (HL sg.S [.bool]) := ⟨spec_l3IdsOk.p_l2, [(.sl 29 (.st 1)), (.int .i64)], fun k h => spec_l3IdsOk.l2 k h.1 h.2⟩
def spec_l3IdsOk.ct (k : Nat) : Ct sg := ⟨true, ⟨[(0, .one (.val (.sl 29 (.st 1))))], []⟩, ⟨[(0, .one (.val .bool))], []⟩, [(.sl 29 (.st 1))], [.bool], fun h => spec_l3IdsOk.f k h⟩
def spec_l3IdsOk.cts (k : Nat) : List (Nat × Ct sg) := [(25, spec_ExpFormOk.ct k), (71, spec_l3Dots.ct k), (72, spec_l3Blank.ct k)]
def spec_l3IdsOk.env (k : Nat) : Env sg (HL sg.S [.bool]) := ⟨38, [], k, get (spec_l3IdsOk.cts k), [(2, spec_l3IdsOk.c_l2)], [], [], []⟩
theorem spec_l3IdsOk.eq (k : Nat) (h : HL sg.S (spec_l3IdsOk.ct k).its) : (spec_l3IdsOk.ct k).F h = semF (spec_l3IdsOk.ct k) (spec_l3IdsOk.env k) Tryd.f41 (bodyOf Tryd.f41) h := by kernel_rfl
noncomputable def spec_l3IdsOk.pts (m : Nat) := used spec_l3IdsOk.env (ptsOf spec_l3IdsOk.env (bodyOf Tryd.f41) (fun _ => retK Tryd.f41 (spec_l3IdsOk.ct m)))
theorem spec_l3IdsOk.n (m : Nat) : len (spec_l3IdsOk.pts m) = 1 := by kernel_rfl
theorem spec_l3IdsOk.g0 (m : Nat) : AtGood spec_l3IdsOk.env (nth (spec_l3IdsOk.pts m) 0) := loopGood spec_l3IdsOk.c_l2 (by kernel_rfl) (by kernel_rfl) (fun _ => rfl) (fun k h => by kernel_rfl)
theorem spec_l3IdsOk.good (m : Nat) : AllGood spec_l3IdsOk.env (ptsOf spec_l3IdsOk.env (bodyOf Tryd.f41) (fun _ => retK Tryd.f41 (spec_l3IdsOk.ct m))) := allGood 1 (spec_l3IdsOk.n m) (fun i hi => match i with | 0 => spec_l3IdsOk.g0 m | i + 1 => absurd hi (by omega))
theorem spec_l3IdsOk.ordsOK : ordsB sg (spec_l3IdsOk.env 0).ords (bodyOf Tryd.f41) = true := by kernel_rfl
theorem spec_l3IdsOk.holds (k : Nat) : (spec_l3IdsOk.ct k).Holds Tryd.prog 41 :=
  fn_ok (fn := Tryd.f41) (body := (bodyOf Tryd.f41)) sg.ok sg.tab sg.mixed (by kernel_rfl) (by kernel_rfl) (by kernel_rfl) (spec_l3IdsOk.ct k) spec_l3IdsOk.env k (fun _ => by kernel_rfl) (fun _ => rfl) (fun _ => by kernel_rfl) (fun _ => rfl) (fun _ => rfl) (fun _ => rfl) spec_l3IdsOk.ordsOK (fun j hj => ctsOK (l := spec_l3IdsOk.cts j) ⟨(spec_ExpFormOk.holds j), (spec_l3Dots.holds j), (spec_l3Blank.holds j), trivial⟩) (spec_l3IdsOk.good k) (spec_l3IdsOk.eq k) (Nat.le_of_ble_eq_true (by kernel_rfl)) (by kernel_rfl) (by kernel_rfl) (by kernel_rfl) (fun _ => by kernel_rfl)
def spec_l3Parts.ct (k : Nat) : Ct sg := ⟨false, ⟨[(0, .st 1)], []⟩, ⟨[(0, .one (.val (.sl 29 (.st 1))))], []⟩, [(.st 1)], [(.sl 29 (.st 1))], fun h => spec_l3Parts.f k h⟩
def spec_l3Parts.cts (k : Nat) : List (Nat × Ct sg) := []
def spec_l3Parts.env (k : Nat) : Env sg (HL sg.S [(.sl 29 (.st 1))]) := ⟨15, [], k, get (spec_l3Parts.cts k), [], [], [], []⟩
theorem spec_l3Parts.eq (k : Nat) (h : HL sg.S (spec_l3Parts.ct k).its) : (spec_l3Parts.ct k).F h = semF (spec_l3Parts.ct k) (spec_l3Parts.env k) Tryd.f91 (bodyOf Tryd.f91) h := by kernel_rfl
noncomputable def spec_l3Parts.pts (m : Nat) := used spec_l3Parts.env (ptsOf spec_l3Parts.env (bodyOf Tryd.f91) (fun _ => retK Tryd.f91 (spec_l3Parts.ct m)))
theorem spec_l3Parts.n (m : Nat) : len (spec_l3Parts.pts m) = 0 := by kernel_rfl
theorem spec_l3Parts.good (m : Nat) : AllGood spec_l3Parts.env (ptsOf spec_l3Parts.env (bodyOf Tryd.f91) (fun _ => retK Tryd.f91 (spec_l3Parts.ct m))) := allGood 0 (spec_l3Parts.n m) (fun i hi => match i with | i + 0 => absurd hi (by omega))
theorem spec_l3Parts.ordsOK : ordsB sg (spec_l3Parts.env 0).ords (bodyOf Tryd.f91) = true := by kernel_rfl
theorem spec_l3Parts.holds (k : Nat) : (spec_l3Parts.ct k).Holds Tryd.prog 91 :=
  fn_ok (fn := Tryd.f91) (body := (bodyOf Tryd.f91)) sg.ok sg.tab sg.mixed (by kernel_rfl) (by kernel_rfl) (by kernel_rfl) (spec_l3Parts.ct k) spec_l3Parts.env k (fun _ => by kernel_rfl) (fun _ => rfl) (fun _ => by kernel_rfl) (fun _ => rfl) (fun _ => rfl) (fun _ => rfl) spec_l3Parts.ordsOK (fun j hj => ctsOK (l := spec_l3Parts.cts j) trivial) (spec_l3Parts.good k) (spec_l3Parts.eq k) (Nat.le_of_ble_eq_true (by kernel_rfl)) (by kernel_rfl) (by kernel_rfl) (by kernel_rfl) (fun h => by cases h)
def spec_l3Repeat.p_l4 : Pat := ⟨[(3, .one (.val (.int .i64))), (4, .one (.val (.sl 29 (.st 1)))), (5, .one (.val (.int .i64)))], []⟩
def spec_l3Repeat.c_l4 : Cut sg (HL sg.S [(.int .i64)]) := ⟨spec_l3Repeat.p_l4, [(.int .i64), (.sl 29 (.st 1)), (.int .i64)], fun k h => spec_l3Repeat.l4 k h.1 h.2.1 h.2.2⟩
def spec_l3Repeat.ct (k : Nat) : Ct sg := ⟨true, ⟨[(0, .st 1)], []⟩, ⟨[(0, .one (.val (.int .i64)))], []⟩, [(.st 1)], [(.int .i64)], fun h => spec_l3Repeat.f k h⟩
def spec_l3Repeat.cts (k : Nat) : List (Nat × Ct sg) := [(71, spec_l3Dots.ct k), (91, spec_l3Parts.ct k)]
def spec_l3Repeat.env (k : Nat) : Env sg (HL sg.S [(.int .i64)]) := ⟨28, [], k, get (spec_l3Repeat.cts k), [(4, spec_l3Repeat.c_l4)], [], [], []⟩
theorem spec_l3Repeat.eq (k : Nat) (h : HL sg.S (spec_l3Repeat.ct k).its) : (spec_l3Repeat.ct k).F h = semF (spec_l3Repeat.ct k) (spec_l3Repeat.env k) Tryd.f73 (bodyOf Tryd.f73) h := by kernel_rfl
noncomputable def spec_l3Repeat.pts (m : Nat) := used spec_l3Repeat.env (ptsOf spec_l3Repeat.env (bodyOf Tryd.f73) (fun _ => retK Tryd.f73 (spec_l3Repeat.ct m)))
theorem spec_l3Repeat.n (m : Nat) : len (spec_l3Repeat.pts m) = 1 := by kernel_rfl
theorem spec_l3Repeat.g0 (m : Nat) : AtGood spec_l3Repeat.env (nth (spec_l3Repeat.pts m) 0) := loopGood spec_l3Repeat.c_l4 (by kernel_rfl) (by kernel_rfl) (fun _ => rfl) (fun k h => by kernel_rfl)
theorem spec_l3Repeat.good (m : Nat) : AllGood spec_l3Repeat.env (ptsOf spec_l3Repeat.env (bodyOf Tryd.f73) (fun _ => retK Tryd.f73 (spec_l3Repeat.ct m))) := allGood 1 (spec_l3Repeat.n m) (fun i hi => match i with | 0 => spec_l3Repeat.g0 m | i + 1 => absurd hi (by omega))
theorem spec_l3Repeat.ordsOK : ordsB sg (spec_l3Repeat.env 0).ords (bodyOf Tryd.f73) = true := by kernel_rfl
theorem spec_l3Repeat.holds (k : Nat) : (spec_l3Repeat.ct k).Holds Tryd.prog 73 :=
  fn_ok (fn := Tryd.f73) (body := (bodyOf Tryd.f73)) sg.ok sg.tab sg.mixed (by kernel_rfl) (by kernel_rfl) (by kernel_rfl) (spec_l3Repeat.ct k) spec_l3Repeat.env k (fun _ => by kernel_rfl) (fun _ => rfl) (fun _ => by kernel_rfl) (fun _ => rfl) (fun _ => rfl) (fun _ => rfl) spec_l3Repeat.ordsOK (fun j hj => ctsOK (l := spec_l3Repeat.cts j) ⟨(spec_l3Dots.holds j), (spec_l3Parts.holds j), trivial⟩) (spec_l3Repeat.good k) (spec_l3Repeat.eq k) (Nat.le_of_ble_eq_true (by kernel_rfl)) (by kernel_rfl) (by kernel_rfl) (by kernel_rfl) (fun _ => by kernel_rfl)
def spec_l3PatternOk.p_j7 : Pat := ⟨[(1, .one (.ptr 0 0))], [.cells [] [.any, .any, .any, .any, .val (.sl 29 (.st 1))]]⟩
def spec_l3PatternOk.c_j7 : Cut sg (HL sg.S [.bool]) := ⟨spec_l3PatternOk.p_j7, [(.sl 29 (.st 1))], fun k h => spec_l3PatternOk.j7 k h⟩
def spec_l3PatternOk.p_l8 : Pat := ⟨[(1, .one (.ptr 0 0)), (3, .one (.val (.int .i64)))], [.cells [] [.any, .any, .any, .any, .val (.sl 29 (.st 1))]]⟩
def spec_l3PatternOk.c_l8 : Cut sg (HL sg.S [.bool]) := ⟨spec_l3PatternOk.p_l8, [(.int .i64), (.sl 29 (.st 1))], fun k h => spec_l3PatternOk.l8 k h.1 h.2⟩
def spec_l3PatternOk.ct (k : Nat) : Ct sg := ⟨true, ⟨[(0, .st 1)], []⟩, ⟨[(0, .one (.val .bool))], []⟩, [(.st 1)], [.bool], fun h => spec_l3PatternOk.f k h⟩
def spec_l3PatternOk.cts (k : Nat) : List (Nat × Ct sg) := [(42, spec_l3PatternOk.ct k), (71, spec_l3Dots.ct k), (73, spec_l3Repeat.ct k)]
def spec_l3PatternOk.env (k : Nat) : Env sg (HL sg.S [.bool]) := ⟨55, [], k, get (spec_l3PatternOk.cts k), [(8, spec_l3PatternOk.c_l8)], [(7, spec_l3PatternOk.c_j7)], [], []⟩
theorem spec_l3PatternOk.eq (k : Nat) (h : HL sg.S (spec_l3PatternOk.ct (k + 1)).its) : (spec_l3PatternOk.ct (k + 1)).F h = semF (spec_l3PatternOk.ct (k + 1)) (spec_l3PatternOk.env k) Tryd.f42 (bodyOf Tryd.f42) h := by kernel_rfl
noncomputable def spec_l3PatternOk.pts (m : Nat) := used spec_l3PatternOk.env (ptsOf spec_l3PatternOk.env (bodyOf Tryd.f42) (fun _ => retK Tryd.f42 (spec_l3PatternOk.ct m)))
theorem spec_l3PatternOk.n (m : Nat) : len (spec_l3PatternOk.pts m) = 2 := by kernel_rfl
theorem spec_l3PatternOk.g0 (m : Nat) : AtGood spec_l3PatternOk.env (nth (spec_l3PatternOk.pts m) 0) := joinGood spec_l3PatternOk.c_j7 (by kernel_rfl) (by kernel_rfl) (fun k h => by kernel_rfl)
theorem spec_l3PatternOk.g1 (m : Nat) : AtGood spec_l3PatternOk.env (nth (spec_l3PatternOk.pts m) 1) := loopGood spec_l3PatternOk.c_l8 (by kernel_rfl) (by kernel_rfl) (fun _ => rfl) (fun k h => by kernel_rfl)
theorem spec_l3PatternOk.good (m : Nat) : AllGood spec_l3PatternOk.env (ptsOf spec_l3PatternOk.env (bodyOf Tryd.f42) (fun _ => retK Tryd.f42 (spec_l3PatternOk.ct m))) := allGood 2 (spec_l3PatternOk.n m) (fun i hi => match i with | 0 => spec_l3PatternOk.g0 m | 1 => spec_l3PatternOk.g1 m | i + 2 => absurd hi (by omega))
theorem spec_l3PatternOk.ordsOK : ordsB sg (spec_l3PatternOk.env 0).ords (bodyOf Tryd.f42) = true := by kernel_rfl
theorem spec_l3PatternOk.all (k : Nat) : (spec_l3PatternOk.ct k).Holds Tryd.prog 42 := by
  induction k using Nat.strongRecOn with
  | _ k ih => cases k with
    | zero => exact ⟨by kernel_rfl, by kernel_rfl, (fun _ => by kernel_rfl), fun _ _ _ _ _ _ _ h => absurd (show none = some _ from h) (by intro e; cases e)⟩
    | succ k => exact fn_ok (fn := Tryd.f42) (body := (bodyOf Tryd.f42)) sg.ok sg.tab sg.mixed (by kernel_rfl) (by kernel_rfl) (by kernel_rfl) (spec_l3PatternOk.ct (k + 1)) spec_l3PatternOk.env k (fun _ => by kernel_rfl) (fun _ => rfl) (fun _ => by kernel_rfl) (fun _ => rfl) (fun _ => rfl) (fun _ => rfl) spec_l3PatternOk.ordsOK (fun j hj => ctsOK (l := spec_l3PatternOk.cts j) ⟨(ih j (by omega)), (spec_l3Dots.holds j), (spec_l3Repeat.holds j), trivial⟩) (spec_l3PatternOk.good (k + 1)) (spec_l3PatternOk.eq k) (Nat.le_of_ble_eq_true (by kernel_rfl)) (by kernel_rfl) (by kernel_rfl) (by kernel_rfl) (fun _ => by kernel_rfl)
theorem spec_l3PatternOk.holds (k : Nat) : (spec_l3PatternOk.ct k).Holds Tryd.prog 42 := (spec_l3PatternOk.all k)
def spec_l3Ints.p_l4 : Pat := ⟨[(0, .one (.val (.sl 3 (.int .i64)))), (1, .one (.val (.sl 3 (.int .i64)))), (5, .one (.val (.int .i64)))], []⟩
def spec_l3Ints.c_l4 : Cut sg (HL sg.S [.bool]) := ⟨spec_l3Ints.p_l4, [(.sl 3 (.int .i64)), (.sl 3 (.int .i64)), (.int .i64)], fun k h => spec_l3Ints.l4 k h.1 h.2.1 h.2.2⟩
def spec_l3Ints.ct (k : Nat) : Ct sg := ⟨true, ⟨[(0, .one (.val (.sl 3 (.int .i64)))), (1, .one (.val (.sl 3 (.int .i64))))], []⟩, ⟨[(0, .one (.val .bool))], []⟩, [(.sl 3 (.int .i64)), (.sl 3 (.int .i64))], [.bool], fun h => spec_l3Ints.f k h.1 h.2⟩
def spec_l3Ints.cts (k : Nat) : List (Nat × Ct sg) := []
def spec_l3Ints.env (k : Nat) : Env sg (HL sg.S [.bool]) := ⟨26, [], k, get (spec_l3Ints.cts k), [(4, spec_l3Ints.c_l4)], [], [(6, [[0, 1, 2, 3, 4, 5, 6, 7, 8]])], []⟩
theorem spec_l3Ints.eq (k : Nat) (h : HL sg.S (spec_l3Ints.ct k).its) : (spec_l3Ints.ct k).F h = semF (spec_l3Ints.ct k) (spec_l3Ints.env k) Tryd.f92 (bodyOf Tryd.f92) h := by kernel_rfl
noncomputable def spec_l3Ints.pts (m : Nat) := used spec_l3Ints.env (ptsOf spec_l3Ints.env (bodyOf Tryd.f92) (fun _ => retK Tryd.f92 (spec_l3Ints.ct m)))
theorem spec_l3Ints.n (m : Nat) : len (spec_l3Ints.pts m) = 1 := by kernel_rfl
theorem spec_l3Ints.g0 (m : Nat) : AtGood spec_l3Ints.env (nth (spec_l3Ints.pts m) 0) := loopGood spec_l3Ints.c_l4 (by kernel_rfl) (by kernel_rfl) (fun _ => rfl) (fun k h => by kernel_rfl)
theorem spec_l3Ints.good (m : Nat) : AllGood spec_l3Ints.env (ptsOf spec_l3Ints.env (bodyOf Tryd.f92) (fun _ => retK Tryd.f92 (spec_l3Ints.ct m))) := allGood 1 (spec_l3Ints.n m) (fun i hi => match i with | 0 => spec_l3Ints.g0 m | i + 1 => absurd hi (by omega))
theorem spec_l3Ints.ordsOK : ordsB sg (spec_l3Ints.env 0).ords (bodyOf Tryd.f92) = true := by kernel_rfl
theorem spec_l3Ints.holds (k : Nat) : (spec_l3Ints.ct k).Holds Tryd.prog 92 :=
  fn_ok (fn := Tryd.f92) (body := (bodyOf Tryd.f92)) sg.ok sg.tab sg.mixed (by kernel_rfl) (by kernel_rfl) (by kernel_rfl) (spec_l3Ints.ct k) spec_l3Ints.env k (fun _ => by kernel_rfl) (fun _ => rfl) (fun _ => by kernel_rfl) (fun _ => rfl) (fun _ => rfl) (fun _ => rfl) spec_l3Ints.ordsOK (fun j hj => ctsOK (l := spec_l3Ints.cts j) trivial) (spec_l3Ints.good k) (spec_l3Ints.eq k) (Nat.le_of_ble_eq_true (by kernel_rfl)) (by kernel_rfl) (by kernel_rfl) (by kernel_rfl) (fun _ => by kernel_rfl)
def spec_l3Same.ct (k : Nat) : Ct sg := ⟨true, ⟨[(0, .st 1), (1, .st 1)], []⟩, ⟨[(0, .one (.val .bool))], []⟩, [(.st 1), (.st 1)], [.bool], fun h => spec_l3Same.f k h.1 h.2⟩
def spec_l3Same.cts (k : Nat) : List (Nat × Ct sg) := [(92, spec_l3Ints.ct k)]
def spec_l3Same.env (k : Nat) : Env sg (HL sg.S [.bool]) := ⟨27, [], k, get (spec_l3Same.cts k), [], [], [], []⟩
theorem spec_l3Same.eq (k : Nat) (h : HL sg.S (spec_l3Same.ct k).its) : (spec_l3Same.ct k).F h = semF (spec_l3Same.ct k) (spec_l3Same.env k) Tryd.f74 (bodyOf Tryd.f74) h := by kernel_rfl
noncomputable def spec_l3Same.pts (m : Nat) := used spec_l3Same.env (ptsOf spec_l3Same.env (bodyOf Tryd.f74) (fun _ => retK Tryd.f74 (spec_l3Same.ct m)))
theorem spec_l3Same.n (m : Nat) : len (spec_l3Same.pts m) = 0 := by kernel_rfl
theorem spec_l3Same.good (m : Nat) : AllGood spec_l3Same.env (ptsOf spec_l3Same.env (bodyOf Tryd.f74) (fun _ => retK Tryd.f74 (spec_l3Same.ct m))) := allGood 0 (spec_l3Same.n m) (fun i hi => match i with | i + 0 => absurd hi (by omega))
theorem spec_l3Same.ordsOK : ordsB sg (spec_l3Same.env 0).ords (bodyOf Tryd.f74) = true := by kernel_rfl
theorem spec_l3Same.holds (k : Nat) : (spec_l3Same.ct k).Holds Tryd.prog 74 :=
  fn_ok (fn := Tryd.f74) (body := (bodyOf Tryd.f74)) sg.ok sg.tab sg.mixed (by kernel_rfl) (by kernel_rfl) (by kernel_rfl) (spec_l3Same.ct k) spec_l3Same.env k (fun _ => by kernel_rfl) (fun _ => rfl) (fun _ => by kernel_rfl) (fun _ => rfl) (fun _ => rfl) (fun _ => rfl) spec_l3Same.ordsOK (fun j hj => ctsOK (l := spec_l3Same.cts j) ⟨(spec_l3Ints.holds j), trivial⟩) (spec_l3Same.good k) (spec_l3Same.eq k) (Nat.le_of_ble_eq_true (by kernel_rfl)) (by kernel_rfl) (by kernel_rfl) (by kernel_rfl) (fun _ => by kernel_rfl)
def spec_l3Among.p_l2 : Pat := ⟨[(0, .one (.val (.sl 29 (.st 1)))), (3, .one (.ptr 0 0)), (5, .one (.val (.int .i64)))], [.cells [] [.val (.int .i64), .val .str, .val (.sl 3 (.int .i64)), .val (.int .i64), .val (.sl 29 (.st 1))]]⟩
def spec_l3Among.c_l2 : Cut sg (HL sg.S [.bool]) := ⟨spec_l3Among.p_l2, [(.sl 29 (.st 1)), (.int .i64), (.int .i64), .str, (.sl 3 (.int .i64)), (.int .i64), (.sl 29 (.st 1))], fun k h => spec_l3Among.l2 k h.1 h.2.1 h.2.2.1 h.2.2.2.1 h.2.2.2.2.1 h.2.2.2.2.2.1 h.2.2.2.2.2.2⟩
def spec_l3Among.ct (k : Nat) : Ct sg := ⟨true, ⟨[(0, .one (.val (.sl 29 (.st 1)))), (1, .st 1)], []⟩, ⟨[(0, .one (.val .bool))], []⟩, [(.sl 29 (.st 1)), (.st 1)], [.bool], fun h => spec_l3Among.f k h.1 h.2⟩
def spec_l3Among.cts (k : Nat) : List (Nat × Ct sg) := [(74, spec_l3Same.ct k)]
def spec_l3Among.env (k : Nat) : Env sg (HL sg.S [.bool]) := ⟨18, [], k, get (spec_l3Among.cts k), [(2, spec_l3Among.c_l2)], [], [(4, [[0, 1, 2, 3, 4, 5]])], []⟩
theorem spec_l3Among.eq (k : Nat) (h : HL sg.S (spec_l3Among.ct k).its) : (spec_l3Among.ct k).F h = semF (spec_l3Among.ct k) (spec_l3Among.env k) Tryd.f44 (bodyOf Tryd.f44) h := by kernel_rfl
noncomputable def spec_l3Among.pts (m : Nat) := used spec_l3Among.env (ptsOf spec_l3Among.env (bodyOf Tryd.f44) (fun _ => retK Tryd.f44 (spec_l3Among.ct m)))
theorem spec_l3Among.n (m : Nat) : len (spec_l3Among.pts m) = 1 := by kernel_rfl
theorem spec_l3Among.g0 (m : Nat) : AtGood spec_l3Among.env (nth (spec_l3Among.pts m) 0) := loopGood spec_l3Among.c_l2 (by kernel_rfl) (by kernel_rfl) (fun _ => rfl) (fun k h => by kernel_rfl)
theorem spec_l3Among.good (m : Nat) : AllGood spec_l3Among.env (ptsOf spec_l3Among.env (bodyOf Tryd.f44) (fun _ => retK Tryd.f44 (spec_l3Among.ct m))) := allGood 1 (spec_l3Among.n m) (fun i hi => match i with | 0 => spec_l3Among.g0 m | i + 1 => absurd hi (by omega))
theorem spec_l3Among.ordsOK : ordsB sg (spec_l3Among.env 0).ords (bodyOf Tryd.f44) = true := by kernel_rfl
theorem spec_l3Among.holds (k : Nat) : (spec_l3Among.ct k).Holds Tryd.prog 44 :=
  fn_ok (fn := Tryd.f44) (body := (bodyOf Tryd.f44)) sg.ok sg.tab sg.mixed (by kernel_rfl) (by kernel_rfl) (by kernel_rfl) (spec_l3Among.ct k) spec_l3Among.env k (fun _ => by kernel_rfl) (fun _ => rfl) (fun _ => by kernel_rfl) (fun _ => rfl) (fun _ => rfl) (fun _ => rfl) spec_l3Among.ordsOK (fun j hj => ctsOK (l := spec_l3Among.cts j) ⟨(spec_l3Same.holds j), trivial⟩) (spec_l3Among.good k) (spec_l3Among.eq k) (Nat.le_of_ble_eq_true (by kernel_rfl)) (by kernel_rfl) (by kernel_rfl) (by kernel_rfl) (fun _ => by kernel_rfl)
def spec_l3Names.p_l7 : Pat := ⟨[(1, .one (.val (.sl 29 (.st 1)))), (2, .one (.ptr 0 0)), (5, .one (.arr 1)), (6, .one (.val (.int .i64)))], [.cells [] [.any, .any, .any, .any, .val (.sl 29 (.st 1))], .arr 29 (.st 1)]⟩
def spec_l3Names.c_l7 : Cut sg (HL sg.S [(.sl 29 (.st 1))]) := ⟨spec_l3Names.p_l7, [(.sl 29 (.st 1)), (.int .i64), (.sl 29 (.st 1)), (.sl 29 (.st 1))], fun k h => spec_l3Names.l7 k h.1 h.2.1 h.2.2.1 h.2.2.2⟩
def spec_l3Names.ct (k : Nat) : Ct sg := ⟨false, ⟨[(0, .st 1), (1, .one (.val (.sl 29 (.st 1))))], []⟩, ⟨[(0, .one (.arr 0))], [.arr 29 (.st 1)]⟩, [(.st 1), (.sl 29 (.st 1))], [(.sl 29 (.st 1))], fun h => spec_l3Names.f k h.1 h.2⟩
def spec_l3Names.cts (k : Nat) : List (Nat × Ct sg) := [(43, spec_l3Names.ct k), (44, spec_l3Among.ct k), (71, spec_l3Dots.ct k), (72, spec_l3Blank.ct k)]
def spec_l3Names.env (k : Nat) : Env sg (HL sg.S [(.sl 29 (.st 1))]) := ⟨47, [], k, get (spec_l3Names.cts k), [(7, spec_l3Names.c_l7)], [], [], []⟩
theorem spec_l3Names.eq (k : Nat) (h : HL sg.S (spec_l3Names.ct (k + 1)).its) : (spec_l3Names.ct (k + 1)).F h = semF (spec_l3Names.ct (k + 1)) (spec_l3Names.env k) Tryd.f43 (bodyOf Tryd.f43) h := by kernel_rfl
noncomputable def spec_l3Names.pts (m : Nat) := used spec_l3Names.env (ptsOf spec_l3Names.env (bodyOf Tryd.f43) (fun _ => retK Tryd.f43 (spec_l3Names.ct m)))
theorem spec_l3Names.n (m : Nat) : len (spec_l3Names.pts m) = 1 := by kernel_rfl
theorem spec_l3Names.g0 (m : Nat) : AtGood spec_l3Names.env (nth (spec_l3Names.pts m) 0) := loopGood spec_l3Names.c_l7 (by kernel_rfl) (by kernel_rfl) (fun _ => rfl) (fun k h => by kernel_rfl)
theorem spec_l3Names.good (m : Nat) : AllGood spec_l3Names.env (ptsOf spec_l3Names.env (bodyOf Tryd.f43) (fun _ => retK Tryd.f43 (spec_l3Names.ct m))) := allGood 1 (spec_l3Names.n m) (fun i hi => match i with | 0 => spec_l3Names.g0 m | i + 1 => absurd hi (by omega))
theorem spec_l3Names.ordsOK : ordsB sg (spec_l3Names.env 0).ords (bodyOf Tryd.f43) = true := by kernel_rfl
theorem spec_l3Names.all (k : Nat) : (spec_l3Names.ct k).Holds Tryd.prog 43 := by
  induction k using Nat.strongRecOn with
  | _ k ih => cases k with
    | zero => exact ⟨by kernel_rfl, by kernel_rfl, (fun h => by cases h), fun _ _ _ _ _ _ _ h => absurd (show none = some _ from h) (by intro e; cases e)⟩
    | succ k => exact fn_ok (fn := Tryd.f43) (body := (bodyOf Tryd.f43)) sg.ok sg.tab sg.mixed (by kernel_rfl) (by kernel_rfl) (by kernel_rfl) (spec_l3Names.ct (k + 1)) spec_l3Names.env k (fun _ => by kernel_rfl) (fun _ => rfl) (fun _ => by kernel_rfl) (fun _ => rfl) (fun _ => rfl) (fun _ => rfl) spec_l3Names.ordsOK (fun j hj => ctsOK (l := spec_l3Names.cts j) ⟨(ih j (by omega)), (spec_l3Among.holds j), (spec_l3Dots.holds j), (spec_l3Blank.holds j), trivial⟩) (spec_l3Names.good (k + 1)) (spec_l3Names.eq k) (Nat.le_of_ble_eq_true (by kernel_rfl)) (by kernel_rfl) (by kernel_rfl) (by kernel_rfl) (fun h => by cases h)
theorem spec_l3Names.holds (k : Nat) : (spec_l3Names.ct k).Holds Tryd.prog 43 := (spec_l3Names.all k)
def spec_ExpPatternOk.p_j3 : Pat := ⟨[(1, .one (.val (.sl 29 (.st 1)))), (2, .one (.ptr 0 0))], [.cells [] [.val (.int .i64), .val .str, .val (.sl 3 (.int .i64)), .val (.int .i64), .val (.sl 29 (.st 1))]]⟩
def spec_ExpPatternOk.c_j3 : Cut sg (HL sg.S [.bool]) := ⟨spec_ExpPatternOk.p_j3, [(.sl 29 (.st 1)), (.int .i64), .str, (.sl 3 (.int .i64)), (.int .i64), (.sl 29 (.st 1))], fun k h => spec_ExpPatternOk.j3 k h.1 h.2.1 h.2.2.1 h.2.2.2.1 h.2.2.2.2.1 h.2.2.2.2.2⟩
def spec_ExpPatternOk.p_l5 : Pat := ⟨[(5, .one (.val (.sl 29 (.st 1)))), (6, .one (.val (.int .i64)))], []⟩
def spec_ExpPatternOk.c_l5 : Cut sg (HL sg.S [.bool]) := ⟨spec_ExpPatternOk.p_l5, [(.sl 29 (.st 1)), (.int .i64)], fun k h => spec_ExpPatternOk.l5 k h.1 h.2⟩
def spec_ExpPatternOk.ct (k : Nat) : Ct sg := ⟨true, ⟨[(0, .st 1), (1, .one (.val (.sl 29 (.st 1))))], []⟩, ⟨[(0, .one (.val .bool))], []⟩, [(.st 1), (.sl 29 (.st 1))], [.bool], fun h => spec_ExpPatternOk.f k h.1 h.2⟩
def spec_ExpPatternOk.cts (k : Nat) : List (Nat × Ct sg) := [(25, spec_ExpFormOk.ct k), (41, spec_l3IdsOk.ct k), (42, spec_l3PatternOk.ct k), (43, spec_l3Names.ct k), (44, spec_l3Among.ct k)]
def spec_ExpPatternOk.env (k : Nat) : Env sg (HL sg.S [.bool]) := ⟨37, [], k, get (spec_ExpPatternOk.cts k), [(5, spec_ExpPatternOk.c_l5)], [(3, spec_ExpPatternOk.c_j3)], [(7, [[0, 1, 2, 3, 4, 5, 6, 7]])], []⟩
theorem spec_ExpPatternOk.eq (k : Nat) (h : HL sg.S (spec_ExpPatternOk.ct k).its) : (spec_ExpPatternOk.ct k).F h = semF (spec_ExpPatternOk.ct k) (spec_ExpPatternOk.env k) Tryd.f16 (bodyOf Tryd.f16) h := by kernel_rfl
noncomputable def spec_ExpPatternOk.pts (m : Nat) := used spec_ExpPatternOk.env (ptsOf spec_ExpPatternOk.env (bodyOf Tryd.f16) (fun _ => retK Tryd.f16 (spec_ExpPatternOk.ct m)))
theorem spec_ExpPatternOk.n (m : Nat) : len (spec_ExpPatternOk.pts m) = 2 := by kernel_rfl
theorem spec_ExpPatternOk.g0 (m : Nat) : AtGood spec_ExpPatternOk.env (nth (spec_ExpPatternOk.pts m) 0) := joinGood spec_ExpPatternOk.c_j3 (by kernel_rfl) (by kernel_rfl) (fun k h => by kernel_rfl)
theorem spec_ExpPatternOk.g1 (m : Nat) : AtGood spec_ExpPatternOk.env (nth (spec_ExpPatternOk.pts m) 1) := loopGood spec_ExpPatternOk.c_l5 (by kernel_rfl) (by kernel_rfl) (fun _ => rfl) (fun k h => by kernel_rfl)
theorem spec_ExpPatternOk.good (m : Nat) : AllGood spec_ExpPatternOk.env (ptsOf spec_ExpPatternOk.env (bodyOf Tryd.f16) (fun _ => retK Tryd.f16 (spec_ExpPatternOk.ct m))) := allGood 2 (spec_ExpPatternOk.n m) (fun i hi => match i with | 0 => spec_ExpPatternOk.g0 m | 1 => spec_ExpPatternOk.g1 m | i + 2 => absurd hi (by omega))
theorem spec_ExpPatternOk.ordsOK : ordsB sg (spec_ExpPatternOk.env 0).ords (bodyOf Tryd.f16) = true := by kernel_rfl
theorem spec_ExpPatternOk.holds (k : Nat) : (spec_ExpPatternOk.ct k).Holds Tryd.prog 16 :=
  fn_ok (fn := Tryd.f16) (body := (bodyOf Tryd.f16)) sg.ok sg.tab sg.mixed (by kernel_rfl) (by kernel_rfl) (by kernel_rfl) (spec_ExpPatternOk.ct k) spec_ExpPatternOk.env k (fun _ => by kernel_rfl) (fun _ => rfl) (fun _ => by kernel_rfl) (fun _ => rfl) (fun _ => rfl) (fun _ => rfl) spec_ExpPatternOk.ordsOK (fun j hj => ctsOK (l := spec_ExpPatternOk.cts j) ⟨(spec_ExpFormOk.holds j), (spec_l3IdsOk.holds j), (spec_l3PatternOk.holds j), (spec_l3Names.holds j), (spec_l3Among.holds j), trivial⟩) (spec_ExpPatternOk.good k) (spec_ExpPatternOk.eq k) (Nat.le_of_ble_eq_true (by kernel_rfl)) (by kernel_rfl) (by kernel_rfl) (by kernel_rfl) (fun _ => by kernel_rfl)
def internal_stringslite_HasPrefix.ct (k : Nat) : Ct sg := ⟨true, ⟨[(0, .one (.val .str)), (1, .one (.val .str))], []⟩, ⟨[(0, .one (.val .bool))], []⟩, [.str, .str], [.bool], fun h => internal_stringslite_HasPrefix.f k h.1 h.2⟩
def internal_stringslite_HasPrefix.cts (k : Nat) : List (Nat × Ct sg) := []
def internal_stringslite_HasPrefix.env (k : Nat) : Env sg (HL sg.S [.bool]) := ⟨18, [], k, get (internal_stringslite_HasPrefix.cts k), [], [], [], []⟩
theorem internal_stringslite_HasPrefix.eq (k : Nat) (h : HL sg.S (internal_stringslite_HasPrefix.ct k).its) : (internal_stringslite_HasPrefix.ct k).F h = semF (internal_stringslite_HasPrefix.ct k) (internal_stringslite_HasPrefix.env k) Tryd.f119 (bodyOf Tryd.f119) h := by kernel_rfl
noncomputable def internal_stringslite_HasPrefix.pts (m : Nat) := used internal_stringslite_HasPrefix.env (ptsOf internal_stringslite_HasPrefix.env (bodyOf Tryd.f119) (fun _ => retK Tryd.f119 (internal_stringslite_HasPrefix.ct m)))
theorem internal_stringslite_HasPrefix.n (m : Nat) : len (internal_stringslite_HasPrefix.pts m) = 0 := by kernel_rfl
theorem internal_stringslite_HasPrefix.good (m : Nat) : AllGood internal_stringslite_HasPrefix.env (ptsOf internal_stringslite_HasPrefix.env (bodyOf Tryd.f119) (fun _ => retK Tryd.f119 (internal_stringslite_HasPrefix.ct m))) := allGood 0 (internal_stringslite_HasPrefix.n m) (fun i hi => match i with | i + 0 => absurd hi (by omega))
theorem internal_stringslite_HasPrefix.ordsOK : ordsB sg (internal_stringslite_HasPrefix.env 0).ords (bodyOf Tryd.f119) = true := by kernel_rfl
theorem internal_stringslite_HasPrefix.holds (k : Nat) : (internal_stringslite_HasPrefix.ct k).Holds Tryd.prog 119 :=
  fn_ok (fn := Tryd.f119) (body := (bodyOf Tryd.f119)) sg.ok sg.tab sg.mixed (by kernel_rfl) (by kernel_rfl) (by kernel_rfl) (internal_stringslite_HasPrefix.ct k) internal_stringslite_HasPrefix.env k (fun _ => by kernel_rfl) (fun _ => rfl) (fun _ => by kernel_rfl) (fun _ => rfl) (fun _ => rfl) (fun _ => rfl) internal_stringslite_HasPrefix.ordsOK (fun j hj => ctsOK (l := internal_stringslite_HasPrefix.cts j) trivial) (internal_stringslite_HasPrefix.good k) (internal_stringslite_HasPrefix.eq k) (Nat.le_of_ble_eq_true (by kernel_rfl)) (by kernel_rfl) (by kernel_rfl) (by kernel_rfl) (fun _ => by kernel_rfl)
def internal_stringslite_TrimPrefix.ct (k : Nat) : Ct sg := ⟨true, ⟨[(0, .one (.val .str)), (1, .one (.val .str))], []⟩, ⟨[(0, .one (.val .str))], []⟩, [.str, .str], [.str], fun h => internal_stringslite_TrimPrefix.f k h.1 h.2⟩
def internal_stringslite_TrimPrefix.cts (k : Nat) : List (Nat × Ct sg) := [(119, internal_stringslite_HasPrefix.ct k)]
def internal_stringslite_TrimPrefix.env (k : Nat) : Env sg (HL sg.S [.str]) := ⟨13, [], k, get (internal_stringslite_TrimPrefix.cts k), [], [], [], []⟩
theorem internal_stringslite_TrimPrefix.eq (k : Nat) (h : HL sg.S (internal_stringslite_TrimPrefix.ct k).its) : (internal_stringslite_TrimPrefix.ct k).F h = semF (internal_stringslite_TrimPrefix.ct k) (internal_stringslite_TrimPrefix.env k) Tryd.f107 (bodyOf Tryd.f107) h := by kernel_rfl
noncomputable def internal_stringslite_TrimPrefix.pts (m : Nat) := used internal_stringslite_TrimPrefix.env (ptsOf internal_stringslite_TrimPrefix.env (bodyOf Tryd.f107) (fun _ => retK Tryd.f107 (internal_stringslite_TrimPrefix.ct m)))
theorem internal_stringslite_TrimPrefix.n (m : Nat) : len (internal_stringslite_TrimPrefix.pts m) = 0 := by kernel_rfl
theorem internal_stringslite_TrimPrefix.good (m : Nat) : AllGood internal_stringslite_TrimPrefix.env (ptsOf internal_stringslite_TrimPrefix.env (bodyOf Tryd.f107) (fun _ => retK Tryd.f107 (internal_stringslite_TrimPrefix.ct m))) := allGood 0 (internal_stringslite_TrimPrefix.n m) (fun i hi => match i with | i + 0 => absurd hi (by omega))
theorem internal_stringslite_TrimPrefix.ordsOK : ordsB sg (internal_stringslite_TrimPrefix.env 0).ords (bodyOf Tryd.f107) = true := by kernel_rfl
theorem internal_stringslite_TrimPrefix.holds (k : Nat) : (internal_stringslite_TrimPrefix.ct k).Holds Tryd.prog 107 :=
  fn_ok (fn := Tryd.f107) (body := (bodyOf Tryd.f107)) sg.ok sg.tab sg.mixed (by kernel_rfl) (by kernel_rfl) (by kernel_rfl) (internal_stringslite_TrimPrefix.ct k) internal_stringslite_TrimPrefix.env k (fun _ => by kernel_rfl) (fun _ => rfl) (fun _ => by kernel_rfl) (fun _ => rfl) (fun _ => rfl) (fun _ => rfl) internal_stringslite_TrimPrefix.ordsOK (fun j hj => ctsOK (l := internal_stringslite_TrimPrefix.cts j) ⟨(internal_stringslite_HasPrefix.holds j), trivial⟩) (internal_stringslite_TrimPrefix.good k) (internal_stringslite_TrimPrefix.eq k) (Nat.le_of_ble_eq_true (by kernel_rfl)) (by kernel_rfl) (by kernel_rfl) (by kernel_rfl) (fun _ => by kernel_rfl)
def strings_TrimPrefix.ct (k : Nat) : Ct sg := ⟨true, ⟨[(0, .one (.val .str)), (1, .one (.val .str))], []⟩, ⟨[(0, .one (.val .str))], []⟩, [.str, .str], [.str], fun h => strings_TrimPrefix.f k h.1 h.2⟩
def strings_TrimPrefix.cts (k : Nat) : List (Nat × Ct sg) := [(107, internal_stringslite_TrimPrefix.ct k)]
def strings_TrimPrefix.env (k : Nat) : Env sg (HL sg.S [.str]) := ⟨8, [], k, get (strings_TrimPrefix.cts k), [], [], [], []⟩
theorem strings_TrimPrefix.eq (k : Nat) (h : HL sg.S (strings_TrimPrefix.ct k).its) : (strings_TrimPrefix.ct k).F h = semF (strings_TrimPrefix.ct k) (strings_TrimPrefix.env k) Tryd.f98 (bodyOf Tryd.f98) h := by kernel_rfl
noncomputable def strings_TrimPrefix.pts (m : Nat) := used strings_TrimPrefix.env (ptsOf strings_TrimPrefix.env (bodyOf Tryd.f98) (fun _ => retK Tryd.f98 (strings_TrimPrefix.ct m)))
theorem strings_TrimPrefix.n (m : Nat) : len (strings_TrimPrefix.pts m) = 0 := by kernel_rfl
theorem strings_TrimPrefix.good (m : Nat) : AllGood strings_TrimPrefix.env (ptsOf strings_TrimPrefix.env (bodyOf Tryd.f98) (fun _ => retK Tryd.f98 (strings_TrimPrefix.ct m))) := allGood 0 (strings_TrimPrefix.n m) (fun i hi => match i with | i + 0 => absurd hi (by omega))
theorem strings_TrimPrefix.ordsOK : ordsB sg (strings_TrimPrefix.env 0).ords (bodyOf Tryd.f98) = true := by kernel_rfl
theorem strings_TrimPrefix.holds (k : Nat) : (strings_TrimPrefix.ct k).Holds Tryd.prog 98 :=
  fn_ok (fn := Tryd.f98) (body := (bodyOf Tryd.f98)) sg.ok sg.tab sg.mixed (by kernel_rfl) (by kernel_rfl) (by kernel_rfl) (strings_TrimPrefix.ct k) strings_TrimPrefix.env k (fun _ => by kernel_rfl) (fun _ => rfl) (fun _ => by kernel_rfl) (fun _ => rfl) (fun _ => rfl) (fun _ => rfl) strings_TrimPrefix.ordsOK (fun j hj => ctsOK (l := strings_TrimPrefix.cts j) ⟨(internal_stringslite_TrimPrefix.holds j), trivial⟩) (strings_TrimPrefix.good k) (strings_TrimPrefix.eq k) (Nat.le_of_ble_eq_true (by kernel_rfl)) (by kernel_rfl) (by kernel_rfl) (by kernel_rfl) (fun _ => by kernel_rfl)
def impl_expAtom.p_j3 : Pat := ⟨[(0, .one (.val .str))], []⟩
def impl_expAtom.c_j3 : Cut sg (HL sg.S [.bool]) := ⟨impl_expAtom.p_j3, [.str], fun k h => impl_expAtom.j3 k h⟩
def impl_expAtom.p_j5 : Pat := ⟨[(0, .one (.val .str)), (3, .one (.val (.int .i64))), (28, .one (.val .bool))], []⟩
def impl_expAtom.c_j5 : Cut sg (HL sg.S [.bool]) := ⟨impl_expAtom.p_j5, [.str, (.int .i64), .bool], fun k h => impl_expAtom.j5 k h.1 h.2.1 h.2.2⟩
def impl_expAtom.p_l6 : Pat := ⟨[(33, .one (.val (.sl 5 (.int .u8)))), (34, .one (.val (.int .i64))), (35, .one (.val (.int .i64)))], []⟩
def impl_expAtom.c_l6 : Cut sg (HL sg.S [.bool]) := ⟨impl_expAtom.p_l6, [(.sl 5 (.int .u8)), (.int .i64), (.int .i64)], fun k h => impl_expAtom.l6 k h.1 h.2.1 h.2.2⟩
def impl_expAtom.ct (k : Nat) : Ct sg := ⟨true, ⟨[(0, .one (.val .str))], []⟩, ⟨[(0, .one (.val .bool))], []⟩, [.str], [.bool], fun h => impl_expAtom.f k h⟩
def impl_expAtom.cts (k : Nat) : List (Nat × Ct sg) := [(98, strings_TrimPrefix.ct k), (99, LTrim.ct)]
def impl_expAtom.env (k : Nat) : Env sg (HL sg.S [.bool]) := ⟨59, [], k, get (impl_expAtom.cts k), [(6, impl_expAtom.c_l6)], [(3, impl_expAtom.c_j3), (5, impl_expAtom.c_j5)], [], []⟩
theorem impl_expAtom.eq (k : Nat) (h : HL sg.S (impl_expAtom.ct k).its) : (impl_expAtom.ct k).F h = semF (impl_expAtom.ct k) (impl_expAtom.env k) Tryd.f85 (bodyOf Tryd.f85) h := by kernel_rfl
noncomputable def impl_expAtom.pts (m : Nat) := used impl_expAtom.env (ptsOf impl_expAtom.env (bodyOf Tryd.f85) (fun _ => retK Tryd.f85 (impl_expAtom.ct m)))
theorem impl_expAtom.n (m : Nat) : len (impl_expAtom.pts m) = 3 := by kernel_rfl
theorem impl_expAtom.g0 (m : Nat) : AtGood impl_expAtom.env (nth (impl_expAtom.pts m) 0) := joinGood impl_expAtom.c_j3 (by kernel_rfl) (by kernel_rfl) (fun k h => by kernel_rfl)
theorem impl_expAtom.g1 (m : Nat) : AtGood impl_expAtom.env (nth (impl_expAtom.pts m) 1) := joinGood impl_expAtom.c_j5 (by kernel_rfl) (by kernel_rfl) (fun k h => by kernel_rfl)
theorem impl_expAtom.g2 (m : Nat) : AtGood impl_expAtom.env (nth (impl_expAtom.pts m) 2) := loopGood impl_expAtom.c_l6 (by kernel_rfl) (by kernel_rfl) (fun _ => rfl) (fun k h => by kernel_rfl)
theorem impl_expAtom.good (m : Nat) : AllGood impl_expAtom.env (ptsOf impl_expAtom.env (bodyOf Tryd.f85) (fun _ => retK Tryd.f85 (impl_expAtom.ct m))) := allGood 3 (impl_expAtom.n m) (fun i hi => match i with | 0 => impl_expAtom.g0 m | 1 => impl_expAtom.g1 m | 2 => impl_expAtom.g2 m | i + 3 => absurd hi (by omega))
theorem impl_expAtom.ordsOK : ordsB sg (impl_expAtom.env 0).ords (bodyOf Tryd.f85) = true := by kernel_rfl
theorem impl_expAtom.holds (k : Nat) : (impl_expAtom.ct k).Holds Tryd.prog 85 :=
  fn_ok (fn := Tryd.f85) (body := (bodyOf Tryd.f85)) sg.ok sg.tab sg.mixed (by kernel_rfl) (by kernel_rfl) (by kernel_rfl) (impl_expAtom.ct k) impl_expAtom.env k (fun _ => by kernel_rfl) (fun _ => rfl) (fun _ => by kernel_rfl) (fun _ => rfl) (fun _ => rfl) (fun _ => rfl) impl_expAtom.ordsOK (fun j hj => ctsOK (l := impl_expAtom.cts j) ⟨(strings_TrimPrefix.holds j), LTrim.holds, trivial⟩) (impl_expAtom.good k) (impl_expAtom.eq k) (Nat.le_of_ble_eq_true (by kernel_rfl)) (by kernel_rfl) (by kernel_rfl) (by kernel_rfl) (fun _ => by kernel_rfl)
def impl_expId.p_l2 : Pat := ⟨[(0, .one (.val .str)), (6, .one (.val (.sl 5 (.int .u8)))), (7, .one (.val (.int .i64))), (8, .one (.val (.int .i64)))], []⟩
def impl_expId.c_l2 : Cut sg (HL sg.S [.bool]) := ⟨impl_expId.p_l2, [.str, (.sl 5 (.int .u8)), (.int .i64), (.int .i64)], fun k h => impl_expId.l2 k h.1 h.2.1 h.2.2.1 h.2.2.2⟩
def impl_expId.ct (k : Nat) : Ct sg := ⟨true, ⟨[(0, .one (.val .str))], []⟩, ⟨[(0, .one (.val .bool))], []⟩, [.str], [.bool], fun h => impl_expId.f k h⟩
def impl_expId.cts (k : Nat) : List (Nat × Ct sg) := [(85, impl_expAtom.ct k), (97, LIndexByte.ct)]
def impl_expId.env (k : Nat) : Env sg (HL sg.S [.bool]) := ⟨40, [], k, get (impl_expId.cts k), [(2, impl_expId.c_l2)], [], [], []⟩
theorem impl_expId.eq (k : Nat) (h : HL sg.S (impl_expId.ct k).its) : (impl_expId.ct k).F h = semF (impl_expId.ct k) (impl_expId.env k) Tryd.f84 (bodyOf Tryd.f84) h := by kernel_rfl
noncomputable def impl_expId.pts (m : Nat) := used impl_expId.env (ptsOf impl_expId.env (bodyOf Tryd.f84) (fun _ => retK Tryd.f84 (impl_expId.ct m)))
theorem impl_expId.n (m : Nat) : len (impl_expId.pts m) = 1 := by kernel_rfl
theorem impl_expId.g0 (m : Nat) : AtGood impl_expId.env (nth (impl_expId.pts m) 0) := loopGood impl_expId.c_l2 (by kernel_rfl) (by kernel_rfl) (fun _ => rfl) (fun k h => by kernel_rfl)
theorem impl_expId.good (m : Nat) : AllGood impl_expId.env (ptsOf impl_expId.env (bodyOf Tryd.f84) (fun _ => retK Tryd.f84 (impl_expId.ct m))) := allGood 1 (impl_expId.n m) (fun i hi => match i with | 0 => impl_expId.g0 m | i + 1 => absurd hi (by omega))
theorem impl_expId.ordsOK : ordsB sg (impl_expId.env 0).ords (bodyOf Tryd.f84) = true := by kernel_rfl
theorem impl_expId.holds (k : Nat) : (impl_expId.ct k).Holds Tryd.prog 84 :=
  fn_ok (fn := Tryd.f84) (body := (bodyOf Tryd.f84)) sg.ok sg.tab sg.mixed (by kernel_rfl) (by kernel_rfl) (by kernel_rfl) (impl_expId.ct k) impl_expId.env k (fun _ => by kernel_rfl) (fun _ => rfl) (fun _ => by kernel_rfl) (fun _ => rfl) (fun _ => rfl) (fun _ => rfl) impl_expId.ordsOK (fun j hj => ctsOK (l := impl_expId.cts j) ⟨(impl_expAtom.holds j), LIndexByte.holds, trivial⟩) (impl_expId.good k) (impl_expId.eq k) (Nat.le_of_ble_eq_true (by kernel_rfl)) (by kernel_rfl) (by kernel_rfl) (by kernel_rfl) (fun _ => by kernel_rfl)
def impl_expCount.p_j20 : Pat := ⟨[(1, .one (.val (.int .i64))), (2, .one (.ptr 0 0)), (5, .one (.val (.int .i64))), (93, .one (.val .bool))], [.cells [] [.val (.int .i64), .val .str, .val (.sl 3 (.int .i64)), .val (.int .i64), .val (.sl 29 (.st 1))]]⟩
def impl_expCount.c_j20 : Cut sg (HL sg.S [(.int .i64)]) := ⟨impl_expCount.p_j20, [(.int .i64), (.int .i64), .bool, (.int .i64), .str, (.sl 3 (.int .i64)), (.int .i64), (.sl 29 (.st 1))], fun k h => impl_expCount.j20 k h.1 h.2.1 h.2.2.1 h.2.2.2.1 h.2.2.2.2.1 h.2.2.2.2.2.1 h.2.2.2.2.2.2.1 h.2.2.2.2.2.2.2⟩
def impl_expCount.p_j22 : Pat := ⟨[(1, .one (.val (.int .i64))), (2, .one (.ptr 0 0)), (5, .one (.val (.int .i64)))], [.cells [] [.val (.int .i64), .any, .any, .any, .val (.sl 29 (.st 1))]]⟩
def impl_expCount.c_j22 : Cut sg (HL sg.S [(.int .i64)]) := ⟨impl_expCount.p_j22, [(.int .i64), (.int .i64), (.int .i64), (.sl 29 (.st 1))], fun k h => impl_expCount.j22 k h.1 h.2.1 h.2.2.1 h.2.2.2⟩
def impl_expCount.p_j26 : Pat := ⟨[(1, .one (.val (.int .i64))), (2, .one (.ptr 0 0)), (5, .one (.val (.int .i64)))], [.cells [] [.any, .any, .any, .any, .val (.sl 29 (.st 1))]]⟩
def impl_expCount.c_j26 : Cut sg (HL sg.S [(.int .i64)]) := ⟨impl_expCount.p_j26, [(.int .i64), (.int .i64), (.sl 29 (.st 1))], fun k h => impl_expCount.j26 k h.1 h.2.1 h.2.2⟩
def impl_expCount.p_j9 : Pat := ⟨[(2, .one (.ptr 0 0)), (5, .one (.val (.int .i64)))], [.cells [] [.any, .any, .val (.sl 3 (.int .i64)), .any, .any]]⟩
def impl_expCount.c_j9 : Cut sg (HL sg.S [(.int .i64)]) := ⟨impl_expCount.p_j9, [(.int .i64), (.sl 3 (.int .i64))], fun k h => impl_expCount.j9 k h.1 h.2⟩
def impl_expCount.p_l10 : Pat := ⟨[(2, .one (.ptr 0 0)), (5, .one (.val (.int .i64))), (40, .one (.val (.sl 3 (.int .i64)))), (41, .one (.val (.int .i64))), (42, .one (.val (.int .i64)))], [.cells [] [.any, .any, .val (.sl 3 (.int .i64)), .any, .any]]⟩
def impl_expCount.c_l10 : Cut sg (HL sg.S [(.int .i64)]) := ⟨impl_expCount.p_l10, [(.int .i64), (.sl 3 (.int .i64)), (.int .i64), (.int .i64), (.sl 3 (.int .i64))], fun k h => impl_expCount.l10 k h.1 h.2.1 h.2.2.1 h.2.2.2.1 h.2.2.2.2⟩
def impl_expCount.p_l27 : Pat := ⟨[(1, .one (.val (.int .i64))), (5, .one (.val (.int .i64))), (139, .one (.val (.sl 29 (.st 1)))), (140, .one (.val (.int .i64))), (141, .one (.val (.int .i64)))], []⟩
def impl_expCount.c_l27 : Cut sg (HL sg.S [(.int .i64)]) := ⟨impl_expCount.p_l27, [(.int .i64), (.int .i64), (.sl 29 (.st 1)), (.int .i64), (.int .i64)], fun k h => impl_expCount.l27 k h.1 h.2.1 h.2.2.1 h.2.2.2.1 h.2.2.2.2⟩
def impl_expCount.ct (k : Nat) : Ct sg := ⟨true, ⟨[(0, .st 1), (1, .one (.val (.int .i64)))], []⟩, ⟨[(0, .one (.val (.int .i64)))], []⟩, [(.st 1), (.int .i64)], [(.int .i64)], fun h => impl_expCount.f k h.1 h.2⟩
def impl_expCount.cts (k : Nat) : List (Nat × Ct sg) := [(55, impl_expCount.ct k), (84, impl_expId.ct k), (85, impl_expAtom.ct k)]
def impl_expCount.env (k : Nat) : Env sg (HL sg.S [(.int .i64)]) := ⟨158, [], k, get (impl_expCount.cts k), [(10, impl_expCount.c_l10), (27, impl_expCount.c_l27)], [(9, impl_expCount.c_j9), (20, impl_expCount.c_j20), (22, impl_expCount.c_j22), (26, impl_expCount.c_j26)], [], []⟩
theorem impl_expCount.eq (k : Nat) (h : HL sg.S (impl_expCount.ct (k + 1)).its) : (impl_expCount.ct (k + 1)).F h = semF (impl_expCount.ct (k + 1)) (impl_expCount.env k) Tryd.f55 (bodyOf Tryd.f55) h := by kernel_rfl
noncomputable def impl_expCount.pts (m : Nat) := used impl_expCount.env (ptsOf impl_expCount.env (bodyOf Tryd.f55) (fun _ => retK Tryd.f55 (impl_expCount.ct m)))
theorem impl_expCount.n (m : Nat) : len (impl_expCount.pts m) = 6 := by kernel_rfl
theorem impl_expCount.g0 (m : Nat) : AtGood impl_expCount.env (nth (impl_expCount.pts m) 0) := joinGood impl_expCount.c_j9 (by kernel_rfl) (by kernel_rfl) (fun k h => by kernel_rfl)
theorem impl_expCount.g1 (m : Nat) : AtGood impl_expCount.env (nth (impl_expCount.pts m) 1) := loopGood impl_expCount.c_l10 (by kernel_rfl) (by kernel_rfl) (fun _ => rfl) (fun k h => by kernel_rfl)
theorem impl_expCount.g2 (m : Nat) : AtGood impl_expCount.env (nth (impl_expCount.pts m) 2) := joinGood impl_expCount.c_j20 (by kernel_rfl) (by kernel_rfl) (fun k h => by kernel_rfl)
theorem impl_expCount.g3 (m : Nat) : AtGood impl_expCount.env (nth (impl_expCount.pts m) 3) := joinGood impl_expCount.c_j22 (by kernel_rfl) (by kernel_rfl) (fun k h => by kernel_rfl)
theorem impl_expCount.g4 (m : Nat) : AtGood impl_expCount.env (nth (impl_expCount.pts m) 4) := joinGood impl_expCount.c_j26 (by kernel_rfl) (by kernel_rfl) (fun k h => by kernel_rfl)
theorem impl_expCount.g5 (m : Nat) : AtGood impl_expCount.env (nth (impl_expCount.pts m) 5) := loopGood impl_expCount.c_l27 (by kernel_rfl) (by kernel_rfl) (fun _ => rfl) (fun k h => by kernel_rfl)
theorem impl_expCount.good (m : Nat) : AllGood impl_expCount.env (ptsOf impl_expCount.env (bodyOf Tryd.f55) (fun _ => retK Tryd.f55 (impl_expCount.ct m))) := allGood 6 (impl_expCount.n m) (fun i hi => match i with | 0 => impl_expCount.g0 m | 1 => impl_expCount.g1 m | 2 => impl_expCount.g2 m | 3 => impl_expCount.g3 m | 4 => impl_expCount.g4 m | 5 => impl_expCount.g5 m | i + 6 => absurd hi (by omega))
theorem impl_expCount.ordsOK : ordsB sg (impl_expCount.env 0).ords (bodyOf Tryd.f55) = true := by kernel_rfl
theorem impl_expCount.all (k : Nat) : (impl_expCount.ct k).Holds Tryd.prog 55 := by
  induction k using Nat.strongRecOn with
  | _ k ih => cases k with
    | zero => exact ⟨by kernel_rfl, by kernel_rfl, (fun _ => by kernel_rfl), fun _ _ _ _ _ _ _ h => absurd (show none = some _ from h) (by intro e; cases e)⟩
    | succ k => exact fn_ok (fn := Tryd.f55) (body := (bodyOf Tryd.f55)) sg.ok sg.tab sg.mixed (by kernel_rfl) (by kernel_rfl) (by kernel_rfl) (impl_expCount.ct (k + 1)) impl_expCount.env k (fun _ => by kernel_rfl) (fun _ => rfl) (fun _ => by kernel_rfl) (fun _ => rfl) (fun _ => rfl) (fun _ => rfl) impl_expCount.ordsOK (fun j hj => ctsOK (l := impl_expCount.cts j) ⟨(ih j (by omega)), (impl_expId.holds j), (impl_expAtom.holds j), trivial⟩) (impl_expCount.good (k + 1)) (impl_expCount.eq k) (Nat.le_of_ble_eq_true (by kernel_rfl)) (by kernel_rfl) (by kernel_rfl) (by kernel_rfl) (fun _ => by kernel_rfl)
theorem impl_expCount.holds (k : Nat) : (impl_expCount.ct k).Holds Tryd.prog 55 := (impl_expCount.all k)
def impl_ExpFormOk.ct (k : Nat) : Ct sg := ⟨true, ⟨[(0, .st 1)], []⟩, ⟨[(0, .one (.val .bool))], []⟩, [(.st 1)], [.bool], fun h => impl_ExpFormOk.f k h⟩
def impl_ExpFormOk.cts (k : Nat) : List (Nat × Ct sg) := [(55, impl_expCount.ct k)]
def impl_ExpFormOk.env (k : Nat) : Env sg (HL sg.S [.bool]) := ⟨6, [], k, get (impl_ExpFormOk.cts k), [], [], [], []⟩
theorem impl_ExpFormOk.eq (k : Nat) (h : HL sg.S (impl_ExpFormOk.ct k).its) : (impl_ExpFormOk.ct k).F h = semF (impl_ExpFormOk.ct k) (impl_ExpFormOk.env k) Tryd.f24 (bodyOf Tryd.f24) h := by kernel_rfl
noncomputable def impl_ExpFormOk.pts (m : Nat) := used impl_ExpFormOk.env (ptsOf impl_ExpFormOk.env (bodyOf Tryd.f24) (fun _ => retK Tryd.f24 (impl_ExpFormOk.ct m)))
theorem impl_ExpFormOk.n (m : Nat) : len (impl_ExpFormOk.pts m) = 0 := by kernel_rfl
theorem impl_ExpFormOk.good (m : Nat) : AllGood impl_ExpFormOk.env (ptsOf impl_ExpFormOk.env (bodyOf Tryd.f24) (fun _ => retK Tryd.f24 (impl_ExpFormOk.ct m))) := allGood 0 (impl_ExpFormOk.n m) (fun i hi => match i with | i + 0 => absurd hi (by omega))
theorem impl_ExpFormOk.ordsOK : ordsB sg (impl_ExpFormOk.env 0).ords (bodyOf Tryd.f24) = true := by kernel_rfl
theorem impl_ExpFormOk.holds (k : Nat) : (impl_ExpFormOk.ct k).Holds Tryd.prog 24 :=
  fn_ok (fn := Tryd.f24) (body := (bodyOf Tryd.f24)) sg.ok sg.tab sg.mixed (by kernel_rfl) (by kernel_rfl) (by kernel_rfl) (impl_ExpFormOk.ct k) impl_ExpFormOk.env k (fun _ => by kernel_rfl) (fun _ => rfl) (fun _ => by kernel_rfl) (fun _ => rfl) (fun _ => rfl) (fun _ => rfl) impl_ExpFormOk.ordsOK (fun j hj => ctsOK (l := impl_ExpFormOk.cts j) ⟨(impl_expCount.holds j), trivial⟩) (impl_ExpFormOk.good k) (impl_ExpFormOk.eq k) (Nat.le_of_ble_eq_true (by kernel_rfl)) (by kernel_rfl) (by kernel_rfl) (by kernel_rfl) (fun _ => by kernel_rfl)
def impl_expLiterals.p_l2 : Pat := ⟨[(5, .one (.val (.sl 29 (.st 1)))), (6, .one (.val (.int .i64))), (7, .one (.val (.int .i64)))], []⟩
def impl_expLiterals.c_l2 : Cut sg (HL sg.S [.bool]) := ⟨impl_expLiterals.p_l2, [(.sl 29 (.st 1)), (.int .i64), (.int .i64)], fun k h => impl_expLiterals.l2 k h.1 h.2.1 h.2.2⟩
def impl_expLiterals.ct (k : Nat) : Ct sg := ⟨true, ⟨[(0, .one (.val (.sl 29 (.st 1))))], []⟩, ⟨[(0, .one (.val .bool))], []⟩, [(.sl 29 (.st 1))], [.bool], fun h => impl_expLiterals.f k h⟩
def impl_expLiterals.cts (k : Nat) : List (Nat × Ct sg) := [(24, impl_ExpFormOk.ct k)]
def impl_expLiterals.env (k : Nat) : Env sg (HL sg.S [.bool]) := ⟨30, [], k, get (impl_expLiterals.cts k), [(2, impl_expLiterals.c_l2)], [], [], []⟩
theorem impl_expLiterals.eq (k : Nat) (h : HL sg.S (impl_expLiterals.ct k).its) : (impl_expLiterals.ct k).F h = semF (impl_expLiterals.ct k) (impl_expLiterals.env k) Tryd.f45 (bodyOf Tryd.f45) h := by kernel_rfl
noncomputable def impl_expLiterals.pts (m : Nat) := used impl_expLiterals.env (ptsOf impl_expLiterals.env (bodyOf Tryd.f45) (fun _ => retK Tryd.f45 (impl_expLiterals.ct m)))
theorem impl_expLiterals.n (m : Nat) : len (impl_expLiterals.pts m) = 1 := by kernel_rfl
theorem impl_expLiterals.g0 (m : Nat) : AtGood impl_expLiterals.env (nth (impl_expLiterals.pts m) 0) := loopGood impl_expLiterals.c_l2 (by kernel_rfl) (by kernel_rfl) (fun _ => rfl) (fun k h => by kernel_rfl)
theorem impl_expLiterals.good (m : Nat) : AllGood impl_expLiterals.env (ptsOf impl_expLiterals.env (bodyOf Tryd.f45) (fun _ => retK Tryd.f45 (impl_expLiterals.ct m))) := allGood 1 (impl_expLiterals.n m) (fun i hi => match i with | 0 => impl_expLiterals.g0 m | i + 1 => absurd hi (by omega))
theorem impl_expLiterals.ordsOK : ordsB sg (impl_expLiterals.env 0).ords (bodyOf Tryd.f45) = true := by kernel_rfl
theorem impl_expLiterals.holds (k : Nat) : (impl_expLiterals.ct k).Holds Tryd.prog 45 :=
  fn_ok (fn := Tryd.f45) (body := (bodyOf Tryd.f45)) sg.ok sg.tab sg.mixed (by kernel_rfl) (by kernel_rfl) (by kernel_rfl) (impl_expLiterals.ct k) impl_expLiterals.env k (fun _ => by kernel_rfl) (fun _ => rfl) (fun _ => by kernel_rfl) (fun _ => rfl) (fun _ => rfl) (fun _ => rfl) impl_expLiterals.ordsOK (fun j hj => ctsOK (l := impl_expLiterals.cts j) ⟨(impl_ExpFormOk.holds j), trivial⟩) (impl_expLiterals.good k) (impl_expLiterals.eq k) (Nat.le_of_ble_eq_true (by kernel_rfl)) (by kernel_rfl) (by kernel_rfl) (by kernel_rfl) (fun _ => by kernel_rfl)
def impl_expIs.ct (k : Nat) : Ct sg := ⟨true, ⟨[(0, .st 1), (1, .one (.val .str))], []⟩, ⟨[(0, .one (.val .bool))], []⟩, [(.st 1), .str], [.bool], fun h => impl_expIs.f k h.1 h.2⟩
def impl_expIs.cts (k : Nat) : List (Nat × Ct sg) := []
def impl_expIs.env (k : Nat) : Env sg (HL sg.S [.bool]) := ⟨14, [], k, get (impl_expIs.cts k), [], [], [], []⟩
theorem impl_expIs.eq (k : Nat) (h : HL sg.S (impl_expIs.ct k).its) : (impl_expIs.ct k).F h = semF (impl_expIs.ct k) (impl_expIs.env k) Tryd.f46 (bodyOf Tryd.f46) h := by kernel_rfl
noncomputable def impl_expIs.pts (m : Nat) := used impl_expIs.env (ptsOf impl_expIs.env (bodyOf Tryd.f46) (fun _ => retK Tryd.f46 (impl_expIs.ct m)))
theorem impl_expIs.n (m : Nat) : len (impl_expIs.pts m) = 0 := by kernel_rfl
theorem impl_expIs.good (m : Nat) : AllGood impl_expIs.env (ptsOf impl_expIs.env (bodyOf Tryd.f46) (fun _ => retK Tryd.f46 (impl_expIs.ct m))) := allGood 0 (impl_expIs.n m) (fun i hi => match i with | i + 0 => absurd hi (by omega))
theorem impl_expIs.ordsOK : ordsB sg (impl_expIs.env 0).ords (bodyOf Tryd.f46) = true := by kernel_rfl
theorem impl_expIs.holds (k : Nat) : (impl_expIs.ct k).Holds Tryd.prog 46 :=
  fn_ok (fn := Tryd.f46) (body := (bodyOf Tryd.f46)) sg.ok sg.tab sg.mixed (by kernel_rfl) (by kernel_rfl) (by kernel_rfl) (impl_expIs.ct k) impl_expIs.env k (fun _ => by kernel_rfl) (fun _ => rfl) (fun _ => by kernel_rfl) (fun _ => rfl) (fun _ => rfl) (fun _ => rfl) impl_expIs.ordsOK (fun j hj => ctsOK (l := impl_expIs.cts j) trivial) (impl_expIs.good k) (impl_expIs.eq k) (Nat.le_of_ble_eq_true (by kernel_rfl)) (by kernel_rfl) (by kernel_rfl) (by kernel_rfl) (fun _ => by kernel_rfl)
def impl_expInts.p_l4 : Pat := ⟨[(0, .one (.val (.sl 3 (.int .i64)))), (1, .one (.val (.sl 3 (.int .i64)))), (12, .one (.val (.int .i64))), (13, .one (.val (.int .i64)))], []⟩
def impl_expInts.c_l4 : Cut sg (HL sg.S [.bool]) := ⟨impl_expInts.p_l4, [(.sl 3 (.int .i64)), (.sl 3 (.int .i64)), (.int .i64), (.int .i64)], fun k h => impl_expInts.l4 k h.1 h.2.1 h.2.2.1 h.2.2.2⟩
def impl_expInts.ct (k : Nat) : Ct sg := ⟨true, ⟨[(0, .one (.val (.sl 3 (.int .i64)))), (1, .one (.val (.sl 3 (.int .i64))))], []⟩, ⟨[(0, .one (.val .bool))], []⟩, [(.sl 3 (.int .i64)), (.sl 3 (.int .i64))], [.bool], fun h => impl_expInts.f k h.1 h.2⟩
def impl_expInts.cts (k : Nat) : List (Nat × Ct sg) := []
def impl_expInts.env (k : Nat) : Env sg (HL sg.S [.bool]) := ⟨26, [], k, get (impl_expInts.cts k), [(4, impl_expInts.c_l4)], [], [(6, [[0, 1, 2, 3, 4, 5, 6, 7, 8]])], []⟩
theorem impl_expInts.eq (k : Nat) (h : HL sg.S (impl_expInts.ct k).its) : (impl_expInts.ct k).F h = semF (impl_expInts.ct k) (impl_expInts.env k) Tryd.f105 (bodyOf Tryd.f105) h := by kernel_rfl
noncomputable def impl_expInts.pts (m : Nat) := used impl_expInts.env (ptsOf impl_expInts.env (bodyOf Tryd.f105) (fun _ => retK Tryd.f105 (impl_expInts.ct m)))
theorem impl_expInts.n (m : Nat) : len (impl_expInts.pts m) = 1 := by kernel_rfl
theorem impl_expInts.g0 (m : Nat) : AtGood impl_expInts.env (nth (impl_expInts.pts m) 0) := loopGood impl_expInts.c_l4 (by kernel_rfl) (by kernel_rfl) (fun _ => rfl) (fun k h => by kernel_rfl)
theorem impl_expInts.good (m : Nat) : AllGood impl_expInts.env (ptsOf impl_expInts.env (bodyOf Tryd.f105) (fun _ => retK Tryd.f105 (impl_expInts.ct m))) := allGood 1 (impl_expInts.n m) (fun i hi => match i with | 0 => impl_expInts.g0 m | i + 1 => absurd hi (by omega))
theorem impl_expInts.ordsOK : ordsB sg (impl_expInts.env 0).ords (bodyOf Tryd.f105) = true := by kernel_rfl
theorem impl_expInts.holds (k : Nat) : (impl_expInts.ct k).Holds Tryd.prog 105 :=
  fn_ok (fn := Tryd.f105) (body := (bodyOf Tryd.f105)) sg.ok sg.tab sg.mixed (by kernel_rfl) (by kernel_rfl) (by kernel_rfl) (impl_expInts.ct k) impl_expInts.env k (fun _ => by kernel_rfl) (fun _ => rfl) (fun _ => by kernel_rfl) (fun _ => rfl) (fun _ => rfl) (fun _ => rfl) impl_expInts.ordsOK (fun j hj => ctsOK (l := impl_expInts.cts j) trivial) (impl_expInts.good k) (impl_expInts.eq k) (Nat.le_of_ble_eq_true (by kernel_rfl)) (by kernel_rfl) (by kernel_rfl) (by kernel_rfl) (fun _ => by kernel_rfl)
def impl_expSame.ct (k : Nat) : Ct sg := ⟨true, ⟨[(0, .st 1), (1, .st 1)], []⟩, ⟨[(0, .one (.val .bool))], []⟩, [(.st 1), (.st 1)], [.bool], fun h => impl_expSame.f k h.1 h.2⟩
def impl_expSame.cts (k : Nat) : List (Nat × Ct sg) := [(105, impl_expInts.ct k)]
def impl_expSame.env (k : Nat) : Env sg (HL sg.S [.bool]) := ⟨17, [], k, get (impl_expSame.cts k), [], [], [], []⟩
theorem impl_expSame.eq (k : Nat) (h : HL sg.S (impl_expSame.ct k).its) : (impl_expSame.ct k).F h = semF (impl_expSame.ct k) (impl_expSame.env k) Tryd.f93 (bodyOf Tryd.f93) h := by kernel_rfl
noncomputable def impl_expSame.pts (m : Nat) := used impl_expSame.env (ptsOf impl_expSame.env (bodyOf Tryd.f93) (fun _ => retK Tryd.f93 (impl_expSame.ct m)))
theorem impl_expSame.n (m : Nat) : len (impl_expSame.pts m) = 0 := by kernel_rfl
theorem impl_expSame.good (m : Nat) : AllGood impl_expSame.env (ptsOf impl_expSame.env (bodyOf Tryd.f93) (fun _ => retK Tryd.f93 (impl_expSame.ct m))) := allGood 0 (impl_expSame.n m) (fun i hi => match i with | i + 0 => absurd hi (by omega))
theorem impl_expSame.ordsOK : ordsB sg (impl_expSame.env 0).ords (bodyOf Tryd.f93) = true := by kernel_rfl
theorem impl_expSame.holds (k : Nat) : (impl_expSame.ct k).Holds Tryd.prog 93 :=
  fn_ok (fn := Tryd.f93) (body := (bodyOf Tryd.f93)) sg.ok sg.tab sg.mixed (by kernel_rfl) (by kernel_rfl) (by kernel_rfl) (impl_expSame.ct k) impl_expSame.env k (fun _ => by kernel_rfl) (fun _ => rfl) (fun _ => by kernel_rfl) (fun _ => rfl) (fun _ => rfl) (fun _ => rfl) impl_expSame.ordsOK (fun j hj => ctsOK (l := impl_expSame.cts j) ⟨(impl_expInts.holds j), trivial⟩) (impl_expSame.good k) (impl_expSame.eq k) (Nat.le_of_ble_eq_true (by kernel_rfl)) (by kernel_rfl) (by kernel_rfl) (by kernel_rfl) (fun _ => by kernel_rfl)
def impl_expIn.p_l2 : Pat := ⟨[(3, .one (.ptr 0 0)), (7, .one (.val (.sl 29 (.st 1)))), (8, .one (.val (.int .i64))), (9, .one (.val (.int .i64)))], [.cells [] [.val (.int .i64), .val .str, .val (.sl 3 (.int .i64)), .val (.int .i64), .val (.sl 29 (.st 1))]]⟩
def impl_expIn.c_l2 : Cut sg (HL sg.S [.bool]) := ⟨impl_expIn.p_l2, [(.sl 29 (.st 1)), (.int .i64), (.int .i64), (.int .i64), .str, (.sl 3 (.int .i64)), (.int .i64), (.sl 29 (.st 1))], fun k h => impl_expIn.l2 k h.1 h.2.1 h.2.2.1 h.2.2.2.1 h.2.2.2.2.1 h.2.2.2.2.2.1 h.2.2.2.2.2.2.1 h.2.2.2.2.2.2.2⟩
def impl_expIn.ct (k : Nat) : Ct sg := ⟨true, ⟨[(0, .one (.val (.sl 29 (.st 1)))), (1, .st 1)], []⟩, ⟨[(0, .one (.val .bool))], []⟩, [(.sl 29 (.st 1)), (.st 1)], [.bool], fun h => impl_expIn.f k h.1 h.2⟩
def impl_expIn.cts (k : Nat) : List (Nat × Ct sg) := [(93, impl_expSame.ct k)]
def impl_expIn.env (k : Nat) : Env sg (HL sg.S [.bool]) := ⟨17, [], k, get (impl_expIn.cts k), [(2, impl_expIn.c_l2)], [], [], []⟩
theorem impl_expIn.eq (k : Nat) (h : HL sg.S (impl_expIn.ct k).its) : (impl_expIn.ct k).F h = semF (impl_expIn.ct k) (impl_expIn.env k) Tryd.f75 (bodyOf Tryd.f75) h := by kernel_rfl
noncomputable def impl_expIn.pts (m : Nat) := used impl_expIn.env (ptsOf impl_expIn.env (bodyOf Tryd.f75) (fun _ => retK Tryd.f75 (impl_expIn.ct m)))
theorem impl_expIn.n (m : Nat) : len (impl_expIn.pts m) = 1 := by kernel_rfl
theorem impl_expIn.g0 (m : Nat) : AtGood impl_expIn.env (nth (impl_expIn.pts m) 0) := loopGood impl_expIn.c_l2 (by kernel_rfl) (by kernel_rfl) (fun _ => rfl) (fun k h => by kernel_rfl)
theorem impl_expIn.good (m : Nat) : AllGood impl_expIn.env (ptsOf impl_expIn.env (bodyOf Tryd.f75) (fun _ => retK Tryd.f75 (impl_expIn.ct m))) := allGood 1 (impl_expIn.n m) (fun i hi => match i with | 0 => impl_expIn.g0 m | i + 1 => absurd hi (by omega))
theorem impl_expIn.ordsOK : ordsB sg (impl_expIn.env 0).ords (bodyOf Tryd.f75) = true := by kernel_rfl
theorem impl_expIn.holds (k : Nat) : (impl_expIn.ct k).Holds Tryd.prog 75 :=
  fn_ok (fn := Tryd.f75) (body := (bodyOf Tryd.f75)) sg.ok sg.tab sg.mixed (by kernel_rfl) (by kernel_rfl) (by kernel_rfl) (impl_expIn.ct k) impl_expIn.env k (fun _ => by kernel_rfl) (fun _ => rfl) (fun _ => by kernel_rfl) (fun _ => rfl) (fun _ => rfl) (fun _ => rfl) impl_expIn.ordsOK (fun j hj => ctsOK (l := impl_expIn.cts j) ⟨(impl_expSame.holds j), trivial⟩) (impl_expIn.good k) (impl_expIn.eq k) (Nat.le_of_ble_eq_true (by kernel_rfl)) (by kernel_rfl) (by kernel_rfl) (by kernel_rfl) (fun _ => by kernel_rfl)
def impl_expParts.ct (k : Nat) : Ct sg := ⟨false, ⟨[(0, .st 1)], []⟩, ⟨[(0, .one (.val (.sl 29 (.st 1)))), (1, .one (.val (.po (.st 1))))], []⟩, [(.st 1)], [(.sl 29 (.st 1)), (.po (.st 1))], fun h => impl_expParts.f k h⟩
def impl_expParts.cts (k : Nat) : List (Nat × Ct sg) := []
def impl_expParts.env (k : Nat) : Env sg (HL sg.S [(.sl 29 (.st 1)), (.po (.st 1))]) := ⟨29, [], k, get (impl_expParts.cts k), [], [], [], [3, 5, 6]⟩
theorem impl_expParts.eq (k : Nat) (h : HL sg.S (impl_expParts.ct k).its) : (impl_expParts.ct k).F h = semF (impl_expParts.ct k) (impl_expParts.env k) Tryd.f76 (bodyOf Tryd.f76) h := by kernel_rfl
noncomputable def impl_expParts.pts (m : Nat) := used impl_expParts.env (ptsOf impl_expParts.env (bodyOf Tryd.f76) (fun _ => retK Tryd.f76 (impl_expParts.ct m)))
theorem impl_expParts.n (m : Nat) : len (impl_expParts.pts m) = 0 := by kernel_rfl
theorem impl_expParts.good (m : Nat) : AllGood impl_expParts.env (ptsOf impl_expParts.env (bodyOf Tryd.f76) (fun _ => retK Tryd.f76 (impl_expParts.ct m))) := allGood 0 (impl_expParts.n m) (fun i hi => match i with | i + 0 => absurd hi (by omega))
theorem impl_expParts.ordsOK : ordsB sg (impl_expParts.env 0).ords (bodyOf Tryd.f76) = true := by kernel_rfl
theorem impl_expParts.holds (k : Nat) : (impl_expParts.ct k).Holds Tryd.prog 76 :=
  fn_ok (fn := Tryd.f76) (body := (bodyOf Tryd.f76)) sg.ok sg.tab sg.mixed (by kernel_rfl) (by kernel_rfl) (by kernel_rfl) (impl_expParts.ct k) impl_expParts.env k (fun _ => by kernel_rfl) (fun _ => rfl) (fun _ => by kernel_rfl) (fun _ => rfl) (fun _ => rfl) (fun _ => rfl) impl_expParts.ordsOK (fun j hj => ctsOK (l := impl_expParts.cts j) trivial) (impl_expParts.good k) (impl_expParts.eq k) (Nat.le_of_ble_eq_true (by kernel_rfl)) (by kernel_rfl) (by kernel_rfl) (by kernel_rfl) (fun h => by cases h)
def impl_expNames_look.p_d5 : Pat := ⟨[(0, .one (.ptr 0 0)), (3, .one (.ptr 1 0))], [.cells [] [.val (.sl 29 (.st 1)), .arr 2, .val .bool], .cells [] [.val (.int .i64), .val .str, .val (.sl 3 (.int .i64)), .val (.int .i64), .val (.sl 29 (.st 1))], .arr 29 (.st 1)]⟩
def impl_expNames_look.c_d5 : Cut sg (HL sg.S [(.sl 29 (.st 1)), .bool, (.sl 29 (.st 1))]) := ⟨impl_expNames_look.p_d5, [(.sl 29 (.st 1)), .bool, (.int .i64), .str, (.sl 3 (.int .i64)), (.int .i64), (.sl 29 (.st 1)), (.sl 29 (.st 1))], fun k h => impl_expNames_look.d5 k h.1 h.2.1 h.2.2.1 h.2.2.2.1 h.2.2.2.2.1 h.2.2.2.2.2.1 h.2.2.2.2.2.2.1 h.2.2.2.2.2.2.2⟩
def impl_expNames_look.p_j19 : Pat := ⟨[(0, .one (.ptr 0 0)), (5, .one (.val (.po (.st 1))))], [.cells [] [.val (.sl 29 (.st 1)), .arr 1, .val .bool], .arr 29 (.st 1)]⟩
def impl_expNames_look.c_j19 : Cut sg (HL sg.S [(.sl 29 (.st 1)), .bool, (.sl 29 (.st 1))]) := ⟨impl_expNames_look.p_j19, [(.po (.st 1)), (.sl 29 (.st 1)), .bool, (.sl 29 (.st 1))], fun k h => impl_expNames_look.j19 k h.1 h.2.1 h.2.2.1 h.2.2.2⟩
def impl_expNames_look.p_j4 : Pat := ⟨[(0, .one (.ptr 0 0)), (3, .one (.ptr 1 0))], [.cells [] [.val (.sl 29 (.st 1)), .arr 2, .val .bool], .cells [] [.val (.int .i64), .val .str, .val (.sl 3 (.int .i64)), .val (.int .i64), .val (.sl 29 (.st 1))], .arr 29 (.st 1)]⟩
def impl_expNames_look.c_j4 : Cut sg (HL sg.S [(.sl 29 (.st 1)), .bool, (.sl 29 (.st 1))]) := ⟨impl_expNames_look.p_j4, [(.sl 29 (.st 1)), .bool, (.int .i64), .str, (.sl 3 (.int .i64)), (.int .i64), (.sl 29 (.st 1)), (.sl 29 (.st 1))], fun k h => impl_expNames_look.j4 k h.1 h.2.1 h.2.2.1 h.2.2.2.1 h.2.2.2.2.1 h.2.2.2.2.2.1 h.2.2.2.2.2.2.1 h.2.2.2.2.2.2.2⟩
def impl_expNames_look.p_j8 : Pat := ⟨[(0, .one (.ptr 0 0)), (3, .one (.ptr 1 0)), (55, .one (.val .bool))], [.cells [] [.val (.sl 29 (.st 1)), .arr 2, .val .bool], .cells [] [.val (.int .i64), .val .str, .val (.sl 3 (.int .i64)), .val (.int .i64), .val (.sl 29 (.st 1))], .arr 29 (.st 1)]⟩
def impl_expNames_look.c_j8 : Cut sg (HL sg.S [(.sl 29 (.st 1)), .bool, (.sl 29 (.st 1))]) := ⟨impl_expNames_look.p_j8, [.bool, (.sl 29 (.st 1)), .bool, (.int .i64), .str, (.sl 3 (.int .i64)), (.int .i64), (.sl 29 (.st 1)), (.sl 29 (.st 1))], fun k h => impl_expNames_look.j8 k h.1 h.2.1 h.2.2.1 h.2.2.2.1 h.2.2.2.2.1 h.2.2.2.2.2.1 h.2.2.2.2.2.2.1 h.2.2.2.2.2.2.2.1 h.2.2.2.2.2.2.2.2⟩
def impl_expNames_look.p_l11 : Pat := ⟨[(0, .one (.ptr 0 0)), (5, .one (.val (.po (.st 1)))), (6, .one (.val (.int .i64))), (63, .one (.val (.sl 29 (.st 1)))), (64, .one (.val (.int .i64))), (65, .one (.val (.int .i64)))], [.cells [] [.val (.sl 29 (.st 1)), .arr 1, .val .bool], .arr 29 (.st 1)]⟩
def impl_expNames_look.c_l11 : Cut sg (HL sg.S [(.sl 29 (.st 1)), .bool, (.sl 29 (.st 1))]) := ⟨impl_expNames_look.p_l11, [(.po (.st 1)), (.int .i64), (.sl 29 (.st 1)), (.int .i64), (.int .i64), (.sl 29 (.st 1)), .bool, (.sl 29 (.st 1))], fun k h => impl_expNames_look.l11 k h.1 h.2.1 h.2.2.1 h.2.2.2.1 h.2.2.2.2.1 h.2.2.2.2.2.1 h.2.2.2.2.2.2.1 h.2.2.2.2.2.2.2⟩
def impl_expNames_look.ct (k : Nat) : Ct sg := ⟨false, ⟨[(0, .one (.ptr 0 0)), (1, .st 1)], [.cells [] [.val (.sl 29 (.st 1)), .arr 1, .val .bool], .arr 29 (.st 1)]⟩, ⟨[], [.cells [] [.val (.sl 29 (.st 1)), .arr 1, .val .bool], .arr 29 (.st 1)]⟩, [(.st 1), (.sl 29 (.st 1)), .bool, (.sl 29 (.st 1))], [(.sl 29 (.st 1)), .bool, (.sl 29 (.st 1))], fun h => impl_expNames_look.f k h.1 h.2.1 h.2.2.1 h.2.2.2⟩
def impl_expNames_look.cts (k : Nat) : List (Nat × Ct sg) := [(46, impl_expIs.ct k), (47, impl_expNames_look.ct k), (75, impl_expIn.ct k), (76, impl_expParts.ct k)]
def impl_expNames_look.env (k : Nat) : Env sg (HL sg.S [(.sl 29 (.st 1)), .bool, (.sl 29 (.st 1))]) := ⟨120, [0], k, get (impl_expNames_look.cts k), [(11, impl_expNames_look.c_l11)], [(100005, impl_expNames_look.c_d5), (4, impl_expNames_look.c_j4), (8, impl_expNames_look.c_j8), (19, impl_expNames_look.c_j19)], [(3, [[0, 1, 2, 3, 4, 5, 6, 7, 8, 9, 10, 11, 12, 13, 14, 15]]), (4, [[0, 1, 2, 3, 4, 5, 6, 7, 8, 9, 10, 11, 12, 13, 14, 15]]), (5, [[0, 1, 2, 3, 5, 4, 6, 7, 8, 10, 11, 9, 12], [0, 1, 2, 3, 5, 4, 6, 7, 8, 10, 11, 12, 9], [0, 1, 2, 3, 5, 6, 4, 7, 8, 10, 11, 9, 12], [0, 1, 2, 3, 5, 6, 4, 7, 8, 10, 11, 12, 9], [0, 1, 2, 4, 3, 5, 6, 7, 8, 10, 11, 9, 12], [0, 1, 2, 4, 3, 5, 6, 7, 8, 10, 11, 12, 9], [0, 1, 2, 4, 6, 3, 5, 7, 8, 10, 11, 9, 12], [0, 1, 2, 4, 6, 3, 5, 7, 8, 10, 11, 12, 9], [0, 1, 2, 6, 3, 4, 5, 7, 8, 10, 11, 9, 12], [0, 1, 2, 6, 3, 4, 5, 7, 8, 10, 11, 12, 9]])], []⟩
theorem impl_expNames_look.eq (k : Nat) (h : HL sg.S (impl_expNames_look.ct (k + 1)).its) : (impl_expNames_look.ct (k + 1)).F h = semF (impl_expNames_look.ct (k + 1)) (impl_expNames_look.env k) Tryd.f47 (bodyOf Tryd.f47) h := by kernel_rfl
noncomputable def impl_expNames_look.pts (m : Nat) := used impl_expNames_look.env (ptsOf impl_expNames_look.env (bodyOf Tryd.f47) (fun _ => retK Tryd.f47 (impl_expNames_look.ct m)))
theorem impl_expNames_look.n (m : Nat) : len (impl_expNames_look.pts m) = 14 := by kernel_rfl
theorem impl_expNames_look.g0 (m : Nat) : AtGood impl_expNames_look.env (nth (impl_expNames_look.pts m) 0) := joinGood impl_expNames_look.c_j4 (by kernel_rfl) (by kernel_rfl) (fun k h => by kernel_rfl)
theorem impl_expNames_look.g1 (m : Nat) : AtGood impl_expNames_look.env (nth (impl_expNames_look.pts m) 1) := joinGood impl_expNames_look.c_d5 (by kernel_rfl) (by kernel_rfl) (fun k h => by kernel_rfl)
theorem impl_expNames_look.g2 (m : Nat) : AtGood impl_expNames_look.env (nth (impl_expNames_look.pts m) 2) := joinGood impl_expNames_look.c_d5 (by kernel_rfl) (by kernel_rfl) (fun k h => by kernel_rfl)
theorem impl_expNames_look.g3 (m : Nat) : AtGood impl_expNames_look.env (nth (impl_expNames_look.pts m) 3) := joinGood impl_expNames_look.c_d5 (by kernel_rfl) (by kernel_rfl) (fun k h => by kernel_rfl)
theorem impl_expNames_look.g4 (m : Nat) : AtGood impl_expNames_look.env (nth (impl_expNames_look.pts m) 4) := joinGood impl_expNames_look.c_d5 (by kernel_rfl) (by kernel_rfl) (fun k h => by kernel_rfl)
theorem impl_expNames_look.g5 (m : Nat) : AtGood impl_expNames_look.env (nth (impl_expNames_look.pts m) 5) := joinGood impl_expNames_look.c_d5 (by kernel_rfl) (by kernel_rfl) (fun k h => by kernel_rfl)
theorem impl_expNames_look.g6 (m : Nat) : AtGood impl_expNames_look.env (nth (impl_expNames_look.pts m) 6) := joinGood impl_expNames_look.c_d5 (by kernel_rfl) (by kernel_rfl) (fun k h => by kernel_rfl)
theorem impl_expNames_look.g7 (m : Nat) : AtGood impl_expNames_look.env (nth (impl_expNames_look.pts m) 7) := joinGood impl_expNames_look.c_d5 (by kernel_rfl) (by kernel_rfl) (fun k h => by kernel_rfl)
theorem impl_expNames_look.g8 (m : Nat) : AtGood impl_expNames_look.env (nth (impl_expNames_look.pts m) 8) := joinGood impl_expNames_look.c_d5 (by kernel_rfl) (by kernel_rfl) (fun k h => by kernel_rfl)
theorem impl_expNames_look.g9 (m : Nat) : AtGood impl_expNames_look.env (nth (impl_expNames_look.pts m) 9) := joinGood impl_expNames_look.c_d5 (by kernel_rfl) (by kernel_rfl) (fun k h => by kernel_rfl)
theorem impl_expNames_look.g10 (m : Nat) : AtGood impl_expNames_look.env (nth (impl_expNames_look.pts m) 10) := joinGood impl_expNames_look.c_d5 (by kernel_rfl) (by kernel_rfl) (fun k h => by kernel_rfl)
theorem impl_expNames_look.g11 (m : Nat) : AtGood impl_expNames_look.env (nth (impl_expNames_look.pts m) 11) := joinGood impl_expNames_look.c_j8 (by kernel_rfl) (by kernel_rfl) (fun k h => by kernel_rfl)
theorem impl_expNames_look.g12 (m : Nat) : AtGood impl_expNames_look.env (nth (impl_expNames_look.pts m) 12) := loopGood impl_expNames_look.c_l11 (by kernel_rfl) (by kernel_rfl) (fun _ => rfl) (fun k h => by kernel_rfl)
theorem impl_expNames_look.g13 (m : Nat) : AtGood impl_expNames_look.env (nth (impl_expNames_look.pts m) 13) := joinGood impl_expNames_look.c_j19 (by kernel_rfl) (by kernel_rfl) (fun k h => by kernel_rfl)
theorem impl_expNames_look.good (m : Nat) : AllGood impl_expNames_look.env (ptsOf impl_expNames_look.env (bodyOf Tryd.f47) (fun _ => retK Tryd.f47 (impl_expNames_look.ct m))) := allGood 14 (impl_expNames_look.n m) (fun i hi => match i with | 0 => impl_expNames_look.g0 m | 1 => impl_expNames_look.g1 m | 2 => impl_expNames_look.g2 m | 3 => impl_expNames_look.g3 m | 4 => impl_expNames_look.g4 m | 5 => impl_expNames_look.g5 m | 6 => impl_expNames_look.g6 m | 7 => impl_expNames_look.g7 m | 8 => impl_expNames_look.g8 m | 9 => impl_expNames_look.g9 m | 10 => impl_expNames_look.g10 m | 11 => impl_expNames_look.g11 m | 12 => impl_expNames_look.g12 m | 13 => impl_expNames_look.g13 m | i + 14 => absurd hi (by omega))
theorem impl_expNames_look.ordsOK : ordsB sg (impl_expNames_look.env 0).ords (bodyOf Tryd.f47) = true := by kernel_rfl
theorem impl_expNames_look.all (k : Nat) : (impl_expNames_look.ct k).Holds Tryd.prog 47 := by
  induction k using Nat.strongRecOn with
  | _ k ih => cases k with
    | zero => exact ⟨by kernel_rfl, by kernel_rfl, (fun h => by cases h), fun _ _ _ _ _ _ _ h => absurd (show none = some _ from h) (by intro e; cases e)⟩
    | succ k => exact fn_ok (fn := Tryd.f47) (body := (bodyOf Tryd.f47)) sg.ok sg.tab sg.mixed (by kernel_rfl) (by kernel_rfl) (by kernel_rfl) (impl_expNames_look.ct (k + 1)) impl_expNames_look.env k (fun _ => by kernel_rfl) (fun _ => rfl) (fun _ => by kernel_rfl) (fun _ => rfl) (fun _ => rfl) (fun _ => rfl) impl_expNames_look.ordsOK (fun j hj => ctsOK (l := impl_expNames_look.cts j) ⟨(impl_expIs.holds j), (ih j (by omega)), (impl_expIn.holds j), (impl_expParts.holds j), trivial⟩) (impl_expNames_look.good (k + 1)) (impl_expNames_look.eq k) (Nat.le_of_ble_eq_true (by kernel_rfl)) (by kernel_rfl) (by kernel_rfl) (by kernel_rfl) (fun h => by cases h)
theorem impl_expNames_look.holds (k : Nat) : (impl_expNames_look.ct k).Holds Tryd.prog 47 := (impl_expNames_look.all k)
def impl_ExpPatternOk.p_j3 : Pat := ⟨[(1, .one (.val (.sl 29 (.st 1)))), (2, .one (.ptr 0 0))], [.cells [] [.val (.int .i64), .val .str, .val (.sl 3 (.int .i64)), .val (.int .i64), .val (.sl 29 (.st 1))]]⟩
def impl_ExpPatternOk.c_j3 : Cut sg (HL sg.S [.bool]) := ⟨impl_ExpPatternOk.p_j3, [(.sl 29 (.st 1)), (.int .i64), .str, (.sl 3 (.int .i64)), (.int .i64), (.sl 29 (.st 1))], fun k h => impl_ExpPatternOk.j3 k h.1 h.2.1 h.2.2.1 h.2.2.2.1 h.2.2.2.2.1 h.2.2.2.2.2⟩
def impl_ExpPatternOk.ct (k : Nat) : Ct sg := ⟨true, ⟨[(0, .st 1), (1, .one (.val (.sl 29 (.st 1))))], []⟩, ⟨[(0, .one (.val .bool))], []⟩, [(.st 1), (.sl 29 (.st 1))], [.bool], fun h => impl_ExpPatternOk.f k h.1 h.2⟩
def impl_ExpPatternOk.cts (k : Nat) : List (Nat × Ct sg) := [(24, impl_ExpFormOk.ct k), (45, impl_expLiterals.ct k), (46, impl_expIs.ct k), (47, impl_expNames_look.ct k)]
def impl_ExpPatternOk.env (k : Nat) : Env sg (HL sg.S [.bool]) := ⟨29, [], k, get (impl_ExpPatternOk.cts k), [], [(3, impl_ExpPatternOk.c_j3)], [], []⟩
theorem impl_ExpPatternOk.eq (k : Nat) (h : HL sg.S (impl_ExpPatternOk.ct k).its) : (impl_ExpPatternOk.ct k).F h = semF (impl_ExpPatternOk.ct k) (impl_ExpPatternOk.env k) Tryd.f18 (bodyOf Tryd.f18) h := by kernel_rfl
noncomputable def impl_ExpPatternOk.pts (m : Nat) := used impl_ExpPatternOk.env (ptsOf impl_ExpPatternOk.env (bodyOf Tryd.f18) (fun _ => retK Tryd.f18 (impl_ExpPatternOk.ct m)))
theorem impl_ExpPatternOk.n (m : Nat) : len (impl_ExpPatternOk.pts m) = 1 := by kernel_rfl
theorem impl_ExpPatternOk.g0 (m : Nat) : AtGood impl_ExpPatternOk.env (nth (impl_ExpPatternOk.pts m) 0) := joinGood impl_ExpPatternOk.c_j3 (by kernel_rfl) (by kernel_rfl) (fun k h => by kernel_rfl)
theorem impl_ExpPatternOk.good (m : Nat) : AllGood impl_ExpPatternOk.env (ptsOf impl_ExpPatternOk.env (bodyOf Tryd.f18) (fun _ => retK Tryd.f18 (impl_ExpPatternOk.ct m))) := allGood 1 (impl_ExpPatternOk.n m) (fun i hi => match i with | 0 => impl_ExpPatternOk.g0 m | i + 1 => absurd hi (by omega))
theorem impl_ExpPatternOk.ordsOK : ordsB sg (impl_ExpPatternOk.env 0).ords (bodyOf Tryd.f18) = true := by kernel_rfl
theorem impl_ExpPatternOk.holds (k : Nat) : (impl_ExpPatternOk.ct k).Holds Tryd.prog 18 :=
  fn_ok (fn := Tryd.f18) (body := (bodyOf Tryd.f18)) sg.ok sg.tab sg.mixed (by kernel_rfl) (by kernel_rfl) (by kernel_rfl) (impl_ExpPatternOk.ct k) impl_ExpPatternOk.env k (fun _ => by kernel_rfl) (fun _ => rfl) (fun _ => by kernel_rfl) (fun _ => rfl) (fun _ => rfl) (fun _ => rfl) impl_ExpPatternOk.ordsOK (fun j hj => ctsOK (l := impl_ExpPatternOk.cts j) ⟨(impl_ExpFormOk.holds j), (impl_expLiterals.holds j), (impl_expIs.holds j), (impl_expNames_look.holds j), trivial⟩) (impl_ExpPatternOk.good k) (impl_ExpPatternOk.eq k) (Nat.le_of_ble_eq_true (by kernel_rfl)) (by kernel_rfl) (by kernel_rfl) (by kernel_rfl) (fun _ => by kernel_rfl)
def laws_eqIntS.p_l4 : Pat := ⟨[(0, .one (.val (.sl 3 (.int .i64)))), (1, .one (.val (.sl 3 (.int .i64)))), (5, .one (.val (.int .i64)))], []⟩
def laws_eqIntS.c_l4 : Cut sg (HL sg.S [.bool]) := ⟨laws_eqIntS.p_l4, [(.sl 3 (.int .i64)), (.sl 3 (.int .i64)), (.int .i64)], fun k h => laws_eqIntS.l4 k h.1 h.2.1 h.2.2⟩
def laws_eqIntS.ct (k : Nat) : Ct sg := ⟨true, ⟨[(0, .one (.val (.sl 3 (.int .i64)))), (1, .one (.val (.sl 3 (.int .i64))))], []⟩, ⟨[(0, .one (.val .bool))], []⟩, [(.sl 3 (.int .i64)), (.sl 3 (.int .i64))], [.bool], fun h => laws_eqIntS.f k h.1 h.2⟩
def laws_eqIntS.cts (k : Nat) : List (Nat × Ct sg) := []
def laws_eqIntS.env (k : Nat) : Env sg (HL sg.S [.bool]) := ⟨26, [], k, get (laws_eqIntS.cts k), [(4, laws_eqIntS.c_l4)], [], [(6, [[0, 1, 2, 3, 4, 5, 6, 7, 8]])], []⟩
theorem laws_eqIntS.eq (k : Nat) (h : HL sg.S (laws_eqIntS.ct k).its) : (laws_eqIntS.ct k).F h = semF (laws_eqIntS.ct k) (laws_eqIntS.env k) Tryd.f36 (bodyOf Tryd.f36) h := by kernel_rfl
noncomputable def laws_eqIntS.pts (m : Nat) := used laws_eqIntS.env (ptsOf laws_eqIntS.env (bodyOf Tryd.f36) (fun _ => retK Tryd.f36 (laws_eqIntS.ct m)))
theorem laws_eqIntS.n (m : Nat) : len (laws_eqIntS.pts m) = 1 := by kernel_rfl
theorem laws_eqIntS.g0 (m : Nat) : AtGood laws_eqIntS.env (nth (laws_eqIntS.pts m) 0) := loopGood laws_eqIntS.c_l4 (by kernel_rfl) (by kernel_rfl) (fun _ => rfl) (fun k h => by kernel_rfl)
theorem laws_eqIntS.good (m : Nat) : AllGood laws_eqIntS.env (ptsOf laws_eqIntS.env (bodyOf Tryd.f36) (fun _ => retK Tryd.f36 (laws_eqIntS.ct m))) := allGood 1 (laws_eqIntS.n m) (fun i hi => match i with | 0 => laws_eqIntS.g0 m | i + 1 => absurd hi (by omega))
theorem laws_eqIntS.ordsOK : ordsB sg (laws_eqIntS.env 0).ords (bodyOf Tryd.f36) = true := by kernel_rfl
theorem laws_eqIntS.holds (k : Nat) : (laws_eqIntS.ct k).Holds Tryd.prog 36 :=
  fn_ok (fn := Tryd.f36) (body := (bodyOf Tryd.f36)) sg.ok sg.tab sg.mixed (by kernel_rfl) (by kernel_rfl) (by kernel_rfl) (laws_eqIntS.ct k) laws_eqIntS.env k (fun _ => by kernel_rfl) (fun _ => rfl) (fun _ => by kernel_rfl) (fun _ => rfl) (fun _ => rfl) (fun _ => rfl) laws_eqIntS.ordsOK (fun j hj => ctsOK (l := laws_eqIntS.cts j) trivial) (laws_eqIntS.good k) (laws_eqIntS.eq k) (Nat.le_of_ble_eq_true (by kernel_rfl)) (by kernel_rfl) (by kernel_rfl) (by kernel_rfl) (fun _ => by kernel_rfl)
def laws_eqExpForm.ct (k : Nat) : Ct sg := ⟨true, ⟨[(0, .st 1), (1, .st 1)], []⟩, ⟨[(0, .one (.val .bool))], []⟩, [(.st 1), (.st 1)], [.bool], fun h => laws_eqExpForm.f k h.1 h.2⟩
def laws_eqExpFormS.p_l4 : Pat := ⟨[(0, .one (.val (.sl 29 (.st 1)))), (1, .one (.val (.sl 29 (.st 1)))), (5, .one (.val (.int .i64)))], []⟩
def laws_eqExpFormS.c_l4 : Cut sg (HL sg.S [.bool]) := ⟨laws_eqExpFormS.p_l4, [(.sl 29 (.st 1)), (.sl 29 (.st 1)), (.int .i64)], fun k h => laws_eqExpFormS.l4 k h.1 h.2.1 h.2.2⟩
def laws_eqExpFormS.ct (k : Nat) : Ct sg := ⟨true, ⟨[(0, .one (.val (.sl 29 (.st 1)))), (1, .one (.val (.sl 29 (.st 1))))], []⟩, ⟨[(0, .one (.val .bool))], []⟩, [(.sl 29 (.st 1)), (.sl 29 (.st 1))], [.bool], fun h => laws_eqExpFormS.f k h.1 h.2⟩
def laws_eqExpForm.cts (k : Nat) : List (Nat × Ct sg) := [(19, laws_eqExpFormS.ct k), (36, laws_eqIntS.ct k)]
def laws_eqExpForm.env (k : Nat) : Env sg (HL sg.S [.bool]) := ⟨32, [], k, get (laws_eqExpForm.cts k), [], [], [], []⟩
theorem laws_eqExpForm.eq (k : Nat) (h : HL sg.S (laws_eqExpForm.ct (k + 1)).its) : (laws_eqExpForm.ct (k + 1)).F h = semF (laws_eqExpForm.ct (k + 1)) (laws_eqExpForm.env k) Tryd.f12 (bodyOf Tryd.f12) h := by kernel_rfl
noncomputable def laws_eqExpForm.pts (m : Nat) := used laws_eqExpForm.env (ptsOf laws_eqExpForm.env (bodyOf Tryd.f12) (fun _ => retK Tryd.f12 (laws_eqExpForm.ct m)))
theorem laws_eqExpForm.n (m : Nat) : len (laws_eqExpForm.pts m) = 0 := by kernel_rfl
theorem laws_eqExpForm.good (m : Nat) : AllGood laws_eqExpForm.env (ptsOf laws_eqExpForm.env (bodyOf Tryd.f12) (fun _ => retK Tryd.f12 (laws_eqExpForm.ct m))) := allGood 0 (laws_eqExpForm.n m) (fun i hi => match i with | i + 0 => absurd hi (by omega))
theorem laws_eqExpForm.ordsOK : ordsB sg (laws_eqExpForm.env 0).ords (bodyOf Tryd.f12) = true := by kernel_rfl
def laws_eqExpFormS.cts (k : Nat) : List (Nat × Ct sg) := [(12, laws_eqExpForm.ct k)]
def laws_eqExpFormS.env (k : Nat) : Env sg (HL sg.S [.bool]) := ⟨27, [], k, get (laws_eqExpFormS.cts k), [(4, laws_eqExpFormS.c_l4)], [], [(6, [[0, 1, 2, 3, 4, 5, 6, 7, 8, 9]])], []⟩
theorem laws_eqExpFormS.eq (k : Nat) (h : HL sg.S (laws_eqExpFormS.ct (k + 1)).its) : (laws_eqExpFormS.ct (k + 1)).F h = semF (laws_eqExpFormS.ct (k + 1)) (laws_eqExpFormS.env k) Tryd.f19 (bodyOf Tryd.f19) h := by kernel_rfl
noncomputable def laws_eqExpFormS.pts (m : Nat) := used laws_eqExpFormS.env (ptsOf laws_eqExpFormS.env (bodyOf Tryd.f19) (fun _ => retK Tryd.f19 (laws_eqExpFormS.ct m)))
theorem laws_eqExpFormS.n (m : Nat) : len (laws_eqExpFormS.pts m) = 1 := by kernel_rfl
theorem laws_eqExpFormS.g0 (m : Nat) : AtGood laws_eqExpFormS.env (nth (laws_eqExpFormS.pts m) 0) := loopGood laws_eqExpFormS.c_l4 (by kernel_rfl) (by kernel_rfl) (fun _ => rfl) (fun k h => by kernel_rfl)
theorem laws_eqExpFormS.good (m : Nat) : AllGood laws_eqExpFormS.env (ptsOf laws_eqExpFormS.env (bodyOf Tryd.f19) (fun _ => retK Tryd.f19 (laws_eqExpFormS.ct m))) := allGood 1 (laws_eqExpFormS.n m) (fun i hi => match i with | 0 => laws_eqExpFormS.g0 m | i + 1 => absurd hi (by omega))
theorem laws_eqExpFormS.ordsOK : ordsB sg (laws_eqExpFormS.env 0).ords (bodyOf Tryd.f19) = true := by kernel_rfl
theorem laws_eqExpForm.all (k : Nat) : (laws_eqExpForm.ct k).Holds Tryd.prog 12 ∧ (laws_eqExpFormS.ct k).Holds Tryd.prog 19 := by
  induction k using Nat.strongRecOn with
  | _ k ih => cases k with
    | zero => exact ⟨⟨by kernel_rfl, by kernel_rfl, (fun _ => by kernel_rfl), fun _ _ _ _ _ _ _ h => absurd (show none = some _ from h) (by intro e; cases e)⟩, ⟨by kernel_rfl, by kernel_rfl, (fun _ => by kernel_rfl), fun _ _ _ _ _ _ _ h => absurd (show none = some _ from h) (by intro e; cases e)⟩⟩
    | succ k => exact ⟨fn_ok (fn := Tryd.f12) (body := (bodyOf Tryd.f12)) sg.ok sg.tab sg.mixed (by kernel_rfl) (by kernel_rfl) (by kernel_rfl) (laws_eqExpForm.ct (k + 1)) laws_eqExpForm.env k (fun _ => by kernel_rfl) (fun _ => rfl) (fun _ => by kernel_rfl) (fun _ => rfl) (fun _ => rfl) (fun _ => rfl) laws_eqExpForm.ordsOK (fun j hj => ctsOK (l := laws_eqExpForm.cts j) ⟨(ih j (by omega)).2, (laws_eqIntS.holds j), trivial⟩) (laws_eqExpForm.good (k + 1)) (laws_eqExpForm.eq k) (Nat.le_of_ble_eq_true (by kernel_rfl)) (by kernel_rfl) (by kernel_rfl) (by kernel_rfl) (fun _ => by kernel_rfl), fn_ok (fn := Tryd.f19) (body := (bodyOf Tryd.f19)) sg.ok sg.tab sg.mixed (by kernel_rfl) (by kernel_rfl) (by kernel_rfl) (laws_eqExpFormS.ct (k + 1)) laws_eqExpFormS.env k (fun _ => by kernel_rfl) (fun _ => rfl) (fun _ => by kernel_rfl) (fun _ => rfl) (fun _ => rfl) (fun _ => rfl) laws_eqExpFormS.ordsOK (fun j hj => ctsOK (l := laws_eqExpFormS.cts j) ⟨(ih j (by omega)).1, trivial⟩) (laws_eqExpFormS.good (k + 1)) (laws_eqExpFormS.eq k) (Nat.le_of_ble_eq_true (by kernel_rfl)) (by kernel_rfl) (by kernel_rfl) (by kernel_rfl) (fun _ => by kernel_rfl)⟩
theorem laws_eqExpForm.holds (k : Nat) : (laws_eqExpForm.ct k).Holds Tryd.prog 12 := (laws_eqExpForm.all k).1
theorem laws_eqExpFormS.holds (k : Nat) : (laws_eqExpFormS.ct k).Holds Tryd.prog 19 := (laws_eqExpForm.all k).2
def laws_FnExactExpPatternOk.p_d14 : Pat := ⟨[(1, .one (.val (.sl 25 (.st 0)))), (2, .one (.ptr 0 0)), (7, .one (.ptr 1 0)), (8, .one (.arr 2))], [.cells [] [.val (.int .i64), .val .str, .val (.sl 3 (.int .i64)), .val (.int .i64), .val (.sl 25 (.st 0))], .cells [] [.val (.int .i64), .val .str, .val (.sl 3 (.int .i64)), .val (.int .i64), .val (.sl 29 (.st 1))], .arr 29 (.st 1)]⟩
def laws_FnExactExpPatternOk.c_d14 : Cut sg (HL sg.S [.bool]) := ⟨laws_FnExactExpPatternOk.p_d14, [(.sl 25 (.st 0)), (.int .i64), .str, (.sl 3 (.int .i64)), (.int .i64), (.sl 25 (.st 0)), (.int .i64), .str, (.sl 3 (.int .i64)), (.int .i64), (.sl 29 (.st 1)), (.sl 29 (.st 1))], fun k h => laws_FnExactExpPatternOk.d14 k h.1 h.2.1 h.2.2.1 h.2.2.2.1 h.2.2.2.2.1 h.2.2.2.2.2.1 h.2.2.2.2.2.2.1 h.2.2.2.2.2.2.2.1 h.2.2.2.2.2.2.2.2.1 h.2.2.2.2.2.2.2.2.2.1 h.2.2.2.2.2.2.2.2.2.2.1 h.2.2.2.2.2.2.2.2.2.2.2⟩
def laws_FnExactExpPatternOk.ct (k : Nat) : Ct sg := ⟨true, ⟨[(0, .st 0), (1, .one (.val (.sl 25 (.st 0))))], []⟩, ⟨[(0, .one (.val .bool))], []⟩, [(.st 0), (.sl 25 (.st 0))], [.bool], fun h => laws_FnExactExpPatternOk.f k h.1 h.2⟩
def laws_FnExactExpPatternOk.cts (k : Nat) : List (Nat × Ct sg) := [(8, laws_szExpForm.ct k), (10, laws_toExpForm.ct k), (12, laws_eqExpForm.ct k), (15, laws_szExpFormS.ct k), (16, spec_ExpPatternOk.ct k), (17, laws_toExpFormS.ct k), (18, impl_ExpPatternOk.ct k), (19, laws_eqExpFormS.ct k)]
def laws_FnExactExpPatternOk.env (k : Nat) : Env sg (HL sg.S [.bool]) := ⟨45, [], k, get (laws_FnExactExpPatternOk.cts k), [], [(100014, laws_FnExactExpPatternOk.c_d14)], [(14, [[1, 0, 2, 3, 4], [1, 2, 0, 3, 4]])], []⟩
theorem laws_FnExactExpPatternOk.eq (k : Nat) (h : HL sg.S (laws_FnExactExpPatternOk.ct k).its) : (laws_FnExactExpPatternOk.ct k).F h = semF (laws_FnExactExpPatternOk.ct k) (laws_FnExactExpPatternOk.env k) Tryd.f4 (bodyOf Tryd.f4) h := by kernel_rfl
noncomputable def laws_FnExactExpPatternOk.pts (m : Nat) := used laws_FnExactExpPatternOk.env (ptsOf laws_FnExactExpPatternOk.env (bodyOf Tryd.f4) (fun _ => retK Tryd.f4 (laws_FnExactExpPatternOk.ct m)))
theorem laws_FnExactExpPatternOk.n (m : Nat) : len (laws_FnExactExpPatternOk.pts m) = 2 := by kernel_rfl
theorem laws_FnExactExpPatternOk.g0 (m : Nat) : AtGood laws_FnExactExpPatternOk.env (nth (laws_FnExactExpPatternOk.pts m) 0) := joinGood laws_FnExactExpPatternOk.c_d14 (by kernel_rfl) (by kernel_rfl) (fun k h => by kernel_rfl)
theorem laws_FnExactExpPatternOk.g1 (m : Nat) : AtGood laws_FnExactExpPatternOk.env (nth (laws_FnExactExpPatternOk.pts m) 1) := joinGood laws_FnExactExpPatternOk.c_d14 (by kernel_rfl) (by kernel_rfl) (fun k h => by kernel_rfl)
theorem laws_FnExactExpPatternOk.good (m : Nat) : AllGood laws_FnExactExpPatternOk.env (ptsOf laws_FnExactExpPatternOk.env (bodyOf Tryd.f4) (fun _ => retK Tryd.f4 (laws_FnExactExpPatternOk.ct m))) := allGood 2 (laws_FnExactExpPatternOk.n m) (fun i hi => match i with | 0 => laws_FnExactExpPatternOk.g0 m | 1 => laws_FnExactExpPatternOk.g1 m | i + 2 => absurd hi (by omega))
theorem laws_FnExactExpPatternOk.ordsOK : ordsB sg (laws_FnExactExpPatternOk.env 0).ords (bodyOf Tryd.f4) = true := by kernel_rfl
theorem laws_FnExactExpPatternOk.holds (k : Nat) : (laws_FnExactExpPatternOk.ct k).Holds Tryd.prog 4 :=
  fn_ok (fn := Tryd.f4) (body := (bodyOf Tryd.f4)) sg.ok sg.tab sg.mixed (by kernel_rfl) (by kernel_rfl) (by kernel_rfl) (laws_FnExactExpPatternOk.ct k) laws_FnExactExpPatternOk.env k (fun _ => by kernel_rfl) (fun _ => rfl) (fun _ => by kernel_rfl) (fun _ => rfl) (fun _ => rfl) (fun _ => rfl) laws_FnExactExpPatternOk.ordsOK (fun j hj => ctsOK (l := laws_FnExactExpPatternOk.cts j) ⟨(laws_szExpForm.holds j), (laws_toExpForm.holds j), (laws_eqExpForm.holds j), (laws_szExpFormS.holds j), (spec_ExpPatternOk.holds j), (laws_toExpFormS.holds j), (impl_ExpPatternOk.holds j), (laws_eqExpFormS.holds j), trivial⟩) (laws_FnExactExpPatternOk.good k) (laws_FnExactExpPatternOk.eq k) (Nat.le_of_ble_eq_true (by kernel_rfl)) (by kernel_rfl) (by kernel_rfl) (by kernel_rfl) (fun _ => by kernel_rfl)
end Go.Proofs.YtmcbhnbemhfifaaDoor.RX
