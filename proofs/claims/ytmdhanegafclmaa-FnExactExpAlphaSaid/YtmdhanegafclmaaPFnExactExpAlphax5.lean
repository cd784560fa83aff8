-- Laid by a program of this session (wip/tools/mkprint2.py, which turns a copy of the print); not the kit print itself.
import Derived.Test.YtmdhanegafclmaaPFnExactExpAlphax0
import Derived.Test.YtmdhanegafclmaaPFnExactExpAlphax4
import Derived.Test.YtmdhanegafclmaaFull
namespace Go.Proofs.Ytmdhanegafclmaa.PFnExactExpAlpha
open Go.RowKit Go.Proofs.YtmdhanegafclmaaW.PrintWords Go.Proofs.YtmdhanegafclmaaW.PrintLast Go.Proofs.YtmdhanegafclmaaW.PrintMore
attribute [local go_sem] max2_int min2_int max_two min_two max_three min_three max_four min_four   -- for this text's walks alone
set_option linter.unusedVariables false
set_option linter.unusedSimpArgs false

/-! ### impl_coreAlpha: function 43 -/
mutual
def impl_coreAlpha.l0 : Nat → List (S51) → List (S51) → List (S113) → Int → Int → Option (Bool)
  | 0, _, _, _, _, _ => none
  | k + 1, x0, x1, x2, x18, x19 => if x19 < x18 then (if 0 ≤ x19 then (if x19 < (x0.length : Int) then (if x19 < (x1.length : Int) then (if ((rd_T51 x0 x19).f0) = ((rd_T51 x1 x19).f0) then (if (((rd_T51 x0 x19).f2) != ((rd_T51 x1 x19).f2)) = true then (impl_coreAlpha.j1 k x0 x1 x2 x18 x19 true ((rd_T51 x0 x19).f0) ((rd_T51 x0 x19).f1) ((rd_T51 x0 x19).f2) ((rd_T51 x0 x19).f3) ((rd_T51 x0 x19).f4) ((rd_T51 x1 x19).f0) ((rd_T51 x1 x19).f1) ((rd_T51 x1 x19).f2) ((rd_T51 x1 x19).f3) ((rd_T51 x1 x19).f4)) else (if (((rd_T51 x0 x19).f3).length : Int) = (((rd_T51 x1 x19).f3).length : Int) then (impl_coreAlpha.j1 k x0 x1 x2 x18 x19 ((((rd_T51 x0 x19).f4).length : Int) != (((rd_T51 x1 x19).f4).length : Int)) ((rd_T51 x0 x19).f0) ((rd_T51 x0 x19).f1) ((rd_T51 x0 x19).f2) ((rd_T51 x0 x19).f3) ((rd_T51 x0 x19).f4) ((rd_T51 x1 x19).f0) ((rd_T51 x1 x19).f1) ((rd_T51 x1 x19).f2) ((rd_T51 x1 x19).f3) ((rd_T51 x1 x19).f4)) else (impl_coreAlpha.j1 k x0 x1 x2 x18 x19 true ((rd_T51 x0 x19).f0) ((rd_T51 x0 x19).f1) ((rd_T51 x0 x19).f2) ((rd_T51 x0 x19).f3) ((rd_T51 x0 x19).f4) ((rd_T51 x1 x19).f0) ((rd_T51 x1 x19).f1) ((rd_T51 x1 x19).f2) ((rd_T51 x1 x19).f3) ((rd_T51 x1 x19).f4)))) else (impl_coreAlpha.j1 k x0 x1 x2 x18 x19 true ((rd_T51 x0 x19).f0) ((rd_T51 x0 x19).f1) ((rd_T51 x0 x19).f2) ((rd_T51 x0 x19).f3) ((rd_T51 x0 x19).f4) ((rd_T51 x1 x19).f0) ((rd_T51 x1 x19).f1) ((rd_T51 x1 x19).f2) ((rd_T51 x1 x19).f3) ((rd_T51 x1 x19).f4))) else (none)) else (none)) else (none)) else (some true)
def impl_coreAlpha.j1 : Nat → List (S51) → List (S51) → List (S113) → Int → Int → Bool → Int → ByteArray → Bool → List ByteArray → List (S51) → Int → ByteArray → Bool → List ByteArray → List (S51) → Option (Bool)
  | 0, _, _, _, _, _, _, _, _, _, _, _, _, _, _, _, _ => none
  | k + 1, x0, x1, x2, x18, x19, x59, x6159000, x6159001, x6159002, x6159003, x6159004, x6160000, x6160001, x6160002, x6160003, x6160004 => if x59 = true then (some false) else (if x6159000 = 2 then (impl_coreAlpha.j2 k x0 x1 x2 x18 x19 (x6159000 == 2) x6159000 x6159001 x6159002 x6159003 x6159004 x6160000 x6160001 x6160002 x6160003 x6160004) else (if x6159000 = 6 then (impl_coreAlpha.j2 k x0 x1 x2 x18 x19 (x6159000 == 6) x6159000 x6159001 x6159002 x6159003 x6159004 x6160000 x6160001 x6160002 x6160003 x6160004) else (impl_coreAlpha.j2 k x0 x1 x2 x18 x19 (x6159000 == 9) x6159000 x6159001 x6159002 x6159003 x6159004 x6160000 x6160001 x6160002 x6160003 x6160004)))
def impl_coreAlpha.j3 : Nat → List (S51) → List (S51) → List (S113) → Int → Int → Int → ByteArray → Bool → List ByteArray → List (S51) → Int → ByteArray → Bool → List ByteArray → List (S51) → Option (Bool)
  | 0, _, _, _, _, _, _, _, _, _, _, _, _, _, _, _ => none
  | k + 1, x0, x1, x2, x18, x19, x6159000, x6159001, x6159002, x6159003, x6159004, x6160000, x6160001, x6160002, x6160003, x6160004 => impl_coreAlpha.l1 k x0 x1 x2 x2 x18 x19 (x6159003.length : Int) 0 x6159000 x6159001 x6159002 x6159003 x6159004 x6160000 x6160001 x6160002 x6160003 x6160004
def impl_coreAlpha.l1 : Nat → List (S51) → List (S51) → List (S113) → List (S113) → Int → Int → Int → Int → Int → ByteArray → Bool → List ByteArray → List (S51) → Int → ByteArray → Bool → List ByteArray → List (S51) → Option (Bool)
  | 0, _, _, _, _, _, _, _, _, _, _, _, _, _, _, _, _, _, _ => none
  | k + 1, x0, x1, x2, x10, x18, x19, x86, x87, x6159000, x6159001, x6159002, x6159003, x6159004, x6160000, x6160001, x6160002, x6160003, x6160004 => if x87 < x86 then (if 0 ≤ x87 then (if x87 < (x6159003.length : Int) then (if x87 < (x6160003.length : Int) then (if x10.length < 4398046511104 then (impl_coreAlpha.l1 k x0 x1 x2 (x10 ++ [(⟨rdOf ByteArray.empty x6159003 x87, rdOf ByteArray.empty x6160003 x87⟩ : S113)]) x18 x19 x86 (wrap64 (x87 + 1)) x6159000 x6159001 x6159002 x6159003 x6159004 x6160000 x6160001 x6160002 x6160003 x6160004) else (none)) else (none)) else (none)) else (none)) else ((impl_coreAlpha.f k x6159004 x6160004 x10).bind fun t6166 => (if t6166 = true then (impl_coreAlpha.l0 k x0 x1 x2 x18 (wrap64 (x19 + 1))) else (some false)))
def impl_coreAlpha.j2 : Nat → List (S51) → List (S51) → List (S113) → Int → Int → Bool → Int → ByteArray → Bool → List ByteArray → List (S51) → Int → ByteArray → Bool → List ByteArray → List (S51) → Option (Bool)
  | 0, _, _, _, _, _, _, _, _, _, _, _, _, _, _, _, _ => none
  | k + 1, x0, x1, x2, x18, x19, x67, x6159000, x6159001, x6159002, x6159003, x6159004, x6160000, x6160001, x6160002, x6160003, x6160004 => if x67 = true then ((impl_coreStands.f k x2 x6159001 x6160001).bind fun t6160 => (if t6160 = true then (impl_coreAlpha.j3 k x0 x1 x2 x18 x19 x6159000 x6159001 x6159002 x6159003 x6159004 x6160000 x6160001 x6160002 x6160003 x6160004) else (some false))) else (if x6159001.toList = x6160001.toList then (impl_coreAlpha.j3 k x0 x1 x2 x18 x19 x6159000 x6159001 x6159002 x6159003 x6159004 x6160000 x6160001 x6160002 x6160003 x6160004) else (some false))
def impl_coreAlpha.f : Nat → List (S51) → List (S51) → List (S113) → Option (Bool)
  | 0, _, _, _ => none
  | k + 1, l0, l1, l2 => if (l0.length : Int) = (l1.length : Int) then (impl_coreAlpha.l0 k l0 l1 l2 (l0.length : Int) 0) else (some false)
end
theorem impl_coreAlpha.mono_l : ∀ k, (∀ y0 y1 y2, LeO (impl_coreAlpha.f k y0 y1 y2) (impl_coreAlpha.f (k + 1) y0 y1 y2)) ∧ (∀ y0 y1 y2 y3 y4, LeO (impl_coreAlpha.l0 k y0 y1 y2 y3 y4) (impl_coreAlpha.l0 (k + 1) y0 y1 y2 y3 y4)) ∧ (∀ y0 y1 y2 y3 y4 y5 y6 y7 y8 y9 y10 y11 y12 y13 y14 y15, LeO (impl_coreAlpha.j1 k y0 y1 y2 y3 y4 y5 y6 y7 y8 y9 y10 y11 y12 y13 y14 y15) (impl_coreAlpha.j1 (k + 1) y0 y1 y2 y3 y4 y5 y6 y7 y8 y9 y10 y11 y12 y13 y14 y15)) ∧ (∀ y0 y1 y2 y3 y4 y5 y6 y7 y8 y9 y10 y11 y12 y13 y14, LeO (impl_coreAlpha.j3 k y0 y1 y2 y3 y4 y5 y6 y7 y8 y9 y10 y11 y12 y13 y14) (impl_coreAlpha.j3 (k + 1) y0 y1 y2 y3 y4 y5 y6 y7 y8 y9 y10 y11 y12 y13 y14)) ∧ (∀ y0 y1 y2 y3 y4 y5 y6 y7 y8 y9 y10 y11 y12 y13 y14 y15 y16 y17, LeO (impl_coreAlpha.l1 k y0 y1 y2 y3 y4 y5 y6 y7 y8 y9 y10 y11 y12 y13 y14 y15 y16 y17) (impl_coreAlpha.l1 (k + 1) y0 y1 y2 y3 y4 y5 y6 y7 y8 y9 y10 y11 y12 y13 y14 y15 y16 y17)) ∧ (∀ y0 y1 y2 y3 y4 y5 y6 y7 y8 y9 y10 y11 y12 y13 y14 y15, LeO (impl_coreAlpha.j2 k y0 y1 y2 y3 y4 y5 y6 y7 y8 y9 y10 y11 y12 y13 y14 y15) (impl_coreAlpha.j2 (k + 1) y0 y1 y2 y3 y4 y5 y6 y7 y8 y9 y10 y11 y12 y13 y14 y15))
  | 0 => ⟨fun _ _ _ r h => by simp [impl_coreAlpha.f] at h, fun _ _ _ _ _ r h => by simp [impl_coreAlpha.l0] at h, fun _ _ _ _ _ _ _ _ _ _ _ _ _ _ _ _ r h => by simp [impl_coreAlpha.j1] at h, fun _ _ _ _ _ _ _ _ _ _ _ _ _ _ _ r h => by simp [impl_coreAlpha.j3] at h, fun _ _ _ _ _ _ _ _ _ _ _ _ _ _ _ _ _ _ r h => by simp [impl_coreAlpha.l1] at h, fun _ _ _ _ _ _ _ _ _ _ _ _ _ _ _ _ r h => by simp [impl_coreAlpha.j2] at h⟩
  | k + 1 => by
    obtain ⟨ih0, ih1, ih2, ih3, ih4, ih5⟩ := impl_coreAlpha.mono_l k
    refine ⟨?_, ?_, ?_, ?_, ?_, ?_⟩
    · intro y0 y1 y2
      unfold impl_coreAlpha.f
      repeat' first
      | (with_reducible exact ih0 _ _ _)
      | (with_reducible exact ih1 _ _ _ _ _)
      | (with_reducible exact ih2 _ _ _ _ _ _ _ _ _ _ _ _ _ _ _ _)
      | (with_reducible exact ih3 _ _ _ _ _ _ _ _ _ _ _ _ _ _ _)
      | (with_reducible exact ih4 _ _ _ _ _ _ _ _ _ _ _ _ _ _ _ _ _ _)
      | (with_reducible exact ih5 _ _ _ _ _ _ _ _ _ _ _ _ _ _ _ _)
      | (with_reducible exact impl_coreStands.mono _ _ _ _)
      | (with_reducible exact LeO.refl _)
      | (with_reducible exact LeO.none _)
      | (with_reducible refine LeO.ite ?_ ?_)
      | (with_reducible refine LeO.bind ?_ (fun _ => ?_))
      | exact ih0 _ _ _
      | exact ih1 _ _ _ _ _
      | exact ih2 _ _ _ _ _ _ _ _ _ _ _ _ _ _ _ _
      | exact ih3 _ _ _ _ _ _ _ _ _ _ _ _ _ _ _
      | exact ih4 _ _ _ _ _ _ _ _ _ _ _ _ _ _ _ _ _ _
      | exact ih5 _ _ _ _ _ _ _ _ _ _ _ _ _ _ _ _
      | exact impl_coreStands.mono _ _ _ _
      | exact LeO.none _
      | refine LeO.ite ?_ ?_
      | refine LeO.bind ?_ (fun _ => ?_)
    · intro y0 y1 y2 y3 y4
      unfold impl_coreAlpha.l0
      repeat' first
      | (with_reducible exact ih0 _ _ _)
      | (with_reducible exact ih1 _ _ _ _ _)
      | (with_reducible exact ih2 _ _ _ _ _ _ _ _ _ _ _ _ _ _ _ _)
      | (with_reducible exact ih3 _ _ _ _ _ _ _ _ _ _ _ _ _ _ _)
      | (with_reducible exact ih4 _ _ _ _ _ _ _ _ _ _ _ _ _ _ _ _ _ _)
      | (with_reducible exact ih5 _ _ _ _ _ _ _ _ _ _ _ _ _ _ _ _)
      | (with_reducible exact impl_coreStands.mono _ _ _ _)
      | (with_reducible exact LeO.refl _)
      | (with_reducible exact LeO.none _)
      | (with_reducible refine LeO.ite ?_ ?_)
      | (with_reducible refine LeO.bind ?_ (fun _ => ?_))
      | exact ih0 _ _ _
      | exact ih1 _ _ _ _ _
      | exact ih2 _ _ _ _ _ _ _ _ _ _ _ _ _ _ _ _
      | exact ih3 _ _ _ _ _ _ _ _ _ _ _ _ _ _ _
      | exact ih4 _ _ _ _ _ _ _ _ _ _ _ _ _ _ _ _ _ _
      | exact ih5 _ _ _ _ _ _ _ _ _ _ _ _ _ _ _ _
      | exact impl_coreStands.mono _ _ _ _
      | exact LeO.none _
      | refine LeO.ite ?_ ?_
      | refine LeO.bind ?_ (fun _ => ?_)
    · intro y0 y1 y2 y3 y4 y5 y6 y7 y8 y9 y10 y11 y12 y13 y14 y15
      unfold impl_coreAlpha.j1
      repeat' first
      | (with_reducible exact ih0 _ _ _)
      | (with_reducible exact ih1 _ _ _ _ _)
      | (with_reducible exact ih2 _ _ _ _ _ _ _ _ _ _ _ _ _ _ _ _)
      | (with_reducible exact ih3 _ _ _ _ _ _ _ _ _ _ _ _ _ _ _)
      | (with_reducible exact ih4 _ _ _ _ _ _ _ _ _ _ _ _ _ _ _ _ _ _)
      | (with_reducible exact ih5 _ _ _ _ _ _ _ _ _ _ _ _ _ _ _ _)
      | (with_reducible exact impl_coreStands.mono _ _ _ _)
      | (with_reducible exact LeO.refl _)
      | (with_reducible exact LeO.none _)
      | (with_reducible refine LeO.ite ?_ ?_)
      | (with_reducible refine LeO.bind ?_ (fun _ => ?_))
      | exact ih0 _ _ _
      | exact ih1 _ _ _ _ _
      | exact ih2 _ _ _ _ _ _ _ _ _ _ _ _ _ _ _ _
      | exact ih3 _ _ _ _ _ _ _ _ _ _ _ _ _ _ _
      | exact ih4 _ _ _ _ _ _ _ _ _ _ _ _ _ _ _ _ _ _
      | exact ih5 _ _ _ _ _ _ _ _ _ _ _ _ _ _ _ _
      | exact impl_coreStands.mono _ _ _ _
      | exact LeO.none _
      | refine LeO.ite ?_ ?_
      | refine LeO.bind ?_ (fun _ => ?_)
    · intro y0 y1 y2 y3 y4 y5 y6 y7 y8 y9 y10 y11 y12 y13 y14
      unfold impl_coreAlpha.j3
      repeat' first
      | (with_reducible exact ih0 _ _ _)
      | (with_reducible exact ih1 _ _ _ _ _)
      | (with_reducible exact ih2 _ _ _ _ _ _ _ _ _ _ _ _ _ _ _ _)
      | (with_reducible exact ih3 _ _ _ _ _ _ _ _ _ _ _ _ _ _ _)
      | (with_reducible exact ih4 _ _ _ _ _ _ _ _ _ _ _ _ _ _ _ _ _ _)
      | (with_reducible exact ih5 _ _ _ _ _ _ _ _ _ _ _ _ _ _ _ _)
      | (with_reducible exact impl_coreStands.mono _ _ _ _)
      | (with_reducible exact LeO.refl _)
      | (with_reducible exact LeO.none _)
      | (with_reducible refine LeO.ite ?_ ?_)
      | (with_reducible refine LeO.bind ?_ (fun _ => ?_))
      | exact ih0 _ _ _
      | exact ih1 _ _ _ _ _
      | exact ih2 _ _ _ _ _ _ _ _ _ _ _ _ _ _ _ _
      | exact ih3 _ _ _ _ _ _ _ _ _ _ _ _ _ _ _
      | exact ih4 _ _ _ _ _ _ _ _ _ _ _ _ _ _ _ _ _ _
      | exact ih5 _ _ _ _ _ _ _ _ _ _ _ _ _ _ _ _
      | exact impl_coreStands.mono _ _ _ _
      | exact LeO.none _
      | refine LeO.ite ?_ ?_
      | refine LeO.bind ?_ (fun _ => ?_)
    · intro y0 y1 y2 y3 y4 y5 y6 y7 y8 y9 y10 y11 y12 y13 y14 y15 y16 y17
      unfold impl_coreAlpha.l1
      repeat' first
      | (with_reducible exact ih0 _ _ _)
      | (with_reducible exact ih1 _ _ _ _ _)
      | (with_reducible exact ih2 _ _ _ _ _ _ _ _ _ _ _ _ _ _ _ _)
      | (with_reducible exact ih3 _ _ _ _ _ _ _ _ _ _ _ _ _ _ _)
      | (with_reducible exact ih4 _ _ _ _ _ _ _ _ _ _ _ _ _ _ _ _ _ _)
      | (with_reducible exact ih5 _ _ _ _ _ _ _ _ _ _ _ _ _ _ _ _)
      | (with_reducible exact impl_coreStands.mono _ _ _ _)
      | (with_reducible exact LeO.refl _)
      | (with_reducible exact LeO.none _)
      | (with_reducible refine LeO.ite ?_ ?_)
      | (with_reducible refine LeO.bind ?_ (fun _ => ?_))
      | exact ih0 _ _ _
      | exact ih1 _ _ _ _ _
      | exact ih2 _ _ _ _ _ _ _ _ _ _ _ _ _ _ _ _
      | exact ih3 _ _ _ _ _ _ _ _ _ _ _ _ _ _ _
      | exact ih4 _ _ _ _ _ _ _ _ _ _ _ _ _ _ _ _ _ _
      | exact ih5 _ _ _ _ _ _ _ _ _ _ _ _ _ _ _ _
      | exact impl_coreStands.mono _ _ _ _
      | exact LeO.none _
      | refine LeO.ite ?_ ?_
      | refine LeO.bind ?_ (fun _ => ?_)
    · intro y0 y1 y2 y3 y4 y5 y6 y7 y8 y9 y10 y11 y12 y13 y14 y15
      unfold impl_coreAlpha.j2
      repeat' first
      | (with_reducible exact ih0 _ _ _)
      | (with_reducible exact ih1 _ _ _ _ _)
      | (with_reducible exact ih2 _ _ _ _ _ _ _ _ _ _ _ _ _ _ _ _)
      | (with_reducible exact ih3 _ _ _ _ _ _ _ _ _ _ _ _ _ _ _)
      | (with_reducible exact ih4 _ _ _ _ _ _ _ _ _ _ _ _ _ _ _ _ _ _)
      | (with_reducible exact ih5 _ _ _ _ _ _ _ _ _ _ _ _ _ _ _ _)
      | (with_reducible exact impl_coreStands.mono _ _ _ _)
      | (with_reducible exact LeO.refl _)
      | (with_reducible exact LeO.none _)
      | (with_reducible refine LeO.ite ?_ ?_)
      | (with_reducible refine LeO.bind ?_ (fun _ => ?_))
      | exact ih0 _ _ _
      | exact ih1 _ _ _ _ _
      | exact ih2 _ _ _ _ _ _ _ _ _ _ _ _ _ _ _ _
      | exact ih3 _ _ _ _ _ _ _ _ _ _ _ _ _ _ _
      | exact ih4 _ _ _ _ _ _ _ _ _ _ _ _ _ _ _ _ _ _
      | exact ih5 _ _ _ _ _ _ _ _ _ _ _ _ _ _ _ _
      | exact impl_coreStands.mono _ _ _ _
      | exact LeO.none _
      | refine LeO.ite ?_ ?_
      | refine LeO.bind ?_ (fun _ => ?_)
theorem impl_coreAlpha.mono : ∀ a0 a1 a2 k, LeO (impl_coreAlpha.f k a0 a1 a2) (impl_coreAlpha.f (k + 1) a0 a1 a2) := by
  intro a0 a1 a2 k
  obtain ⟨ih0, ih1, ih2, ih3, ih4, ih5⟩ := impl_coreAlpha.mono_l k
  exact ih0 a0 a1 a2
def impl_coreAlpha.T6 : Bool × List (List Nat × List Nat) := (true, [([], []), ([], []), ([0, 1], [0, 1]), ([2], [2]), ([], []), ([], []), ([4, 5], [4, 5]), ([6], [6]), ([], []), ([], []), ([8, 3, 0, 1, 2, 3, 8, 9], [3, 8]), ([9, 7, 10, 0, 1, 2, 3, 4, 5, 6, 7, 8, 9, 10], [7, 9])])
def impl_coreAlpha.B6 : List Nat := [0, 0, 3, 7, 0, 0, 48, 112, 0, 0, 783, 2047]
theorem impl_coreAlpha.tab6 : rtab .any (opsOf Try.f43 6) = impl_coreAlpha.T6 := by kernel_rfl
theorem impl_coreAlpha.bits6 : waitsOk impl_coreAlpha.T6.2 impl_coreAlpha.B6 = true := by kernel_rfl
def impl_coreAlpha.T21 : Bool × List (List Nat × List Nat) := (true, [([], []), ([], []), ([1], [1]), ([], []), ([2, 3], [2, 3]), ([4], [4]), ([], []), ([6], [6]), ([], []), ([7, 8], [7, 8]), ([9], [9]), ([5, 10], [5, 10]), ([11], [11]), ([0, 12], [0, 12]), ([13, 13, 0, 1, 2, 3, 4, 5, 6, 7, 8, 9, 10, 11, 12, 13], [0, 13])])
def impl_coreAlpha.B21 : List Nat := [0, 0, 2, 0, 14, 30, 0, 64, 0, 448, 960, 2046, 4094, 8191, 16383]
theorem impl_coreAlpha.tab21 : rtab .any (opsOf Try.f43 21) = impl_coreAlpha.T21 := by kernel_rfl
theorem impl_coreAlpha.bits21 : waitsOk impl_coreAlpha.T21.2 impl_coreAlpha.B21 = true := by kernel_rfl
set_option maxHeartbeats 8000000 in
set_option maxRecDepth 100000 in
theorem impl_coreAlpha.calls (k : Nat) : ∀ (A0 : Option Addr) (c0 : Nat) (l0 : List (S51)) (A1 : Option Addr) (c1 : Nat) (l1 : List (S51)) (A2 : Option Addr) (c2 : Nat) (l2 : List (S113)) (r : Bool) (w : World) (hr0 : Kd.C k51 w A0 l0.length l0) (hc0 : l0.length ≤ c0) (hr1 : Kd.C k51 w A1 l1.length l1) (hc1 : l1.length ≤ c1) (hr2 : Kd.C k113 w A2 l2.length l2) (hc2 : l2.length ≤ c2) (h : impl_coreAlpha.f k l0 l1 l2 = some r),
    Calls Try.prog 43 #[.slice A0 l0.length c0, .slice A1 l1.length c1, .slice A2 l2.length c2] w fun e w' => e = .returned (.bool r) ∧ Below w.heap.size w w' := by
  induction k using Nat.strongRecOn with
  | _ k ih =>
  intro A0 c0 l0 A1 c1 l1 A2 c2 l2 r w hr0 hc0 hr1 hc1 hr2 hc2 h
  cases k with
  | zero => exact absurd h (by simp [impl_coreAlpha.f])
  | succ k =>
  simp only [impl_coreAlpha.f] at h
  have hu51 := Try.underlying51
  have hu113 := Try.underlying113
  have HR0 := Aside0.mk hr0
  have HC0 := Aside0.mk hc0
  clear hr0 hc0
  have HR1 := Aside0.mk hr1
  have HC1 := Aside0.mk hc1
  clear hr1 hc1
  have HR2 := Aside0.mk hr2
  have hfull_ := Kd.full_run (P := Try.prog) 110 113 Try.underlying110 info113 A2 l2.length c2 hc2
  have HC2 := Aside0.mk hc2
  clear hr2 hc2
  have HB := Aside0.mk (Below.refl w.heap.size w)
  have H : (if (l0.length : Int) = (l1.length : Int) then (impl_coreAlpha.l0 k l0 l1 l2 (l0.length : Int) 0) else (some false)) = some r := h
  clear h
  by_cases c4 : (l0.length : Int) = (l1.length : Int)
  · rw [if_pos c4] at H
    have c4b0 : ((l0.length : Int) == (l1.length : Int)) = true := beq_iff_eq.mpr c4
    have c4b1 : ((l0.length : Int) != (l1.length : Int)) = false := bne_eq_false_iff_eq.mpr c4
    have c4b2 : (l0.length == l1.length) = true := by first | simpa using c4 | (simp at c4 ⊢; omega)
    clear c4
    have H' := Aside0.mk H
    clear H
    go_enter Try.func43, Try.ntmps43
    go_wp2
    go_loopg [19] k (fun kq v19 w' => ∃ (x19_1 : Int), v19 = .int .i64 x19_1 ∧ Aside0 (impl_coreAlpha.l0 kq l0 l1 l2 (l0.length : Int) x19_1 = some r) ∧ Aside0 (kq ≤ k) ∧ Aside0 (Below w.heap.size w w'))
    case atStart => exact ⟨(0), (by first | rfl | (simp; done) | (simp [*]; done)), H', ⟨Nat.le_refl _⟩, ⟨by repeat (first | (with_reducible first | exact HB.out | apply below_alloc | apply pw_below_drewN | apply below_drew1) | exact HB.out)⟩⟩
    case round =>
      clear H'
      try clear c1
      try clear c2
      try clear p2
      try clear c4
      try clear c4b0
      try clear c4b1
      try clear c4b2
      obtain ⟨x19_1, rfl, HA, HK1, HB⟩ := hrel
      cases gk with
      | zero => exact absurd HA.out (by simp [impl_coreAlpha.l0])
      | succ k1 =>
        have H := HA.out
        clear HA
        simp only [impl_coreAlpha.l0] at H
        by_cases c5 : x19_1 < (l0.length : Int)
        · rw [if_pos c5] at H
          have c5b0 : decide (x19_1 < (l0.length : Int)) = true := decide_eq_true c5
          clear c5
          by_cases c6 : 0 ≤ x19_1
          · rw [if_pos c6] at H
            have c6b0 : decide (0 ≤ x19_1) = true := decide_eq_true c6
            clear c6
            by_cases c7 : x19_1 < (l0.length : Int)
            · rw [if_pos c7] at H
              have c7b0 : decide (x19_1 < (l0.length : Int)) = true := decide_eq_true c7
              clear c7
              by_cases c8 : x19_1 < (l1.length : Int)
              · rw [if_pos c8] at H
                have c8b0 : decide (x19_1 < (l1.length : Int)) = true := decide_eq_true c8
                clear c8
                have HC9 := Aside0.mk H
                clear H
                try go_wp2
                have n0_ := Aside0.mk (below_drew1 HB.out)
                clear HB
                have HB := n0_
                clear n0_
                have p6156 : 0 ≤ (x19_1 : Int) := of_decide_eq_true (by first | (with_reducible assumption) | assumption)
                have q6156 : x19_1 < (l0.length : Int) := of_decide_eq_true (by first | (with_reducible assumption) | assumption)
                obtain ⟨ad6156, A6156_3, c6156_3, A6156_4, c6156_4, e6156, hx6156_0, hx6156_1, hx6156_2, hx6156_3, hx6156_4, hl6156_3, hi6156_3, hl6156_4, hi6156_4⟩ := at_T51 HR0.out x19_1 p6156 q6156
                have hw6156_4 := hx6156_4
                have hw6156_3 := hx6156_3
                have hw6156_2 := hx6156_2
                have hw6156_1 := hx6156_1
                have hw6156_0 := hx6156_0
                cases e6156
                replace hx6156_0 := (HB.out.cell (World.block_lt_of_cell? w _ hx6156_0)).trans hx6156_0
                replace hx6156_1 := (HB.out.cell (World.block_lt_of_cell? w _ hx6156_1)).trans hx6156_1
                replace hx6156_2 := (HB.out.cell (World.block_lt_of_cell? w _ hx6156_2)).trans hx6156_2
                replace hx6156_3 := (HB.out.cell (World.block_lt_of_cell? w _ hx6156_3)).trans hx6156_3
                replace hx6156_4 := (HB.out.cell (World.block_lt_of_cell? w _ hx6156_4)).trans hx6156_4
                have HR6156_3 := Aside0.mk hi6156_3
                have HC6156_3 := Aside0.mk hl6156_3
                clear hi6156_3 hl6156_3
                have HR6156_4 := Aside0.mk hi6156_4
                have HC6156_4 := Aside0.mk hl6156_4
                clear hi6156_4 hl6156_4
                replace p6156 := eq_true p6156
                replace q6156 := eq_true q6156
                have p6157 : 0 ≤ (x19_1 : Int) := of_decide_eq_true (by first | (with_reducible assumption) | assumption)
                have q6157 : x19_1 < (l1.length : Int) := of_decide_eq_true (by first | (with_reducible assumption) | assumption)
                obtain ⟨ad6157, A6157_3, c6157_3, A6157_4, c6157_4, e6157, hx6157_0, hx6157_1, hx6157_2, hx6157_3, hx6157_4, hl6157_3, hi6157_3, hl6157_4, hi6157_4⟩ := at_T51 HR1.out x19_1 p6157 q6157
                have hw6157_4 := hx6157_4
                have hw6157_3 := hx6157_3
                have hw6157_2 := hx6157_2
                have hw6157_1 := hx6157_1
                have hw6157_0 := hx6157_0
                cases e6157
                replace hx6157_0 := (HB.out.cell (World.block_lt_of_cell? w _ hx6157_0)).trans hx6157_0
                replace hx6157_1 := (HB.out.cell (World.block_lt_of_cell? w _ hx6157_1)).trans hx6157_1
                replace hx6157_2 := (HB.out.cell (World.block_lt_of_cell? w _ hx6157_2)).trans hx6157_2
                replace hx6157_3 := (HB.out.cell (World.block_lt_of_cell? w _ hx6157_3)).trans hx6157_3
                replace hx6157_4 := (HB.out.cell (World.block_lt_of_cell? w _ hx6157_4)).trans hx6157_4
                have HR6157_3 := Aside0.mk hi6157_3
                have HC6157_3 := Aside0.mk hl6157_3
                clear hi6157_3 hl6157_3
                have HR6157_4 := Aside0.mk hi6157_4
                have HC6157_4 := Aside0.mk hl6157_4
                clear hi6157_4 hl6157_4
                replace p6157 := eq_true p6157
                replace q6157 := eq_true q6157
                refine start_ (n := 12) (S := fun w' => w'.cell? (ad6156.add ((x19_1).toNat * 5)) = some (.int .i64 ((rd_T51 l0 x19_1).f0)) ∧ w'.cell? ⟨(ad6156.add ((x19_1).toNat * 5)).block, (ad6156.add ((x19_1).toNat * 5)).off + 1, none⟩ = some (.string ((rd_T51 l0 x19_1).f1)) ∧ w'.cell? ⟨(ad6156.add ((x19_1).toNat * 5)).block, (ad6156.add ((x19_1).toNat * 5)).off + 2, none⟩ = some (.bool ((rd_T51 l0 x19_1).f2)) ∧ w'.cell? ⟨(ad6156.add ((x19_1).toNat * 5)).block, (ad6156.add ((x19_1).toNat * 5)).off + 3, none⟩ = some (.slice A6156_3 ((rd_T51 l0 x19_1).f3).length c6156_3) ∧ w'.cell? ⟨(ad6156.add ((x19_1).toNat * 5)).block, (ad6156.add ((x19_1).toNat * 5)).off + 4, none⟩ = some (.slice A6156_4 ((rd_T51 l0 x19_1).f4).length c6156_4) ∧ w'.cell? (ad6157.add ((x19_1).toNat * 5)) = some (.int .i64 ((rd_T51 l1 x19_1).f0)) ∧ w'.cell? ⟨(ad6157.add ((x19_1).toNat * 5)).block, (ad6157.add ((x19_1).toNat * 5)).off + 1, none⟩ = some (.string ((rd_T51 l1 x19_1).f1)) ∧ w'.cell? ⟨(ad6157.add ((x19_1).toNat * 5)).block, (ad6157.add ((x19_1).toNat * 5)).off + 2, none⟩ = some (.bool ((rd_T51 l1 x19_1).f2)) ∧ w'.cell? ⟨(ad6157.add ((x19_1).toNat * 5)).block, (ad6157.add ((x19_1).toNat * 5)).off + 3, none⟩ = some (.slice A6157_3 ((rd_T51 l1 x19_1).f3).length c6157_3) ∧ w'.cell? ⟨(ad6157.add ((x19_1).toNat * 5)).block, (ad6157.add ((x19_1).toNat * 5)).off + 4, none⟩ = some (.slice A6157_4 ((rd_T51 l1 x19_1).f4).length c6157_4)) (ds := []) #[false, false, false, false, false, false, false, false, false, false, false, false] (by kernel_rfl) rfl rfl ⟨((HB.out.cell (World.block_lt_of_cell? w _ hw6156_0)).trans hw6156_0), ((HB.out.cell (World.block_lt_of_cell? w _ hw6156_1)).trans hw6156_1), ((HB.out.cell (World.block_lt_of_cell? w _ hw6156_2)).trans hw6156_2), ((HB.out.cell (World.block_lt_of_cell? w _ hw6156_3)).trans hw6156_3), ((HB.out.cell (World.block_lt_of_cell? w _ hw6156_4)).trans hw6156_4), ((HB.out.cell (World.block_lt_of_cell? w _ hw6157_0)).trans hw6157_0), ((HB.out.cell (World.block_lt_of_cell? w _ hw6157_1)).trans hw6157_1), ((HB.out.cell (World.block_lt_of_cell? w _ hw6157_2)).trans hw6157_2), ((HB.out.cell (World.block_lt_of_cell? w _ hw6157_3)).trans hw6157_3), ((HB.out.cell (World.block_lt_of_cell? w _ hw6157_4)).trans hw6157_4)⟩ (fun hHeld => ?_); refine with_tabW impl_coreAlpha.tab6 impl_coreAlpha.bits6 (fun HT_ HW_ => ?_)
                generalize wr.drew = w10 at HB HR6156_3 HR6156_4 HR6157_3 HR6157_4 hx6156_0 hx6156_1 hx6156_2 hx6156_3 hx6156_4 hx6157_0 hx6157_1 hx6157_2 hx6157_3 hx6157_4 hHeld ⊢
                refine pure_ (i := 0) (N := some 22) (v := ?_) (a' := ?_) #[true, false, false, false, false, false, false, false, false, false, false, false] rfl rfl (any_of HT_.out (by kernel_rfl)) (fun _ _ _ h => h) (Or.inl ⟨by rfl, ?_⟩) ?_ ?_
                rotate_left
                · intro w'
                  go_simp
                  with_reducible rfl
                rotate_left
                · simp only [Act.put, List.setIfInBounds_toArray, List.set_cons_zero, List.set_cons_succ, i64_w, i32_w]
                  rfl
                refine pure_ (i := 1) (N := some 23) (v := ?_) (a' := ?_) #[true, true, false, false, false, false, false, false, false, false, false, false] rfl rfl (any_of HT_.out (by kernel_rfl)) (fun _ _ _ h => h) (Or.inl ⟨by rfl, ?_⟩) ?_ ?_
                rotate_left
                · intro w'
                  go_simp
                  with_reducible rfl
                rotate_left
                · simp only [Act.put, List.setIfInBounds_toArray, List.set_cons_zero, List.set_cons_succ, i64_w, i32_w]
                  rfl
                refine pure_ (i := 2) (N := some 24) (v := ?_) (a' := ?_) #[true, true, true, false, false, false, false, false, false, false, false, false] rfl rfl (any_of HT_.out (by kernel_rfl)) (fun _ _ _ h => h) (Or.inl ⟨by rfl, ?_⟩) ?_ ?_
                rotate_left
                · intro w'
                  go_simp
                  with_reducible rfl
                rotate_left
                · simp only [Act.put, List.setIfInBounds_toArray, List.set_cons_zero, List.set_cons_succ, i64_w, i32_w]
                  rfl
                refine pure_ (i := 4) (N := some 26) (v := ?_) (a' := ?_) #[true, true, true, false, true, false, false, false, false, false, false, false] rfl rfl (any_of HT_.out (by kernel_rfl)) (fun _ _ _ h => h) (Or.inl ⟨by rfl, ?_⟩) ?_ ?_
                rotate_left
                · intro w'
                  go_simp
                  with_reducible rfl
                rotate_left
                · simp only [Act.put, List.setIfInBounds_toArray, List.set_cons_zero, List.set_cons_succ, i64_w, i32_w]
                  rfl
                refine pure_ (i := 5) (N := some 27) (v := ?_) (a' := ?_) #[true, true, true, false, true, true, false, false, false, false, false, false] rfl rfl (any_of HT_.out (by kernel_rfl)) (fun _ _ _ h => h) (Or.inl ⟨by rfl, ?_⟩) ?_ ?_
                rotate_left
                · intro w'
                  go_simp
                  with_reducible rfl
                rotate_left
                · simp only [Act.put, List.setIfInBounds_toArray, List.set_cons_zero, List.set_cons_succ, i64_w, i32_w]
                  rfl
                refine pure_ (i := 6) (N := some 28) (v := ?_) (a' := ?_) #[true, true, true, false, true, true, true, false, false, false, false, false] rfl rfl (any_of HT_.out (by kernel_rfl)) (fun _ _ _ h => h) (Or.inl ⟨by rfl, ?_⟩) ?_ ?_
                rotate_left
                · intro w'
                  go_simp
                  with_reducible rfl
                rotate_left
                · simp only [Act.put, List.setIfInBounds_toArray, List.set_cons_zero, List.set_cons_succ, i64_w, i32_w]
                  rfl
                refine take_ (i := 3) (N := some 25) (v := ?_) (a' := ?_) #[true, true, true, true, true, true, true, false, false, false, false, false] rfl rfl (take_ofW HT_.out HW_.out (by kernel_rfl)) (fun _ _ _ h => h) (Or.inl ⟨by rfl, ?_⟩) hHeld ?_ ?_
                rotate_left
                · rintro w' ⟨s0, s1, s2, s3, s4, s5, s6, s7, s8, s9⟩
                  go_simp
                  with_reducible rfl
                rotate_left
                · simp only [Act.put, List.setIfInBounds_toArray, List.set_cons_zero, List.set_cons_succ, i64_w, i32_w]
                  rfl
                refine take_ (i := 7) (N := some 29) (v := ?_) (a' := ?_) #[true, true, true, true, true, true, true, true, false, false, false, false] rfl rfl (take_ofW HT_.out HW_.out (by kernel_rfl)) (fun _ _ _ h => h) (Or.inl ⟨by rfl, ?_⟩) hHeld ?_ ?_
                rotate_left
                · rintro w' ⟨s0, s1, s2, s3, s4, s5, s6, s7, s8, s9⟩
                  go_simp
                  with_reducible rfl
                rotate_left
                · simp only [Act.put, List.setIfInBounds_toArray, List.set_cons_zero, List.set_cons_succ, i64_w, i32_w]
                  rfl
                refine join_ (σ := Nat × Nat) 2 #[true, true, true, true, true, true, true, true, true, true, false, false] (fun s_ => [(8, .pointer (some ⟨s_.1, 0, none⟩)), (9, .pointer (some ⟨s_.2, 0, none⟩))]) (fun s_ w' => (w'.cell? (ad6156.add ((x19_1).toNat * 5)) = some (.int .i64 ((rd_T51 l0 x19_1).f0)) ∧ w'.cell? ⟨(ad6156.add ((x19_1).toNat * 5)).block, (ad6156.add ((x19_1).toNat * 5)).off + 1, none⟩ = some (.string ((rd_T51 l0 x19_1).f1)) ∧ w'.cell? ⟨(ad6156.add ((x19_1).toNat * 5)).block, (ad6156.add ((x19_1).toNat * 5)).off + 2, none⟩ = some (.bool ((rd_T51 l0 x19_1).f2)) ∧ w'.cell? ⟨(ad6156.add ((x19_1).toNat * 5)).block, (ad6156.add ((x19_1).toNat * 5)).off + 3, none⟩ = some (.slice A6156_3 ((rd_T51 l0 x19_1).f3).length c6156_3) ∧ w'.cell? ⟨(ad6156.add ((x19_1).toNat * 5)).block, (ad6156.add ((x19_1).toNat * 5)).off + 4, none⟩ = some (.slice A6156_4 ((rd_T51 l0 x19_1).f4).length c6156_4) ∧ w'.cell? (ad6157.add ((x19_1).toNat * 5)) = some (.int .i64 ((rd_T51 l1 x19_1).f0)) ∧ w'.cell? ⟨(ad6157.add ((x19_1).toNat * 5)).block, (ad6157.add ((x19_1).toNat * 5)).off + 1, none⟩ = some (.string ((rd_T51 l1 x19_1).f1)) ∧ w'.cell? ⟨(ad6157.add ((x19_1).toNat * 5)).block, (ad6157.add ((x19_1).toNat * 5)).off + 2, none⟩ = some (.bool ((rd_T51 l1 x19_1).f2)) ∧ w'.cell? ⟨(ad6157.add ((x19_1).toNat * 5)).block, (ad6157.add ((x19_1).toNat * 5)).off + 3, none⟩ = some (.slice A6157_3 ((rd_T51 l1 x19_1).f3).length c6157_3) ∧ w'.cell? ⟨(ad6157.add ((x19_1).toNat * 5)).block, (ad6157.add ((x19_1).toNat * 5)).off + 4, none⟩ = some (.slice A6157_4 ((rd_T51 l1 x19_1).f4).length c6157_4)) ∧ (w'.heap[s_.1]? = some (.cells #[.int .i64 0, .string (⟨#[]⟩ : ByteArray), .bool false, .slice none 0 0, .slice none 0 0] 51 (0, 0))) ∧ (w'.heap[s_.2]? = some (.cells #[.int .i64 0, .string (⟨#[]⟩ : ByteArray), .bool false, .slice none 0 0, .slice none 0 0] 51 (0, 0))) ∧ (w.heap.size ≤ s_.1) ∧ (w.heap.size ≤ s_.1) ∧ (s_.2 ≠ s_.1) ∧ (s_.1 ≠ s_.2) ∧ (w.heap.size ≤ s_.2) ∧ (w.heap.size ≤ s_.2) ∧ (Below w.heap.size w w')) ?_ ?_
                rotate_left
                · intro hCont
                  refine two_ (i := 8) (j := 9) (Ni := some 8) (Nj := some 9) #[true, true, true, true, true, true, true, true, true, false, false, false] #[true, true, true, true, true, true, true, true, false, true, false, false] rfl rfl rfl rfl (two_of HT_.out (by kernel_rfl)) (by decide) (by decide) (fun K hK => ?_) (fun K hK => ?_)
                  · skip
                    refine box_step ?hg (N := 8) ?hd (cs := #[.int .i64 0, .string (⟨#[]⟩ : ByteArray), .bool false, .slice none 0 0, .slice none 0 0]) (t := 51) ?hr ?_; (case hd => rfl); (case hg => rfl); (case hr => first | (go_simp; done) | (go_simp; rfl))
                    intro gb6158 hg w11 hbox hb
                    have n0_ := Aside0.mk (below_step (by repeat (first | (with_reducible first | exact HB.out | apply below_alloc | apply pw_below_drewN | apply below_drew1) | exact HB.out)) hb)
                    have n1_ := Aside0.mk (hbox)
                    have n2_ := Aside0.mk ((by rw [hg]; exact (below_size (by repeat (first | (with_reducible first | exact HB.out | apply below_alloc | apply pw_below_drewN | apply below_drew1) | exact HB.out))) : w.heap.size ≤ gb6158))
                    have n3_ := Aside0.mk ((by rw [hg]; exact (below_size (by repeat (first | (with_reducible first | exact HB.out | apply below_alloc | apply pw_below_drewN | apply below_drew1) | exact HB.out))) : w.heap.size ≤ gb6158))
                    clear HB
                    have HB := n0_
                    have BK6158 := n1_
                    have GW6158 := n2_
                    have GE6158 := n3_
                    clear n0_ n1_ n2_ n3_
                    clear hb hbox hg
                    refine hK.out _ _ ⟨((HB.out.cell (World.block_lt_of_cell? w _ hw6156_0)).trans hw6156_0), ((HB.out.cell (World.block_lt_of_cell? w _ hw6156_1)).trans hw6156_1), ((HB.out.cell (World.block_lt_of_cell? w _ hw6156_2)).trans hw6156_2), ((HB.out.cell (World.block_lt_of_cell? w _ hw6156_3)).trans hw6156_3), ((HB.out.cell (World.block_lt_of_cell? w _ hw6156_4)).trans hw6156_4), ((HB.out.cell (World.block_lt_of_cell? w _ hw6157_0)).trans hw6157_0), ((HB.out.cell (World.block_lt_of_cell? w _ hw6157_1)).trans hw6157_1), ((HB.out.cell (World.block_lt_of_cell? w _ hw6157_2)).trans hw6157_2), ((HB.out.cell (World.block_lt_of_cell? w _ hw6157_3)).trans hw6157_3), ((HB.out.cell (World.block_lt_of_cell? w _ hw6157_4)).trans hw6157_4)⟩ (fun hHeld => ?_)
                    clear hK K
                    refine norm_ (a' := ?_) ?_ ?_
                    rotate_left
                    · show Act.put _ (some 8) _ = _
                      simp only [Act.put, List.setIfInBounds_toArray, List.set_cons_zero, List.set_cons_succ, i64_w, i32_w]
                      rfl
                    refine one_ (i := 9) (N := some 9) #[true, true, true, true, true, true, true, true, true, true, false, false] rfl rfl (one_of HT_.out (by kernel_rfl)) (by decide) (fun K hK => ?_)
                    refine box_step ?hg (N := 9) ?hd (cs := #[.int .i64 0, .string (⟨#[]⟩ : ByteArray), .bool false, .slice none 0 0, .slice none 0 0]) (t := 51) ?hr ?_; (case hd => rfl); (case hg => rfl); (case hr => first | (go_simp; done) | (go_simp; rfl))
                    intro gb6159 hg w12 hbox hb
                    have n0_ := Aside0.mk (blk_below (g := gb6158) (o := .cells #[.int .i64 0, .string (⟨#[]⟩ : ByteArray), .bool false, .slice none 0 0, .slice none 0 0] 51 (0, 0)) (by (with_reducible repeat (first | refine blk_drewN ?_ _ | refine blk_drew ?_ | refine blk_alloc ?_ _)); exact BK6158.out) hb)
                    have n1_ := Aside0.mk (below_step (by repeat (first | (with_reducible first | exact HB.out | apply below_alloc | apply pw_below_drewN | apply below_drew1 | refine below_set ?_ GE6158.out) | exact HB.out)) hb)
                    have n2_ := Aside0.mk (hbox)
                    have n3_ := Aside0.mk ((by rw [hg]; exact (below_size (by repeat (first | (with_reducible first | exact HB.out | apply below_alloc | apply pw_below_drewN | apply below_drew1 | refine below_set ?_ GE6158.out) | exact HB.out))) : w.heap.size ≤ gb6159))
                    have n4_ := Aside0.mk ((by rw [hg]; exact (below_size (by repeat (first | (with_reducible first | exact HB.out | apply below_alloc | apply pw_below_drewN | apply below_drew1 | refine below_set ?_ GE6158.out) | exact HB.out))) : w.heap.size ≤ gb6159))
                    have n5_ := Aside0.mk ((by rw [hg]; exact Nat.ne_of_lt (blk_lt (g := gb6158) (o := .cells #[.int .i64 0, .string (⟨#[]⟩ : ByteArray), .bool false, .slice none 0 0, .slice none 0 0] 51 (0, 0)) (by (with_reducible repeat (first | refine blk_drewN ?_ _ | refine blk_drew ?_ | refine blk_alloc ?_ _)); exact BK6158.out)) : gb6158 ≠ gb6159))
                    have n6_ := Aside0.mk ((by rw [hg]; exact Nat.ne_of_gt (blk_lt (g := gb6158) (o := .cells #[.int .i64 0, .string (⟨#[]⟩ : ByteArray), .bool false, .slice none 0 0, .slice none 0 0] 51 (0, 0)) (by (with_reducible repeat (first | refine blk_drewN ?_ _ | refine blk_drew ?_ | refine blk_alloc ?_ _)); exact BK6158.out)) : gb6159 ≠ gb6158))
                    clear BK6158
                    clear HB
                    have BK6158 := n0_
                    have HB := n1_
                    have BK6159 := n2_
                    have GW6159 := n3_
                    have GE6159 := n4_
                    have NB6158_6159 := n5_
                    have NB6159_6158 := n6_
                    clear n0_ n1_ n2_ n3_ n4_ n5_ n6_
                    clear hb hbox hg
                    refine hK.out _ _ ⟨((HB.out.cell (World.block_lt_of_cell? w _ hw6156_0)).trans hw6156_0), ((HB.out.cell (World.block_lt_of_cell? w _ hw6156_1)).trans hw6156_1), ((HB.out.cell (World.block_lt_of_cell? w _ hw6156_2)).trans hw6156_2), ((HB.out.cell (World.block_lt_of_cell? w _ hw6156_3)).trans hw6156_3), ((HB.out.cell (World.block_lt_of_cell? w _ hw6156_4)).trans hw6156_4), ((HB.out.cell (World.block_lt_of_cell? w _ hw6157_0)).trans hw6157_0), ((HB.out.cell (World.block_lt_of_cell? w _ hw6157_1)).trans hw6157_1), ((HB.out.cell (World.block_lt_of_cell? w _ hw6157_2)).trans hw6157_2), ((HB.out.cell (World.block_lt_of_cell? w _ hw6157_3)).trans hw6157_3), ((HB.out.cell (World.block_lt_of_cell? w _ hw6157_4)).trans hw6157_4)⟩ (fun hHeld => ?_)
                    clear hK K
                    refine norm_ (a' := ?_) ?_ ?_
                    rotate_left
                    · show Act.put _ (some 9) _ = _
                      simp only [Act.put, List.setIfInBounds_toArray, List.set_cons_zero, List.set_cons_succ, i64_w, i32_w]
                      rfl
                    exact norm_ (by simp only [putAll, Act.put, List.setIfInBounds_toArray, List.set_cons_zero, List.set_cons_succ]) (hCont (gb6158, gb6159) _ ⟨hHeld, (by (with_reducible repeat (first | refine blk_drewN ?_ _ | refine blk_drew ?_ | refine blk_alloc ?_ _)); exact BK6158.out), (by (with_reducible repeat (first | refine blk_drewN ?_ _ | refine blk_drew ?_ | refine blk_alloc ?_ _)); exact BK6159.out), GW6158.out, GE6158.out, NB6159_6158.out, NB6158_6159.out, GW6159.out, GE6159.out, (by repeat (first | (with_reducible first | exact HB.out | apply below_alloc | apply pw_below_drewN | apply below_drew1 | refine below_set ?_ GE6158.out | refine below_set ?_ GE6159.out) | exact HB.out))⟩)
                  · skip
                    refine box_step ?hg (N := 9) ?hd (cs := #[.int .i64 0, .string (⟨#[]⟩ : ByteArray), .bool false, .slice none 0 0, .slice none 0 0]) (t := 51) ?hr ?_; (case hd => rfl); (case hg => rfl); (case hr => first | (go_simp; done) | (go_simp; rfl))
                    intro gb6159 hg w11 hbox hb
                    have n0_ := Aside0.mk (below_step (by repeat (first | (with_reducible first | exact HB.out | apply below_alloc | apply pw_below_drewN | apply below_drew1) | exact HB.out)) hb)
                    have n1_ := Aside0.mk (hbox)
                    have n2_ := Aside0.mk ((by rw [hg]; exact (below_size (by repeat (first | (with_reducible first | exact HB.out | apply below_alloc | apply pw_below_drewN | apply below_drew1) | exact HB.out))) : w.heap.size ≤ gb6159))
                    have n3_ := Aside0.mk ((by rw [hg]; exact (below_size (by repeat (first | (with_reducible first | exact HB.out | apply below_alloc | apply pw_below_drewN | apply below_drew1) | exact HB.out))) : w.heap.size ≤ gb6159))
                    clear HB
                    have HB := n0_
                    have BK6159 := n1_
                    have GW6159 := n2_
                    have GE6159 := n3_
                    clear n0_ n1_ n2_ n3_
                    clear hb hbox hg
                    refine hK.out _ _ ⟨((HB.out.cell (World.block_lt_of_cell? w _ hw6156_0)).trans hw6156_0), ((HB.out.cell (World.block_lt_of_cell? w _ hw6156_1)).trans hw6156_1), ((HB.out.cell (World.block_lt_of_cell? w _ hw6156_2)).trans hw6156_2), ((HB.out.cell (World.block_lt_of_cell? w _ hw6156_3)).trans hw6156_3), ((HB.out.cell (World.block_lt_of_cell? w _ hw6156_4)).trans hw6156_4), ((HB.out.cell (World.block_lt_of_cell? w _ hw6157_0)).trans hw6157_0), ((HB.out.cell (World.block_lt_of_cell? w _ hw6157_1)).trans hw6157_1), ((HB.out.cell (World.block_lt_of_cell? w _ hw6157_2)).trans hw6157_2), ((HB.out.cell (World.block_lt_of_cell? w _ hw6157_3)).trans hw6157_3), ((HB.out.cell (World.block_lt_of_cell? w _ hw6157_4)).trans hw6157_4)⟩ (fun hHeld => ?_)
                    clear hK K
                    refine norm_ (a' := ?_) ?_ ?_
                    rotate_left
                    · show Act.put _ (some 9) _ = _
                      simp only [Act.put, List.setIfInBounds_toArray, List.set_cons_zero, List.set_cons_succ, i64_w, i32_w]
                      rfl
                    refine one_ (i := 8) (N := some 8) #[true, true, true, true, true, true, true, true, true, true, false, false] rfl rfl (one_of HT_.out (by kernel_rfl)) (by decide) (fun K hK => ?_)
                    refine box_step ?hg (N := 8) ?hd (cs := #[.int .i64 0, .string (⟨#[]⟩ : ByteArray), .bool false, .slice none 0 0, .slice none 0 0]) (t := 51) ?hr ?_; (case hd => rfl); (case hg => rfl); (case hr => first | (go_simp; done) | (go_simp; rfl))
                    intro gb6158 hg w12 hbox hb
                    have n0_ := Aside0.mk (blk_below (g := gb6159) (o := .cells #[.int .i64 0, .string (⟨#[]⟩ : ByteArray), .bool false, .slice none 0 0, .slice none 0 0] 51 (0, 0)) (by (with_reducible repeat (first | refine blk_drewN ?_ _ | refine blk_drew ?_ | refine blk_alloc ?_ _)); exact BK6159.out) hb)
                    have n1_ := Aside0.mk (below_step (by repeat (first | (with_reducible first | exact HB.out | apply below_alloc | apply pw_below_drewN | apply below_drew1 | refine below_set ?_ GE6159.out) | exact HB.out)) hb)
                    have n2_ := Aside0.mk (hbox)
                    have n3_ := Aside0.mk ((by rw [hg]; exact (below_size (by repeat (first | (with_reducible first | exact HB.out | apply below_alloc | apply pw_below_drewN | apply below_drew1 | refine below_set ?_ GE6159.out) | exact HB.out))) : w.heap.size ≤ gb6158))
                    have n4_ := Aside0.mk ((by rw [hg]; exact (below_size (by repeat (first | (with_reducible first | exact HB.out | apply below_alloc | apply pw_below_drewN | apply below_drew1 | refine below_set ?_ GE6159.out) | exact HB.out))) : w.heap.size ≤ gb6158))
                    have n5_ := Aside0.mk ((by rw [hg]; exact Nat.ne_of_lt (blk_lt (g := gb6159) (o := .cells #[.int .i64 0, .string (⟨#[]⟩ : ByteArray), .bool false, .slice none 0 0, .slice none 0 0] 51 (0, 0)) (by (with_reducible repeat (first | refine blk_drewN ?_ _ | refine blk_drew ?_ | refine blk_alloc ?_ _)); exact BK6159.out)) : gb6159 ≠ gb6158))
                    have n6_ := Aside0.mk ((by rw [hg]; exact Nat.ne_of_gt (blk_lt (g := gb6159) (o := .cells #[.int .i64 0, .string (⟨#[]⟩ : ByteArray), .bool false, .slice none 0 0, .slice none 0 0] 51 (0, 0)) (by (with_reducible repeat (first | refine blk_drewN ?_ _ | refine blk_drew ?_ | refine blk_alloc ?_ _)); exact BK6159.out)) : gb6158 ≠ gb6159))
                    clear BK6159
                    clear HB
                    have BK6159 := n0_
                    have HB := n1_
                    have BK6158 := n2_
                    have GW6158 := n3_
                    have GE6158 := n4_
                    have NB6159_6158 := n5_
                    have NB6158_6159 := n6_
                    clear n0_ n1_ n2_ n3_ n4_ n5_ n6_
                    clear hb hbox hg
                    refine hK.out _ _ ⟨((HB.out.cell (World.block_lt_of_cell? w _ hw6156_0)).trans hw6156_0), ((HB.out.cell (World.block_lt_of_cell? w _ hw6156_1)).trans hw6156_1), ((HB.out.cell (World.block_lt_of_cell? w _ hw6156_2)).trans hw6156_2), ((HB.out.cell (World.block_lt_of_cell? w _ hw6156_3)).trans hw6156_3), ((HB.out.cell (World.block_lt_of_cell? w _ hw6156_4)).trans hw6156_4), ((HB.out.cell (World.block_lt_of_cell? w _ hw6157_0)).trans hw6157_0), ((HB.out.cell (World.block_lt_of_cell? w _ hw6157_1)).trans hw6157_1), ((HB.out.cell (World.block_lt_of_cell? w _ hw6157_2)).trans hw6157_2), ((HB.out.cell (World.block_lt_of_cell? w _ hw6157_3)).trans hw6157_3), ((HB.out.cell (World.block_lt_of_cell? w _ hw6157_4)).trans hw6157_4)⟩ (fun hHeld => ?_)
                    clear hK K
                    refine norm_ (a' := ?_) ?_ ?_
                    rotate_left
                    · show Act.put _ (some 8) _ = _
                      simp only [Act.put, List.setIfInBounds_toArray, List.set_cons_zero, List.set_cons_succ, i64_w, i32_w]
                      rfl
                    exact norm_ (by simp only [putAll, Act.put, List.setIfInBounds_toArray, List.set_cons_zero, List.set_cons_succ]) (hCont (gb6158, gb6159) _ ⟨hHeld, (by (with_reducible repeat (first | refine blk_drewN ?_ _ | refine blk_drew ?_ | refine blk_alloc ?_ _)); exact BK6158.out), (by (with_reducible repeat (first | refine blk_drewN ?_ _ | refine blk_drew ?_ | refine blk_alloc ?_ _)); exact BK6159.out), GW6158.out, GE6158.out, NB6159_6158.out, NB6158_6159.out, GW6159.out, GE6159.out, (by repeat (first | (with_reducible first | exact HB.out | apply below_alloc | apply pw_below_drewN | apply below_drew1 | refine below_set ?_ GE6159.out | refine below_set ?_ GE6158.out) | exact HB.out))⟩)
                rintro ⟨gb6158, gb6159⟩ w13 ⟨hS_, h0_, h1_, h2_, h3_, h4_, h5_, h6_, h7_, h8_⟩
                have n0_ : Aside0 (w13.heap[gb6158]? = some (.cells #[.int .i64 0, .string (⟨#[]⟩ : ByteArray), .bool false, .slice none 0 0, .slice none 0 0] 51 (0, 0))) := ⟨h0_⟩
                have n1_ : Aside0 (w13.heap[gb6159]? = some (.cells #[.int .i64 0, .string (⟨#[]⟩ : ByteArray), .bool false, .slice none 0 0, .slice none 0 0] 51 (0, 0))) := ⟨h1_⟩
                have n2_ : Aside0 (w.heap.size ≤ gb6158) := ⟨h2_⟩
                have n3_ : Aside0 (w.heap.size ≤ gb6158) := ⟨h3_⟩
                have n4_ : Aside0 (gb6159 ≠ gb6158) := ⟨h4_⟩
                have n5_ : Aside0 (gb6158 ≠ gb6159) := ⟨h5_⟩
                have n6_ : Aside0 (w.heap.size ≤ gb6159) := ⟨h6_⟩
                have n7_ : Aside0 (w.heap.size ≤ gb6159) := ⟨h7_⟩
                have n8_ : Aside0 (Below w.heap.size w w13) := ⟨h8_⟩
                clear HB
                clear h0_ h1_ h2_ h3_ h4_ h5_ h6_ h7_ h8_
                have BK6158 := n0_
                have BK6159 := n1_
                have GW6158 := n2_
                have GE6158 := n3_
                have NB6159_6158 := n4_
                have NB6158_6159 := n5_
                have GW6159 := n6_
                have GE6159 := n7_
                have HB := n8_
                clear n0_ n1_ n2_ n3_ n4_ n5_ n6_ n7_ n8_
                have hHeld : w13.cell? (ad6156.add ((x19_1).toNat * 5)) = some (.int .i64 ((rd_T51 l0 x19_1).f0)) ∧ w13.cell? ⟨(ad6156.add ((x19_1).toNat * 5)).block, (ad6156.add ((x19_1).toNat * 5)).off + 1, none⟩ = some (.string ((rd_T51 l0 x19_1).f1)) ∧ w13.cell? ⟨(ad6156.add ((x19_1).toNat * 5)).block, (ad6156.add ((x19_1).toNat * 5)).off + 2, none⟩ = some (.bool ((rd_T51 l0 x19_1).f2)) ∧ w13.cell? ⟨(ad6156.add ((x19_1).toNat * 5)).block, (ad6156.add ((x19_1).toNat * 5)).off + 3, none⟩ = some (.slice A6156_3 ((rd_T51 l0 x19_1).f3).length c6156_3) ∧ w13.cell? ⟨(ad6156.add ((x19_1).toNat * 5)).block, (ad6156.add ((x19_1).toNat * 5)).off + 4, none⟩ = some (.slice A6156_4 ((rd_T51 l0 x19_1).f4).length c6156_4) ∧ w13.cell? (ad6157.add ((x19_1).toNat * 5)) = some (.int .i64 ((rd_T51 l1 x19_1).f0)) ∧ w13.cell? ⟨(ad6157.add ((x19_1).toNat * 5)).block, (ad6157.add ((x19_1).toNat * 5)).off + 1, none⟩ = some (.string ((rd_T51 l1 x19_1).f1)) ∧ w13.cell? ⟨(ad6157.add ((x19_1).toNat * 5)).block, (ad6157.add ((x19_1).toNat * 5)).off + 2, none⟩ = some (.bool ((rd_T51 l1 x19_1).f2)) ∧ w13.cell? ⟨(ad6157.add ((x19_1).toNat * 5)).block, (ad6157.add ((x19_1).toNat * 5)).off + 3, none⟩ = some (.slice A6157_3 ((rd_T51 l1 x19_1).f3).length c6157_3) ∧ w13.cell? ⟨(ad6157.add ((x19_1).toNat * 5)).block, (ad6157.add ((x19_1).toNat * 5)).off + 4, none⟩ = some (.slice A6157_4 ((rd_T51 l1 x19_1).f4).length c6157_4) := hS_
                refine norm_ (a' := ?_) ?_ ?_
                rotate_left
                · simp only [putAll, Act.put, List.setIfInBounds_toArray, List.set_cons_zero, List.set_cons_succ]
                  rfl
                refine one_ (i := 10) (N := none) #[true, true, true, true, true, true, true, true, true, true, true, false] rfl rfl (one_of HT_.out (by kernel_rfl)) (by decide) (fun K hK => ?_)
                have hs14 : w13.cell? ⟨gb6158, 0, none⟩ = some (.int .i64 0) := (blk_cell BK6158.out 0).trans rfl
                have hfs14 := blk_frozen BK6158.out 0
                have hns14_1 := NB6159_6158.out
                have hms14_1 := NB6158_6159.out
                have hs15 : w13.cell? ⟨gb6158, 1, none⟩ = some (.string (⟨#[]⟩ : ByteArray)) := (blk_cell BK6158.out 1).trans rfl
                have hfs15 := blk_frozen BK6158.out 1
                have hns15_1 := NB6159_6158.out
                have hms15_1 := NB6158_6159.out
                have hs16 : w13.cell? ⟨gb6158, 2, none⟩ = some (.bool false) := (blk_cell BK6158.out 2).trans rfl
                have hfs16 := blk_frozen BK6158.out 2
                have hns16_1 := NB6159_6158.out
                have hms16_1 := NB6158_6159.out
                have hs17 : w13.cell? ⟨gb6158, 3, none⟩ = some (.slice none 0 0) := (blk_cell BK6158.out 3).trans rfl
                have hfs17 := blk_frozen BK6158.out 3
                have hns17_1 := NB6159_6158.out
                have hms17_1 := NB6158_6159.out
                have hs18 : w13.cell? ⟨gb6158, 4, none⟩ = some (.slice none 0 0) := (blk_cell BK6158.out 4).trans rfl
                have hfs18 := blk_frozen BK6158.out 4
                have hns18_1 := NB6159_6158.out
                have hms18_1 := NB6158_6159.out
                refine skip_ (w1 := ?_) (by rfl) rfl ?_ ?_
                rotate_left
                · go_simp
                  rfl
                refine hK.out _ _ ⟨((cell_far (p := ⟨gb6158, _, none⟩) (by first | exact Nat.ne_of_lt (Nat.lt_of_lt_of_le (by have := World.block_lt_of_cell? _ _ hw6156_0; first | rwa [add_block] at this | exact this) GW6158.out) | (rw [add_block]; exact Nat.ne_of_lt (Nat.lt_of_lt_of_le (by have := World.block_lt_of_cell? _ _ hw6156_0; first | rwa [add_block] at this | exact this) GW6158.out)) | (show (Addr.add _ _).block ≠ _; rw [add_block]; exact Nat.ne_of_lt (Nat.lt_of_lt_of_le (by have := World.block_lt_of_cell? _ _ hw6156_0; first | rwa [add_block] at this | exact this) GW6158.out)) | (dsimp only; exact Nat.ne_of_lt (Nat.lt_of_lt_of_le (by have := World.block_lt_of_cell? _ _ hw6156_0; first | rwa [add_block] at this | exact this) GW6158.out))) _).trans (((cell_far (p := ⟨gb6158, _, none⟩) (by first | exact Nat.ne_of_lt (Nat.lt_of_lt_of_le (by have := World.block_lt_of_cell? _ _ hw6156_0; first | rwa [add_block] at this | exact this) GW6158.out) | (rw [add_block]; exact Nat.ne_of_lt (Nat.lt_of_lt_of_le (by have := World.block_lt_of_cell? _ _ hw6156_0; first | rwa [add_block] at this | exact this) GW6158.out)) | (show (Addr.add _ _).block ≠ _; rw [add_block]; exact Nat.ne_of_lt (Nat.lt_of_lt_of_le (by have := World.block_lt_of_cell? _ _ hw6156_0; first | rwa [add_block] at this | exact this) GW6158.out)) | (dsimp only; exact Nat.ne_of_lt (Nat.lt_of_lt_of_le (by have := World.block_lt_of_cell? _ _ hw6156_0; first | rwa [add_block] at this | exact this) GW6158.out))) _).trans (((cell_far (p := ⟨gb6158, _, none⟩) (by first | exact Nat.ne_of_lt (Nat.lt_of_lt_of_le (by have := World.block_lt_of_cell? _ _ hw6156_0; first | rwa [add_block] at this | exact this) GW6158.out) | (rw [add_block]; exact Nat.ne_of_lt (Nat.lt_of_lt_of_le (by have := World.block_lt_of_cell? _ _ hw6156_0; first | rwa [add_block] at this | exact this) GW6158.out)) | (show (Addr.add _ _).block ≠ _; rw [add_block]; exact Nat.ne_of_lt (Nat.lt_of_lt_of_le (by have := World.block_lt_of_cell? _ _ hw6156_0; first | rwa [add_block] at this | exact this) GW6158.out)) | (dsimp only; exact Nat.ne_of_lt (Nat.lt_of_lt_of_le (by have := World.block_lt_of_cell? _ _ hw6156_0; first | rwa [add_block] at this | exact this) GW6158.out))) _).trans (((cell_far (p := ⟨gb6158, _, none⟩) (by first | exact Nat.ne_of_lt (Nat.lt_of_lt_of_le (by have := World.block_lt_of_cell? _ _ hw6156_0; first | rwa [add_block] at this | exact this) GW6158.out) | (rw [add_block]; exact Nat.ne_of_lt (Nat.lt_of_lt_of_le (by have := World.block_lt_of_cell? _ _ hw6156_0; first | rwa [add_block] at this | exact this) GW6158.out)) | (show (Addr.add _ _).block ≠ _; rw [add_block]; exact Nat.ne_of_lt (Nat.lt_of_lt_of_le (by have := World.block_lt_of_cell? _ _ hw6156_0; first | rwa [add_block] at this | exact this) GW6158.out)) | (dsimp only; exact Nat.ne_of_lt (Nat.lt_of_lt_of_le (by have := World.block_lt_of_cell? _ _ hw6156_0; first | rwa [add_block] at this | exact this) GW6158.out))) _).trans (((cell_far (p := ⟨gb6158, _, none⟩) (by first | exact Nat.ne_of_lt (Nat.lt_of_lt_of_le (by have := World.block_lt_of_cell? _ _ hw6156_0; first | rwa [add_block] at this | exact this) GW6158.out) | (rw [add_block]; exact Nat.ne_of_lt (Nat.lt_of_lt_of_le (by have := World.block_lt_of_cell? _ _ hw6156_0; first | rwa [add_block] at this | exact this) GW6158.out)) | (show (Addr.add _ _).block ≠ _; rw [add_block]; exact Nat.ne_of_lt (Nat.lt_of_lt_of_le (by have := World.block_lt_of_cell? _ _ hw6156_0; first | rwa [add_block] at this | exact this) GW6158.out)) | (dsimp only; exact Nat.ne_of_lt (Nat.lt_of_lt_of_le (by have := World.block_lt_of_cell? _ _ hw6156_0; first | rwa [add_block] at this | exact this) GW6158.out))) _).trans (hHeld.1)))))))))), ((cell_far (p := ⟨gb6158, _, none⟩) (by first | exact Nat.ne_of_lt (Nat.lt_of_lt_of_le (by have := World.block_lt_of_cell? _ _ hw6156_1; first | rwa [add_block] at this | exact this) GW6158.out) | (rw [add_block]; exact Nat.ne_of_lt (Nat.lt_of_lt_of_le (by have := World.block_lt_of_cell? _ _ hw6156_1; first | rwa [add_block] at this | exact this) GW6158.out)) | (show (Addr.add _ _).block ≠ _; rw [add_block]; exact Nat.ne_of_lt (Nat.lt_of_lt_of_le (by have := World.block_lt_of_cell? _ _ hw6156_1; first | rwa [add_block] at this | exact this) GW6158.out)) | (dsimp only; exact Nat.ne_of_lt (Nat.lt_of_lt_of_le (by have := World.block_lt_of_cell? _ _ hw6156_1; first | rwa [add_block] at this | exact this) GW6158.out))) _).trans (((cell_far (p := ⟨gb6158, _, none⟩) (by first | exact Nat.ne_of_lt (Nat.lt_of_lt_of_le (by have := World.block_lt_of_cell? _ _ hw6156_1; first | rwa [add_block] at this | exact this) GW6158.out) | (rw [add_block]; exact Nat.ne_of_lt (Nat.lt_of_lt_of_le (by have := World.block_lt_of_cell? _ _ hw6156_1; first | rwa [add_block] at this | exact this) GW6158.out)) | (show (Addr.add _ _).block ≠ _; rw [add_block]; exact Nat.ne_of_lt (Nat.lt_of_lt_of_le (by have := World.block_lt_of_cell? _ _ hw6156_1; first | rwa [add_block] at this | exact this) GW6158.out)) | (dsimp only; exact Nat.ne_of_lt (Nat.lt_of_lt_of_le (by have := World.block_lt_of_cell? _ _ hw6156_1; first | rwa [add_block] at this | exact this) GW6158.out))) _).trans (((cell_far (p := ⟨gb6158, _, none⟩) (by first | exact Nat.ne_of_lt (Nat.lt_of_lt_of_le (by have := World.block_lt_of_cell? _ _ hw6156_1; first | rwa [add_block] at this | exact this) GW6158.out) | (rw [add_block]; exact Nat.ne_of_lt (Nat.lt_of_lt_of_le (by have := World.block_lt_of_cell? _ _ hw6156_1; first | rwa [add_block] at this | exact this) GW6158.out)) | (show (Addr.add _ _).block ≠ _; rw [add_block]; exact Nat.ne_of_lt (Nat.lt_of_lt_of_le (by have := World.block_lt_of_cell? _ _ hw6156_1; first | rwa [add_block] at this | exact this) GW6158.out)) | (dsimp only; exact Nat.ne_of_lt (Nat.lt_of_lt_of_le (by have := World.block_lt_of_cell? _ _ hw6156_1; first | rwa [add_block] at this | exact this) GW6158.out))) _).trans (((cell_far (p := ⟨gb6158, _, none⟩) (by first | exact Nat.ne_of_lt (Nat.lt_of_lt_of_le (by have := World.block_lt_of_cell? _ _ hw6156_1; first | rwa [add_block] at this | exact this) GW6158.out) | (rw [add_block]; exact Nat.ne_of_lt (Nat.lt_of_lt_of_le (by have := World.block_lt_of_cell? _ _ hw6156_1; first | rwa [add_block] at this | exact this) GW6158.out)) | (show (Addr.add _ _).block ≠ _; rw [add_block]; exact Nat.ne_of_lt (Nat.lt_of_lt_of_le (by have := World.block_lt_of_cell? _ _ hw6156_1; first | rwa [add_block] at this | exact this) GW6158.out)) | (dsimp only; exact Nat.ne_of_lt (Nat.lt_of_lt_of_le (by have := World.block_lt_of_cell? _ _ hw6156_1; first | rwa [add_block] at this | exact this) GW6158.out))) _).trans (((cell_far (p := ⟨gb6158, _, none⟩) (by first | exact Nat.ne_of_lt (Nat.lt_of_lt_of_le (by have := World.block_lt_of_cell? _ _ hw6156_1; first | rwa [add_block] at this | exact this) GW6158.out) | (rw [add_block]; exact Nat.ne_of_lt (Nat.lt_of_lt_of_le (by have := World.block_lt_of_cell? _ _ hw6156_1; first | rwa [add_block] at this | exact this) GW6158.out)) | (show (Addr.add _ _).block ≠ _; rw [add_block]; exact Nat.ne_of_lt (Nat.lt_of_lt_of_le (by have := World.block_lt_of_cell? _ _ hw6156_1; first | rwa [add_block] at this | exact this) GW6158.out)) | (dsimp only; exact Nat.ne_of_lt (Nat.lt_of_lt_of_le (by have := World.block_lt_of_cell? _ _ hw6156_1; first | rwa [add_block] at this | exact this) GW6158.out))) _).trans (hHeld.2.1)))))))))), ((cell_far (p := ⟨gb6158, _, none⟩) (by first | exact Nat.ne_of_lt (Nat.lt_of_lt_of_le (by have := World.block_lt_of_cell? _ _ hw6156_2; first | rwa [add_block] at this | exact this) GW6158.out) | (rw [add_block]; exact Nat.ne_of_lt (Nat.lt_of_lt_of_le (by have := World.block_lt_of_cell? _ _ hw6156_2; first | rwa [add_block] at this | exact this) GW6158.out)) | (show (Addr.add _ _).block ≠ _; rw [add_block]; exact Nat.ne_of_lt (Nat.lt_of_lt_of_le (by have := World.block_lt_of_cell? _ _ hw6156_2; first | rwa [add_block] at this | exact this) GW6158.out)) | (dsimp only; exact Nat.ne_of_lt (Nat.lt_of_lt_of_le (by have := World.block_lt_of_cell? _ _ hw6156_2; first | rwa [add_block] at this | exact this) GW6158.out))) _).trans (((cell_far (p := ⟨gb6158, _, none⟩) (by first | exact Nat.ne_of_lt (Nat.lt_of_lt_of_le (by have := World.block_lt_of_cell? _ _ hw6156_2; first | rwa [add_block] at this | exact this) GW6158.out) | (rw [add_block]; exact Nat.ne_of_lt (Nat.lt_of_lt_of_le (by have := World.block_lt_of_cell? _ _ hw6156_2; first | rwa [add_block] at this | exact this) GW6158.out)) | (show (Addr.add _ _).block ≠ _; rw [add_block]; exact Nat.ne_of_lt (Nat.lt_of_lt_of_le (by have := World.block_lt_of_cell? _ _ hw6156_2; first | rwa [add_block] at this | exact this) GW6158.out)) | (dsimp only; exact Nat.ne_of_lt (Nat.lt_of_lt_of_le (by have := World.block_lt_of_cell? _ _ hw6156_2; first | rwa [add_block] at this | exact this) GW6158.out))) _).trans (((cell_far (p := ⟨gb6158, _, none⟩) (by first | exact Nat.ne_of_lt (Nat.lt_of_lt_of_le (by have := World.block_lt_of_cell? _ _ hw6156_2; first | rwa [add_block] at this | exact this) GW6158.out) | (rw [add_block]; exact Nat.ne_of_lt (Nat.lt_of_lt_of_le (by have := World.block_lt_of_cell? _ _ hw6156_2; first | rwa [add_block] at this | exact this) GW6158.out)) | (show (Addr.add _ _).block ≠ _; rw [add_block]; exact Nat.ne_of_lt (Nat.lt_of_lt_of_le (by have := World.block_lt_of_cell? _ _ hw6156_2; first | rwa [add_block] at this | exact this) GW6158.out)) | (dsimp only; exact Nat.ne_of_lt (Nat.lt_of_lt_of_le (by have := World.block_lt_of_cell? _ _ hw6156_2; first | rwa [add_block] at this | exact this) GW6158.out))) _).trans (((cell_far (p := ⟨gb6158, _, none⟩) (by first | exact Nat.ne_of_lt (Nat.lt_of_lt_of_le (by have := World.block_lt_of_cell? _ _ hw6156_2; first | rwa [add_block] at this | exact this) GW6158.out) | (rw [add_block]; exact Nat.ne_of_lt (Nat.lt_of_lt_of_le (by have := World.block_lt_of_cell? _ _ hw6156_2; first | rwa [add_block] at this | exact this) GW6158.out)) | (show (Addr.add _ _).block ≠ _; rw [add_block]; exact Nat.ne_of_lt (Nat.lt_of_lt_of_le (by have := World.block_lt_of_cell? _ _ hw6156_2; first | rwa [add_block] at this | exact this) GW6158.out)) | (dsimp only; exact Nat.ne_of_lt (Nat.lt_of_lt_of_le (by have := World.block_lt_of_cell? _ _ hw6156_2; first | rwa [add_block] at this | exact this) GW6158.out))) _).trans (((cell_far (p := ⟨gb6158, _, none⟩) (by first | exact Nat.ne_of_lt (Nat.lt_of_lt_of_le (by have := World.block_lt_of_cell? _ _ hw6156_2; first | rwa [add_block] at this | exact this) GW6158.out) | (rw [add_block]; exact Nat.ne_of_lt (Nat.lt_of_lt_of_le (by have := World.block_lt_of_cell? _ _ hw6156_2; first | rwa [add_block] at this | exact this) GW6158.out)) | (show (Addr.add _ _).block ≠ _; rw [add_block]; exact Nat.ne_of_lt (Nat.lt_of_lt_of_le (by have := World.block_lt_of_cell? _ _ hw6156_2; first | rwa [add_block] at this | exact this) GW6158.out)) | (dsimp only; exact Nat.ne_of_lt (Nat.lt_of_lt_of_le (by have := World.block_lt_of_cell? _ _ hw6156_2; first | rwa [add_block] at this | exact this) GW6158.out))) _).trans (hHeld.2.2.1)))))))))), ((cell_far (p := ⟨gb6158, _, none⟩) (by first | exact Nat.ne_of_lt (Nat.lt_of_lt_of_le (by have := World.block_lt_of_cell? _ _ hw6156_3; first | rwa [add_block] at this | exact this) GW6158.out) | (rw [add_block]; exact Nat.ne_of_lt (Nat.lt_of_lt_of_le (by have := World.block_lt_of_cell? _ _ hw6156_3; first | rwa [add_block] at this | exact this) GW6158.out)) | (show (Addr.add _ _).block ≠ _; rw [add_block]; exact Nat.ne_of_lt (Nat.lt_of_lt_of_le (by have := World.block_lt_of_cell? _ _ hw6156_3; first | rwa [add_block] at this | exact this) GW6158.out)) | (dsimp only; exact Nat.ne_of_lt (Nat.lt_of_lt_of_le (by have := World.block_lt_of_cell? _ _ hw6156_3; first | rwa [add_block] at this | exact this) GW6158.out))) _).trans (((cell_far (p := ⟨gb6158, _, none⟩) (by first | exact Nat.ne_of_lt (Nat.lt_of_lt_of_le (by have := World.block_lt_of_cell? _ _ hw6156_3; first | rwa [add_block] at this | exact this) GW6158.out) | (rw [add_block]; exact Nat.ne_of_lt (Nat.lt_of_lt_of_le (by have := World.block_lt_of_cell? _ _ hw6156_3; first | rwa [add_block] at this | exact this) GW6158.out)) | (show (Addr.add _ _).block ≠ _; rw [add_block]; exact Nat.ne_of_lt (Nat.lt_of_lt_of_le (by have := World.block_lt_of_cell? _ _ hw6156_3; first | rwa [add_block] at this | exact this) GW6158.out)) | (dsimp only; exact Nat.ne_of_lt (Nat.lt_of_lt_of_le (by have := World.block_lt_of_cell? _ _ hw6156_3; first | rwa [add_block] at this | exact this) GW6158.out))) _).trans (((cell_far (p := ⟨gb6158, _, none⟩) (by first | exact Nat.ne_of_lt (Nat.lt_of_lt_of_le (by have := World.block_lt_of_cell? _ _ hw6156_3; first | rwa [add_block] at this | exact this) GW6158.out) | (rw [add_block]; exact Nat.ne_of_lt (Nat.lt_of_lt_of_le (by have := World.block_lt_of_cell? _ _ hw6156_3; first | rwa [add_block] at this | exact this) GW6158.out)) | (show (Addr.add _ _).block ≠ _; rw [add_block]; exact Nat.ne_of_lt (Nat.lt_of_lt_of_le (by have := World.block_lt_of_cell? _ _ hw6156_3; first | rwa [add_block] at this | exact this) GW6158.out)) | (dsimp only; exact Nat.ne_of_lt (Nat.lt_of_lt_of_le (by have := World.block_lt_of_cell? _ _ hw6156_3; first | rwa [add_block] at this | exact this) GW6158.out))) _).trans (((cell_far (p := ⟨gb6158, _, none⟩) (by first | exact Nat.ne_of_lt (Nat.lt_of_lt_of_le (by have := World.block_lt_of_cell? _ _ hw6156_3; first | rwa [add_block] at this | exact this) GW6158.out) | (rw [add_block]; exact Nat.ne_of_lt (Nat.lt_of_lt_of_le (by have := World.block_lt_of_cell? _ _ hw6156_3; first | rwa [add_block] at this | exact this) GW6158.out)) | (show (Addr.add _ _).block ≠ _; rw [add_block]; exact Nat.ne_of_lt (Nat.lt_of_lt_of_le (by have := World.block_lt_of_cell? _ _ hw6156_3; first | rwa [add_block] at this | exact this) GW6158.out)) | (dsimp only; exact Nat.ne_of_lt (Nat.lt_of_lt_of_le (by have := World.block_lt_of_cell? _ _ hw6156_3; first | rwa [add_block] at this | exact this) GW6158.out))) _).trans (((cell_far (p := ⟨gb6158, _, none⟩) (by first | exact Nat.ne_of_lt (Nat.lt_of_lt_of_le (by have := World.block_lt_of_cell? _ _ hw6156_3; first | rwa [add_block] at this | exact this) GW6158.out) | (rw [add_block]; exact Nat.ne_of_lt (Nat.lt_of_lt_of_le (by have := World.block_lt_of_cell? _ _ hw6156_3; first | rwa [add_block] at this | exact this) GW6158.out)) | (show (Addr.add _ _).block ≠ _; rw [add_block]; exact Nat.ne_of_lt (Nat.lt_of_lt_of_le (by have := World.block_lt_of_cell? _ _ hw6156_3; first | rwa [add_block] at this | exact this) GW6158.out)) | (dsimp only; exact Nat.ne_of_lt (Nat.lt_of_lt_of_le (by have := World.block_lt_of_cell? _ _ hw6156_3; first | rwa [add_block] at this | exact this) GW6158.out))) _).trans (hHeld.2.2.2.1)))))))))), ((cell_far (p := ⟨gb6158, _, none⟩) (by first | exact Nat.ne_of_lt (Nat.lt_of_lt_of_le (by have := World.block_lt_of_cell? _ _ hw6156_4; first | rwa [add_block] at this | exact this) GW6158.out) | (rw [add_block]; exact Nat.ne_of_lt (Nat.lt_of_lt_of_le (by have := World.block_lt_of_cell? _ _ hw6156_4; first | rwa [add_block] at this | exact this) GW6158.out)) | (show (Addr.add _ _).block ≠ _; rw [add_block]; exact Nat.ne_of_lt (Nat.lt_of_lt_of_le (by have := World.block_lt_of_cell? _ _ hw6156_4; first | rwa [add_block] at this | exact this) GW6158.out)) | (dsimp only; exact Nat.ne_of_lt (Nat.lt_of_lt_of_le (by have := World.block_lt_of_cell? _ _ hw6156_4; first | rwa [add_block] at this | exact this) GW6158.out))) _).trans (((cell_far (p := ⟨gb6158, _, none⟩) (by first | exact Nat.ne_of_lt (Nat.lt_of_lt_of_le (by have := World.block_lt_of_cell? _ _ hw6156_4; first | rwa [add_block] at this | exact this) GW6158.out) | (rw [add_block]; exact Nat.ne_of_lt (Nat.lt_of_lt_of_le (by have := World.block_lt_of_cell? _ _ hw6156_4; first | rwa [add_block] at this | exact this) GW6158.out)) | (show (Addr.add _ _).block ≠ _; rw [add_block]; exact Nat.ne_of_lt (Nat.lt_of_lt_of_le (by have := World.block_lt_of_cell? _ _ hw6156_4; first | rwa [add_block] at this | exact this) GW6158.out)) | (dsimp only; exact Nat.ne_of_lt (Nat.lt_of_lt_of_le (by have := World.block_lt_of_cell? _ _ hw6156_4; first | rwa [add_block] at this | exact this) GW6158.out))) _).trans (((cell_far (p := ⟨gb6158, _, none⟩) (by first | exact Nat.ne_of_lt (Nat.lt_of_lt_of_le (by have := World.block_lt_of_cell? _ _ hw6156_4; first | rwa [add_block] at this | exact this) GW6158.out) | (rw [add_block]; exact Nat.ne_of_lt (Nat.lt_of_lt_of_le (by have := World.block_lt_of_cell? _ _ hw6156_4; first | rwa [add_block] at this | exact this) GW6158.out)) | (show (Addr.add _ _).block ≠ _; rw [add_block]; exact Nat.ne_of_lt (Nat.lt_of_lt_of_le (by have := World.block_lt_of_cell? _ _ hw6156_4; first | rwa [add_block] at this | exact this) GW6158.out)) | (dsimp only; exact Nat.ne_of_lt (Nat.lt_of_lt_of_le (by have := World.block_lt_of_cell? _ _ hw6156_4; first | rwa [add_block] at this | exact this) GW6158.out))) _).trans (((cell_far (p := ⟨gb6158, _, none⟩) (by first | exact Nat.ne_of_lt (Nat.lt_of_lt_of_le (by have := World.block_lt_of_cell? _ _ hw6156_4; first | rwa [add_block] at this | exact this) GW6158.out) | (rw [add_block]; exact Nat.ne_of_lt (Nat.lt_of_lt_of_le (by have := World.block_lt_of_cell? _ _ hw6156_4; first | rwa [add_block] at this | exact this) GW6158.out)) | (show (Addr.add _ _).block ≠ _; rw [add_block]; exact Nat.ne_of_lt (Nat.lt_of_lt_of_le (by have := World.block_lt_of_cell? _ _ hw6156_4; first | rwa [add_block] at this | exact this) GW6158.out)) | (dsimp only; exact Nat.ne_of_lt (Nat.lt_of_lt_of_le (by have := World.block_lt_of_cell? _ _ hw6156_4; first | rwa [add_block] at this | exact this) GW6158.out))) _).trans (((cell_far (p := ⟨gb6158, _, none⟩) (by first | exact Nat.ne_of_lt (Nat.lt_of_lt_of_le (by have := World.block_lt_of_cell? _ _ hw6156_4; first | rwa [add_block] at this | exact this) GW6158.out) | (rw [add_block]; exact Nat.ne_of_lt (Nat.lt_of_lt_of_le (by have := World.block_lt_of_cell? _ _ hw6156_4; first | rwa [add_block] at this | exact this) GW6158.out)) | (show (Addr.add _ _).block ≠ _; rw [add_block]; exact Nat.ne_of_lt (Nat.lt_of_lt_of_le (by have := World.block_lt_of_cell? _ _ hw6156_4; first | rwa [add_block] at this | exact this) GW6158.out)) | (dsimp only; exact Nat.ne_of_lt (Nat.lt_of_lt_of_le (by have := World.block_lt_of_cell? _ _ hw6156_4; first | rwa [add_block] at this | exact this) GW6158.out))) _).trans (hHeld.2.2.2.2.1)))))))))), ((cell_far (p := ⟨gb6158, _, none⟩) (by first | exact Nat.ne_of_lt (Nat.lt_of_lt_of_le (by have := World.block_lt_of_cell? _ _ hw6157_0; first | rwa [add_block] at this | exact this) GW6158.out) | (rw [add_block]; exact Nat.ne_of_lt (Nat.lt_of_lt_of_le (by have := World.block_lt_of_cell? _ _ hw6157_0; first | rwa [add_block] at this | exact this) GW6158.out)) | (show (Addr.add _ _).block ≠ _; rw [add_block]; exact Nat.ne_of_lt (Nat.lt_of_lt_of_le (by have := World.block_lt_of_cell? _ _ hw6157_0; first | rwa [add_block] at this | exact this) GW6158.out)) | (dsimp only; exact Nat.ne_of_lt (Nat.lt_of_lt_of_le (by have := World.block_lt_of_cell? _ _ hw6157_0; first | rwa [add_block] at this | exact this) GW6158.out))) _).trans (((cell_far (p := ⟨gb6158, _, none⟩) (by first | exact Nat.ne_of_lt (Nat.lt_of_lt_of_le (by have := World.block_lt_of_cell? _ _ hw6157_0; first | rwa [add_block] at this | exact this) GW6158.out) | (rw [add_block]; exact Nat.ne_of_lt (Nat.lt_of_lt_of_le (by have := World.block_lt_of_cell? _ _ hw6157_0; first | rwa [add_block] at this | exact this) GW6158.out)) | (show (Addr.add _ _).block ≠ _; rw [add_block]; exact Nat.ne_of_lt (Nat.lt_of_lt_of_le (by have := World.block_lt_of_cell? _ _ hw6157_0; first | rwa [add_block] at this | exact this) GW6158.out)) | (dsimp only; exact Nat.ne_of_lt (Nat.lt_of_lt_of_le (by have := World.block_lt_of_cell? _ _ hw6157_0; first | rwa [add_block] at this | exact this) GW6158.out))) _).trans (((cell_far (p := ⟨gb6158, _, none⟩) (by first | exact Nat.ne_of_lt (Nat.lt_of_lt_of_le (by have := World.block_lt_of_cell? _ _ hw6157_0; first | rwa [add_block] at this | exact this) GW6158.out) | (rw [add_block]; exact Nat.ne_of_lt (Nat.lt_of_lt_of_le (by have := World.block_lt_of_cell? _ _ hw6157_0; first | rwa [add_block] at this | exact this) GW6158.out)) | (show (Addr.add _ _).block ≠ _; rw [add_block]; exact Nat.ne_of_lt (Nat.lt_of_lt_of_le (by have := World.block_lt_of_cell? _ _ hw6157_0; first | rwa [add_block] at this | exact this) GW6158.out)) | (dsimp only; exact Nat.ne_of_lt (Nat.lt_of_lt_of_le (by have := World.block_lt_of_cell? _ _ hw6157_0; first | rwa [add_block] at this | exact this) GW6158.out))) _).trans (((cell_far (p := ⟨gb6158, _, none⟩) (by first | exact Nat.ne_of_lt (Nat.lt_of_lt_of_le (by have := World.block_lt_of_cell? _ _ hw6157_0; first | rwa [add_block] at this | exact this) GW6158.out) | (rw [add_block]; exact Nat.ne_of_lt (Nat.lt_of_lt_of_le (by have := World.block_lt_of_cell? _ _ hw6157_0; first | rwa [add_block] at this | exact this) GW6158.out)) | (show (Addr.add _ _).block ≠ _; rw [add_block]; exact Nat.ne_of_lt (Nat.lt_of_lt_of_le (by have := World.block_lt_of_cell? _ _ hw6157_0; first | rwa [add_block] at this | exact this) GW6158.out)) | (dsimp only; exact Nat.ne_of_lt (Nat.lt_of_lt_of_le (by have := World.block_lt_of_cell? _ _ hw6157_0; first | rwa [add_block] at this | exact this) GW6158.out))) _).trans (((cell_far (p := ⟨gb6158, _, none⟩) (by first | exact Nat.ne_of_lt (Nat.lt_of_lt_of_le (by have := World.block_lt_of_cell? _ _ hw6157_0; first | rwa [add_block] at this | exact this) GW6158.out) | (rw [add_block]; exact Nat.ne_of_lt (Nat.lt_of_lt_of_le (by have := World.block_lt_of_cell? _ _ hw6157_0; first | rwa [add_block] at this | exact this) GW6158.out)) | (show (Addr.add _ _).block ≠ _; rw [add_block]; exact Nat.ne_of_lt (Nat.lt_of_lt_of_le (by have := World.block_lt_of_cell? _ _ hw6157_0; first | rwa [add_block] at this | exact this) GW6158.out)) | (dsimp only; exact Nat.ne_of_lt (Nat.lt_of_lt_of_le (by have := World.block_lt_of_cell? _ _ hw6157_0; first | rwa [add_block] at this | exact this) GW6158.out))) _).trans (hHeld.2.2.2.2.2.1)))))))))), ((cell_far (p := ⟨gb6158, _, none⟩) (by first | exact Nat.ne_of_lt (Nat.lt_of_lt_of_le (by have := World.block_lt_of_cell? _ _ hw6157_1; first | rwa [add_block] at this | exact this) GW6158.out) | (rw [add_block]; exact Nat.ne_of_lt (Nat.lt_of_lt_of_le (by have := World.block_lt_of_cell? _ _ hw6157_1; first | rwa [add_block] at this | exact this) GW6158.out)) | (show (Addr.add _ _).block ≠ _; rw [add_block]; exact Nat.ne_of_lt (Nat.lt_of_lt_of_le (by have := World.block_lt_of_cell? _ _ hw6157_1; first | rwa [add_block] at this | exact this) GW6158.out)) | (dsimp only; exact Nat.ne_of_lt (Nat.lt_of_lt_of_le (by have := World.block_lt_of_cell? _ _ hw6157_1; first | rwa [add_block] at this | exact this) GW6158.out))) _).trans (((cell_far (p := ⟨gb6158, _, none⟩) (by first | exact Nat.ne_of_lt (Nat.lt_of_lt_of_le (by have := World.block_lt_of_cell? _ _ hw6157_1; first | rwa [add_block] at this | exact this) GW6158.out) | (rw [add_block]; exact Nat.ne_of_lt (Nat.lt_of_lt_of_le (by have := World.block_lt_of_cell? _ _ hw6157_1; first | rwa [add_block] at this | exact this) GW6158.out)) | (show (Addr.add _ _).block ≠ _; rw [add_block]; exact Nat.ne_of_lt (Nat.lt_of_lt_of_le (by have := World.block_lt_of_cell? _ _ hw6157_1; first | rwa [add_block] at this | exact this) GW6158.out)) | (dsimp only; exact Nat.ne_of_lt (Nat.lt_of_lt_of_le (by have := World.block_lt_of_cell? _ _ hw6157_1; first | rwa [add_block] at this | exact this) GW6158.out))) _).trans (((cell_far (p := ⟨gb6158, _, none⟩) (by first | exact Nat.ne_of_lt (Nat.lt_of_lt_of_le (by have := World.block_lt_of_cell? _ _ hw6157_1; first | rwa [add_block] at this | exact this) GW6158.out) | (rw [add_block]; exact Nat.ne_of_lt (Nat.lt_of_lt_of_le (by have := World.block_lt_of_cell? _ _ hw6157_1; first | rwa [add_block] at this | exact this) GW6158.out)) | (show (Addr.add _ _).block ≠ _; rw [add_block]; exact Nat.ne_of_lt (Nat.lt_of_lt_of_le (by have := World.block_lt_of_cell? _ _ hw6157_1; first | rwa [add_block] at this | exact this) GW6158.out)) | (dsimp only; exact Nat.ne_of_lt (Nat.lt_of_lt_of_le (by have := World.block_lt_of_cell? _ _ hw6157_1; first | rwa [add_block] at this | exact this) GW6158.out))) _).trans (((cell_far (p := ⟨gb6158, _, none⟩) (by first | exact Nat.ne_of_lt (Nat.lt_of_lt_of_le (by have := World.block_lt_of_cell? _ _ hw6157_1; first | rwa [add_block] at this | exact this) GW6158.out) | (rw [add_block]; exact Nat.ne_of_lt (Nat.lt_of_lt_of_le (by have := World.block_lt_of_cell? _ _ hw6157_1; first | rwa [add_block] at this | exact this) GW6158.out)) | (show (Addr.add _ _).block ≠ _; rw [add_block]; exact Nat.ne_of_lt (Nat.lt_of_lt_of_le (by have := World.block_lt_of_cell? _ _ hw6157_1; first | rwa [add_block] at this | exact this) GW6158.out)) | (dsimp only; exact Nat.ne_of_lt (Nat.lt_of_lt_of_le (by have := World.block_lt_of_cell? _ _ hw6157_1; first | rwa [add_block] at this | exact this) GW6158.out))) _).trans (((cell_far (p := ⟨gb6158, _, none⟩) (by first | exact Nat.ne_of_lt (Nat.lt_of_lt_of_le (by have := World.block_lt_of_cell? _ _ hw6157_1; first | rwa [add_block] at this | exact this) GW6158.out) | (rw [add_block]; exact Nat.ne_of_lt (Nat.lt_of_lt_of_le (by have := World.block_lt_of_cell? _ _ hw6157_1; first | rwa [add_block] at this | exact this) GW6158.out)) | (show (Addr.add _ _).block ≠ _; rw [add_block]; exact Nat.ne_of_lt (Nat.lt_of_lt_of_le (by have := World.block_lt_of_cell? _ _ hw6157_1; first | rwa [add_block] at this | exact this) GW6158.out)) | (dsimp only; exact Nat.ne_of_lt (Nat.lt_of_lt_of_le (by have := World.block_lt_of_cell? _ _ hw6157_1; first | rwa [add_block] at this | exact this) GW6158.out))) _).trans (hHeld.2.2.2.2.2.2.1)))))))))), ((cell_far (p := ⟨gb6158, _, none⟩) (by first | exact Nat.ne_of_lt (Nat.lt_of_lt_of_le (by have := World.block_lt_of_cell? _ _ hw6157_2; first | rwa [add_block] at this | exact this) GW6158.out) | (rw [add_block]; exact Nat.ne_of_lt (Nat.lt_of_lt_of_le (by have := World.block_lt_of_cell? _ _ hw6157_2; first | rwa [add_block] at this | exact this) GW6158.out)) | (show (Addr.add _ _).block ≠ _; rw [add_block]; exact Nat.ne_of_lt (Nat.lt_of_lt_of_le (by have := World.block_lt_of_cell? _ _ hw6157_2; first | rwa [add_block] at this | exact this) GW6158.out)) | (dsimp only; exact Nat.ne_of_lt (Nat.lt_of_lt_of_le (by have := World.block_lt_of_cell? _ _ hw6157_2; first | rwa [add_block] at this | exact this) GW6158.out))) _).trans (((cell_far (p := ⟨gb6158, _, none⟩) (by first | exact Nat.ne_of_lt (Nat.lt_of_lt_of_le (by have := World.block_lt_of_cell? _ _ hw6157_2; first | rwa [add_block] at this | exact this) GW6158.out) | (rw [add_block]; exact Nat.ne_of_lt (Nat.lt_of_lt_of_le (by have := World.block_lt_of_cell? _ _ hw6157_2; first | rwa [add_block] at this | exact this) GW6158.out)) | (show (Addr.add _ _).block ≠ _; rw [add_block]; exact Nat.ne_of_lt (Nat.lt_of_lt_of_le (by have := World.block_lt_of_cell? _ _ hw6157_2; first | rwa [add_block] at this | exact this) GW6158.out)) | (dsimp only; exact Nat.ne_of_lt (Nat.lt_of_lt_of_le (by have := World.block_lt_of_cell? _ _ hw6157_2; first | rwa [add_block] at this | exact this) GW6158.out))) _).trans (((cell_far (p := ⟨gb6158, _, none⟩) (by first | exact Nat.ne_of_lt (Nat.lt_of_lt_of_le (by have := World.block_lt_of_cell? _ _ hw6157_2; first | rwa [add_block] at this | exact this) GW6158.out) | (rw [add_block]; exact Nat.ne_of_lt (Nat.lt_of_lt_of_le (by have := World.block_lt_of_cell? _ _ hw6157_2; first | rwa [add_block] at this | exact this) GW6158.out)) | (show (Addr.add _ _).block ≠ _; rw [add_block]; exact Nat.ne_of_lt (Nat.lt_of_lt_of_le (by have := World.block_lt_of_cell? _ _ hw6157_2; first | rwa [add_block] at this | exact this) GW6158.out)) | (dsimp only; exact Nat.ne_of_lt (Nat.lt_of_lt_of_le (by have := World.block_lt_of_cell? _ _ hw6157_2; first | rwa [add_block] at this | exact this) GW6158.out))) _).trans (((cell_far (p := ⟨gb6158, _, none⟩) (by first | exact Nat.ne_of_lt (Nat.lt_of_lt_of_le (by have := World.block_lt_of_cell? _ _ hw6157_2; first | rwa [add_block] at this | exact this) GW6158.out) | (rw [add_block]; exact Nat.ne_of_lt (Nat.lt_of_lt_of_le (by have := World.block_lt_of_cell? _ _ hw6157_2; first | rwa [add_block] at this | exact this) GW6158.out)) | (show (Addr.add _ _).block ≠ _; rw [add_block]; exact Nat.ne_of_lt (Nat.lt_of_lt_of_le (by have := World.block_lt_of_cell? _ _ hw6157_2; first | rwa [add_block] at this | exact this) GW6158.out)) | (dsimp only; exact Nat.ne_of_lt (Nat.lt_of_lt_of_le (by have := World.block_lt_of_cell? _ _ hw6157_2; first | rwa [add_block] at this | exact this) GW6158.out))) _).trans (((cell_far (p := ⟨gb6158, _, none⟩) (by first | exact Nat.ne_of_lt (Nat.lt_of_lt_of_le (by have := World.block_lt_of_cell? _ _ hw6157_2; first | rwa [add_block] at this | exact this) GW6158.out) | (rw [add_block]; exact Nat.ne_of_lt (Nat.lt_of_lt_of_le (by have := World.block_lt_of_cell? _ _ hw6157_2; first | rwa [add_block] at this | exact this) GW6158.out)) | (show (Addr.add _ _).block ≠ _; rw [add_block]; exact Nat.ne_of_lt (Nat.lt_of_lt_of_le (by have := World.block_lt_of_cell? _ _ hw6157_2; first | rwa [add_block] at this | exact this) GW6158.out)) | (dsimp only; exact Nat.ne_of_lt (Nat.lt_of_lt_of_le (by have := World.block_lt_of_cell? _ _ hw6157_2; first | rwa [add_block] at this | exact this) GW6158.out))) _).trans (hHeld.2.2.2.2.2.2.2.1)))))))))), ((cell_far (p := ⟨gb6158, _, none⟩) (by first | exact Nat.ne_of_lt (Nat.lt_of_lt_of_le (by have := World.block_lt_of_cell? _ _ hw6157_3; first | rwa [add_block] at this | exact this) GW6158.out) | (rw [add_block]; exact Nat.ne_of_lt (Nat.lt_of_lt_of_le (by have := World.block_lt_of_cell? _ _ hw6157_3; first | rwa [add_block] at this | exact this) GW6158.out)) | (show (Addr.add _ _).block ≠ _; rw [add_block]; exact Nat.ne_of_lt (Nat.lt_of_lt_of_le (by have := World.block_lt_of_cell? _ _ hw6157_3; first | rwa [add_block] at this | exact this) GW6158.out)) | (dsimp only; exact Nat.ne_of_lt (Nat.lt_of_lt_of_le (by have := World.block_lt_of_cell? _ _ hw6157_3; first | rwa [add_block] at this | exact this) GW6158.out))) _).trans (((cell_far (p := ⟨gb6158, _, none⟩) (by first | exact Nat.ne_of_lt (Nat.lt_of_lt_of_le (by have := World.block_lt_of_cell? _ _ hw6157_3; first | rwa [add_block] at this | exact this) GW6158.out) | (rw [add_block]; exact Nat.ne_of_lt (Nat.lt_of_lt_of_le (by have := World.block_lt_of_cell? _ _ hw6157_3; first | rwa [add_block] at this | exact this) GW6158.out)) | (show (Addr.add _ _).block ≠ _; rw [add_block]; exact Nat.ne_of_lt (Nat.lt_of_lt_of_le (by have := World.block_lt_of_cell? _ _ hw6157_3; first | rwa [add_block] at this | exact this) GW6158.out)) | (dsimp only; exact Nat.ne_of_lt (Nat.lt_of_lt_of_le (by have := World.block_lt_of_cell? _ _ hw6157_3; first | rwa [add_block] at this | exact this) GW6158.out))) _).trans (((cell_far (p := ⟨gb6158, _, none⟩) (by first | exact Nat.ne_of_lt (Nat.lt_of_lt_of_le (by have := World.block_lt_of_cell? _ _ hw6157_3; first | rwa [add_block] at this | exact this) GW6158.out) | (rw [add_block]; exact Nat.ne_of_lt (Nat.lt_of_lt_of_le (by have := World.block_lt_of_cell? _ _ hw6157_3; first | rwa [add_block] at this | exact this) GW6158.out)) | (show (Addr.add _ _).block ≠ _; rw [add_block]; exact Nat.ne_of_lt (Nat.lt_of_lt_of_le (by have := World.block_lt_of_cell? _ _ hw6157_3; first | rwa [add_block] at this | exact this) GW6158.out)) | (dsimp only; exact Nat.ne_of_lt (Nat.lt_of_lt_of_le (by have := World.block_lt_of_cell? _ _ hw6157_3; first | rwa [add_block] at this | exact this) GW6158.out))) _).trans (((cell_far (p := ⟨gb6158, _, none⟩) (by first | exact Nat.ne_of_lt (Nat.lt_of_lt_of_le (by have := World.block_lt_of_cell? _ _ hw6157_3; first | rwa [add_block] at this | exact this) GW6158.out) | (rw [add_block]; exact Nat.ne_of_lt (Nat.lt_of_lt_of_le (by have := World.block_lt_of_cell? _ _ hw6157_3; first | rwa [add_block] at this | exact this) GW6158.out)) | (show (Addr.add _ _).block ≠ _; rw [add_block]; exact Nat.ne_of_lt (Nat.lt_of_lt_of_le (by have := World.block_lt_of_cell? _ _ hw6157_3; first | rwa [add_block] at this | exact this) GW6158.out)) | (dsimp only; exact Nat.ne_of_lt (Nat.lt_of_lt_of_le (by have := World.block_lt_of_cell? _ _ hw6157_3; first | rwa [add_block] at this | exact this) GW6158.out))) _).trans (((cell_far (p := ⟨gb6158, _, none⟩) (by first | exact Nat.ne_of_lt (Nat.lt_of_lt_of_le (by have := World.block_lt_of_cell? _ _ hw6157_3; first | rwa [add_block] at this | exact this) GW6158.out) | (rw [add_block]; exact Nat.ne_of_lt (Nat.lt_of_lt_of_le (by have := World.block_lt_of_cell? _ _ hw6157_3; first | rwa [add_block] at this | exact this) GW6158.out)) | (show (Addr.add _ _).block ≠ _; rw [add_block]; exact Nat.ne_of_lt (Nat.lt_of_lt_of_le (by have := World.block_lt_of_cell? _ _ hw6157_3; first | rwa [add_block] at this | exact this) GW6158.out)) | (dsimp only; exact Nat.ne_of_lt (Nat.lt_of_lt_of_le (by have := World.block_lt_of_cell? _ _ hw6157_3; first | rwa [add_block] at this | exact this) GW6158.out))) _).trans (hHeld.2.2.2.2.2.2.2.2.1)))))))))), ((cell_far (p := ⟨gb6158, _, none⟩) (by first | exact Nat.ne_of_lt (Nat.lt_of_lt_of_le (by have := World.block_lt_of_cell? _ _ hw6157_4; first | rwa [add_block] at this | exact this) GW6158.out) | (rw [add_block]; exact Nat.ne_of_lt (Nat.lt_of_lt_of_le (by have := World.block_lt_of_cell? _ _ hw6157_4; first | rwa [add_block] at this | exact this) GW6158.out)) | (show (Addr.add _ _).block ≠ _; rw [add_block]; exact Nat.ne_of_lt (Nat.lt_of_lt_of_le (by have := World.block_lt_of_cell? _ _ hw6157_4; first | rwa [add_block] at this | exact this) GW6158.out)) | (dsimp only; exact Nat.ne_of_lt (Nat.lt_of_lt_of_le (by have := World.block_lt_of_cell? _ _ hw6157_4; first | rwa [add_block] at this | exact this) GW6158.out))) _).trans (((cell_far (p := ⟨gb6158, _, none⟩) (by first | exact Nat.ne_of_lt (Nat.lt_of_lt_of_le (by have := World.block_lt_of_cell? _ _ hw6157_4; first | rwa [add_block] at this | exact this) GW6158.out) | (rw [add_block]; exact Nat.ne_of_lt (Nat.lt_of_lt_of_le (by have := World.block_lt_of_cell? _ _ hw6157_4; first | rwa [add_block] at this | exact this) GW6158.out)) | (show (Addr.add _ _).block ≠ _; rw [add_block]; exact Nat.ne_of_lt (Nat.lt_of_lt_of_le (by have := World.block_lt_of_cell? _ _ hw6157_4; first | rwa [add_block] at this | exact this) GW6158.out)) | (dsimp only; exact Nat.ne_of_lt (Nat.lt_of_lt_of_le (by have := World.block_lt_of_cell? _ _ hw6157_4; first | rwa [add_block] at this | exact this) GW6158.out))) _).trans (((cell_far (p := ⟨gb6158, _, none⟩) (by first | exact Nat.ne_of_lt (Nat.lt_of_lt_of_le (by have := World.block_lt_of_cell? _ _ hw6157_4; first | rwa [add_block] at this | exact this) GW6158.out) | (rw [add_block]; exact Nat.ne_of_lt (Nat.lt_of_lt_of_le (by have := World.block_lt_of_cell? _ _ hw6157_4; first | rwa [add_block] at this | exact this) GW6158.out)) | (show (Addr.add _ _).block ≠ _; rw [add_block]; exact Nat.ne_of_lt (Nat.lt_of_lt_of_le (by have := World.block_lt_of_cell? _ _ hw6157_4; first | rwa [add_block] at this | exact this) GW6158.out)) | (dsimp only; exact Nat.ne_of_lt (Nat.lt_of_lt_of_le (by have := World.block_lt_of_cell? _ _ hw6157_4; first | rwa [add_block] at this | exact this) GW6158.out))) _).trans (((cell_far (p := ⟨gb6158, _, none⟩) (by first | exact Nat.ne_of_lt (Nat.lt_of_lt_of_le (by have := World.block_lt_of_cell? _ _ hw6157_4; first | rwa [add_block] at this | exact this) GW6158.out) | (rw [add_block]; exact Nat.ne_of_lt (Nat.lt_of_lt_of_le (by have := World.block_lt_of_cell? _ _ hw6157_4; first | rwa [add_block] at this | exact this) GW6158.out)) | (show (Addr.add _ _).block ≠ _; rw [add_block]; exact Nat.ne_of_lt (Nat.lt_of_lt_of_le (by have := World.block_lt_of_cell? _ _ hw6157_4; first | rwa [add_block] at this | exact this) GW6158.out)) | (dsimp only; exact Nat.ne_of_lt (Nat.lt_of_lt_of_le (by have := World.block_lt_of_cell? _ _ hw6157_4; first | rwa [add_block] at this | exact this) GW6158.out))) _).trans (((cell_far (p := ⟨gb6158, _, none⟩) (by first | exact Nat.ne_of_lt (Nat.lt_of_lt_of_le (by have := World.block_lt_of_cell? _ _ hw6157_4; first | rwa [add_block] at this | exact this) GW6158.out) | (rw [add_block]; exact Nat.ne_of_lt (Nat.lt_of_lt_of_le (by have := World.block_lt_of_cell? _ _ hw6157_4; first | rwa [add_block] at this | exact this) GW6158.out)) | (show (Addr.add _ _).block ≠ _; rw [add_block]; exact Nat.ne_of_lt (Nat.lt_of_lt_of_le (by have := World.block_lt_of_cell? _ _ hw6157_4; first | rwa [add_block] at this | exact this) GW6158.out)) | (dsimp only; exact Nat.ne_of_lt (Nat.lt_of_lt_of_le (by have := World.block_lt_of_cell? _ _ hw6157_4; first | rwa [add_block] at this | exact this) GW6158.out))) _).trans (hHeld.2.2.2.2.2.2.2.2.2))))))))))⟩ (fun hHeld => ?_)
                clear hK K
                refine one_ (i := 11) (N := none) #[true, true, true, true, true, true, true, true, true, true, true, true] rfl rfl (one_of HT_.out (by kernel_rfl)) (by decide) (fun K hK => ?_)
                have hs19 : w13.cell? ⟨gb6159, 0, none⟩ = some (.int .i64 0) := (blk_cell BK6159.out 0).trans rfl
                have hfs19 := blk_frozen BK6159.out 0
                have hns19_0 := NB6158_6159.out
                have hms19_0 := NB6159_6158.out
                have hs20 : w13.cell? ⟨gb6159, 1, none⟩ = some (.string (⟨#[]⟩ : ByteArray)) := (blk_cell BK6159.out 1).trans rfl
                have hfs20 := blk_frozen BK6159.out 1
                have hns20_0 := NB6158_6159.out
                have hms20_0 := NB6159_6158.out
                have hs21 : w13.cell? ⟨gb6159, 2, none⟩ = some (.bool false) := (blk_cell BK6159.out 2).trans rfl
                have hfs21 := blk_frozen BK6159.out 2
                have hns21_0 := NB6158_6159.out
                have hms21_0 := NB6159_6158.out
                have hs22 : w13.cell? ⟨gb6159, 3, none⟩ = some (.slice none 0 0) := (blk_cell BK6159.out 3).trans rfl
                have hfs22 := blk_frozen BK6159.out 3
                have hns22_0 := NB6158_6159.out
                have hms22_0 := NB6159_6158.out
                have hs23 : w13.cell? ⟨gb6159, 4, none⟩ = some (.slice none 0 0) := (blk_cell BK6159.out 4).trans rfl
                have hfs23 := blk_frozen BK6159.out 4
                have hns23_0 := NB6158_6159.out
                have hms23_0 := NB6159_6158.out
                refine skip_ (w1 := ?_) (by rfl) rfl ?_ ?_
                rotate_left
                · go_simp
                  rfl
                refine hK.out _ _ ⟨((cell_far (p := ⟨gb6159, _, none⟩) (by first | exact Nat.ne_of_lt (Nat.lt_of_lt_of_le (by have := World.block_lt_of_cell? _ _ hw6156_0; first | rwa [add_block] at this | exact this) GW6159.out) | (rw [add_block]; exact Nat.ne_of_lt (Nat.lt_of_lt_of_le (by have := World.block_lt_of_cell? _ _ hw6156_0; first | rwa [add_block] at this | exact this) GW6159.out)) | (show (Addr.add _ _).block ≠ _; rw [add_block]; exact Nat.ne_of_lt (Nat.lt_of_lt_of_le (by have := World.block_lt_of_cell? _ _ hw6156_0; first | rwa [add_block] at this | exact this) GW6159.out)) | (dsimp only; exact Nat.ne_of_lt (Nat.lt_of_lt_of_le (by have := World.block_lt_of_cell? _ _ hw6156_0; first | rwa [add_block] at this | exact this) GW6159.out))) _).trans (((cell_far (p := ⟨gb6159, _, none⟩) (by first | exact Nat.ne_of_lt (Nat.lt_of_lt_of_le (by have := World.block_lt_of_cell? _ _ hw6156_0; first | rwa [add_block] at this | exact this) GW6159.out) | (rw [add_block]; exact Nat.ne_of_lt (Nat.lt_of_lt_of_le (by have := World.block_lt_of_cell? _ _ hw6156_0; first | rwa [add_block] at this | exact this) GW6159.out)) | (show (Addr.add _ _).block ≠ _; rw [add_block]; exact Nat.ne_of_lt (Nat.lt_of_lt_of_le (by have := World.block_lt_of_cell? _ _ hw6156_0; first | rwa [add_block] at this | exact this) GW6159.out)) | (dsimp only; exact Nat.ne_of_lt (Nat.lt_of_lt_of_le (by have := World.block_lt_of_cell? _ _ hw6156_0; first | rwa [add_block] at this | exact this) GW6159.out))) _).trans (((cell_far (p := ⟨gb6159, _, none⟩) (by first | exact Nat.ne_of_lt (Nat.lt_of_lt_of_le (by have := World.block_lt_of_cell? _ _ hw6156_0; first | rwa [add_block] at this | exact this) GW6159.out) | (rw [add_block]; exact Nat.ne_of_lt (Nat.lt_of_lt_of_le (by have := World.block_lt_of_cell? _ _ hw6156_0; first | rwa [add_block] at this | exact this) GW6159.out)) | (show (Addr.add _ _).block ≠ _; rw [add_block]; exact Nat.ne_of_lt (Nat.lt_of_lt_of_le (by have := World.block_lt_of_cell? _ _ hw6156_0; first | rwa [add_block] at this | exact this) GW6159.out)) | (dsimp only; exact Nat.ne_of_lt (Nat.lt_of_lt_of_le (by have := World.block_lt_of_cell? _ _ hw6156_0; first | rwa [add_block] at this | exact this) GW6159.out))) _).trans (((cell_far (p := ⟨gb6159, _, none⟩) (by first | exact Nat.ne_of_lt (Nat.lt_of_lt_of_le (by have := World.block_lt_of_cell? _ _ hw6156_0; first | rwa [add_block] at this | exact this) GW6159.out) | (rw [add_block]; exact Nat.ne_of_lt (Nat.lt_of_lt_of_le (by have := World.block_lt_of_cell? _ _ hw6156_0; first | rwa [add_block] at this | exact this) GW6159.out)) | (show (Addr.add _ _).block ≠ _; rw [add_block]; exact Nat.ne_of_lt (Nat.lt_of_lt_of_le (by have := World.block_lt_of_cell? _ _ hw6156_0; first | rwa [add_block] at this | exact this) GW6159.out)) | (dsimp only; exact Nat.ne_of_lt (Nat.lt_of_lt_of_le (by have := World.block_lt_of_cell? _ _ hw6156_0; first | rwa [add_block] at this | exact this) GW6159.out))) _).trans (((cell_far (p := ⟨gb6159, _, none⟩) (by first | exact Nat.ne_of_lt (Nat.lt_of_lt_of_le (by have := World.block_lt_of_cell? _ _ hw6156_0; first | rwa [add_block] at this | exact this) GW6159.out) | (rw [add_block]; exact Nat.ne_of_lt (Nat.lt_of_lt_of_le (by have := World.block_lt_of_cell? _ _ hw6156_0; first | rwa [add_block] at this | exact this) GW6159.out)) | (show (Addr.add _ _).block ≠ _; rw [add_block]; exact Nat.ne_of_lt (Nat.lt_of_lt_of_le (by have := World.block_lt_of_cell? _ _ hw6156_0; first | rwa [add_block] at this | exact this) GW6159.out)) | (dsimp only; exact Nat.ne_of_lt (Nat.lt_of_lt_of_le (by have := World.block_lt_of_cell? _ _ hw6156_0; first | rwa [add_block] at this | exact this) GW6159.out))) _).trans (hHeld.1)))))))))), ((cell_far (p := ⟨gb6159, _, none⟩) (by first | exact Nat.ne_of_lt (Nat.lt_of_lt_of_le (by have := World.block_lt_of_cell? _ _ hw6156_1; first | rwa [add_block] at this | exact this) GW6159.out) | (rw [add_block]; exact Nat.ne_of_lt (Nat.lt_of_lt_of_le (by have := World.block_lt_of_cell? _ _ hw6156_1; first | rwa [add_block] at this | exact this) GW6159.out)) | (show (Addr.add _ _).block ≠ _; rw [add_block]; exact Nat.ne_of_lt (Nat.lt_of_lt_of_le (by have := World.block_lt_of_cell? _ _ hw6156_1; first | rwa [add_block] at this | exact this) GW6159.out)) | (dsimp only; exact Nat.ne_of_lt (Nat.lt_of_lt_of_le (by have := World.block_lt_of_cell? _ _ hw6156_1; first | rwa [add_block] at this | exact this) GW6159.out))) _).trans (((cell_far (p := ⟨gb6159, _, none⟩) (by first | exact Nat.ne_of_lt (Nat.lt_of_lt_of_le (by have := World.block_lt_of_cell? _ _ hw6156_1; first | rwa [add_block] at this | exact this) GW6159.out) | (rw [add_block]; exact Nat.ne_of_lt (Nat.lt_of_lt_of_le (by have := World.block_lt_of_cell? _ _ hw6156_1; first | rwa [add_block] at this | exact this) GW6159.out)) | (show (Addr.add _ _).block ≠ _; rw [add_block]; exact Nat.ne_of_lt (Nat.lt_of_lt_of_le (by have := World.block_lt_of_cell? _ _ hw6156_1; first | rwa [add_block] at this | exact this) GW6159.out)) | (dsimp only; exact Nat.ne_of_lt (Nat.lt_of_lt_of_le (by have := World.block_lt_of_cell? _ _ hw6156_1; first | rwa [add_block] at this | exact this) GW6159.out))) _).trans (((cell_far (p := ⟨gb6159, _, none⟩) (by first | exact Nat.ne_of_lt (Nat.lt_of_lt_of_le (by have := World.block_lt_of_cell? _ _ hw6156_1; first | rwa [add_block] at this | exact this) GW6159.out) | (rw [add_block]; exact Nat.ne_of_lt (Nat.lt_of_lt_of_le (by have := World.block_lt_of_cell? _ _ hw6156_1; first | rwa [add_block] at this | exact this) GW6159.out)) | (show (Addr.add _ _).block ≠ _; rw [add_block]; exact Nat.ne_of_lt (Nat.lt_of_lt_of_le (by have := World.block_lt_of_cell? _ _ hw6156_1; first | rwa [add_block] at this | exact this) GW6159.out)) | (dsimp only; exact Nat.ne_of_lt (Nat.lt_of_lt_of_le (by have := World.block_lt_of_cell? _ _ hw6156_1; first | rwa [add_block] at this | exact this) GW6159.out))) _).trans (((cell_far (p := ⟨gb6159, _, none⟩) (by first | exact Nat.ne_of_lt (Nat.lt_of_lt_of_le (by have := World.block_lt_of_cell? _ _ hw6156_1; first | rwa [add_block] at this | exact this) GW6159.out) | (rw [add_block]; exact Nat.ne_of_lt (Nat.lt_of_lt_of_le (by have := World.block_lt_of_cell? _ _ hw6156_1; first | rwa [add_block] at this | exact this) GW6159.out)) | (show (Addr.add _ _).block ≠ _; rw [add_block]; exact Nat.ne_of_lt (Nat.lt_of_lt_of_le (by have := World.block_lt_of_cell? _ _ hw6156_1; first | rwa [add_block] at this | exact this) GW6159.out)) | (dsimp only; exact Nat.ne_of_lt (Nat.lt_of_lt_of_le (by have := World.block_lt_of_cell? _ _ hw6156_1; first | rwa [add_block] at this | exact this) GW6159.out))) _).trans (((cell_far (p := ⟨gb6159, _, none⟩) (by first | exact Nat.ne_of_lt (Nat.lt_of_lt_of_le (by have := World.block_lt_of_cell? _ _ hw6156_1; first | rwa [add_block] at this | exact this) GW6159.out) | (rw [add_block]; exact Nat.ne_of_lt (Nat.lt_of_lt_of_le (by have := World.block_lt_of_cell? _ _ hw6156_1; first | rwa [add_block] at this | exact this) GW6159.out)) | (show (Addr.add _ _).block ≠ _; rw [add_block]; exact Nat.ne_of_lt (Nat.lt_of_lt_of_le (by have := World.block_lt_of_cell? _ _ hw6156_1; first | rwa [add_block] at this | exact this) GW6159.out)) | (dsimp only; exact Nat.ne_of_lt (Nat.lt_of_lt_of_le (by have := World.block_lt_of_cell? _ _ hw6156_1; first | rwa [add_block] at this | exact this) GW6159.out))) _).trans (hHeld.2.1)))))))))), ((cell_far (p := ⟨gb6159, _, none⟩) (by first | exact Nat.ne_of_lt (Nat.lt_of_lt_of_le (by have := World.block_lt_of_cell? _ _ hw6156_2; first | rwa [add_block] at this | exact this) GW6159.out) | (rw [add_block]; exact Nat.ne_of_lt (Nat.lt_of_lt_of_le (by have := World.block_lt_of_cell? _ _ hw6156_2; first | rwa [add_block] at this | exact this) GW6159.out)) | (show (Addr.add _ _).block ≠ _; rw [add_block]; exact Nat.ne_of_lt (Nat.lt_of_lt_of_le (by have := World.block_lt_of_cell? _ _ hw6156_2; first | rwa [add_block] at this | exact this) GW6159.out)) | (dsimp only; exact Nat.ne_of_lt (Nat.lt_of_lt_of_le (by have := World.block_lt_of_cell? _ _ hw6156_2; first | rwa [add_block] at this | exact this) GW6159.out))) _).trans (((cell_far (p := ⟨gb6159, _, none⟩) (by first | exact Nat.ne_of_lt (Nat.lt_of_lt_of_le (by have := World.block_lt_of_cell? _ _ hw6156_2; first | rwa [add_block] at this | exact this) GW6159.out) | (rw [add_block]; exact Nat.ne_of_lt (Nat.lt_of_lt_of_le (by have := World.block_lt_of_cell? _ _ hw6156_2; first | rwa [add_block] at this | exact this) GW6159.out)) | (show (Addr.add _ _).block ≠ _; rw [add_block]; exact Nat.ne_of_lt (Nat.lt_of_lt_of_le (by have := World.block_lt_of_cell? _ _ hw6156_2; first | rwa [add_block] at this | exact this) GW6159.out)) | (dsimp only; exact Nat.ne_of_lt (Nat.lt_of_lt_of_le (by have := World.block_lt_of_cell? _ _ hw6156_2; first | rwa [add_block] at this | exact this) GW6159.out))) _).trans (((cell_far (p := ⟨gb6159, _, none⟩) (by first | exact Nat.ne_of_lt (Nat.lt_of_lt_of_le (by have := World.block_lt_of_cell? _ _ hw6156_2; first | rwa [add_block] at this | exact this) GW6159.out) | (rw [add_block]; exact Nat.ne_of_lt (Nat.lt_of_lt_of_le (by have := World.block_lt_of_cell? _ _ hw6156_2; first | rwa [add_block] at this | exact this) GW6159.out)) | (show (Addr.add _ _).block ≠ _; rw [add_block]; exact Nat.ne_of_lt (Nat.lt_of_lt_of_le (by have := World.block_lt_of_cell? _ _ hw6156_2; first | rwa [add_block] at this | exact this) GW6159.out)) | (dsimp only; exact Nat.ne_of_lt (Nat.lt_of_lt_of_le (by have := World.block_lt_of_cell? _ _ hw6156_2; first | rwa [add_block] at this | exact this) GW6159.out))) _).trans (((cell_far (p := ⟨gb6159, _, none⟩) (by first | exact Nat.ne_of_lt (Nat.lt_of_lt_of_le (by have := World.block_lt_of_cell? _ _ hw6156_2; first | rwa [add_block] at this | exact this) GW6159.out) | (rw [add_block]; exact Nat.ne_of_lt (Nat.lt_of_lt_of_le (by have := World.block_lt_of_cell? _ _ hw6156_2; first | rwa [add_block] at this | exact this) GW6159.out)) | (show (Addr.add _ _).block ≠ _; rw [add_block]; exact Nat.ne_of_lt (Nat.lt_of_lt_of_le (by have := World.block_lt_of_cell? _ _ hw6156_2; first | rwa [add_block] at this | exact this) GW6159.out)) | (dsimp only; exact Nat.ne_of_lt (Nat.lt_of_lt_of_le (by have := World.block_lt_of_cell? _ _ hw6156_2; first | rwa [add_block] at this | exact this) GW6159.out))) _).trans (((cell_far (p := ⟨gb6159, _, none⟩) (by first | exact Nat.ne_of_lt (Nat.lt_of_lt_of_le (by have := World.block_lt_of_cell? _ _ hw6156_2; first | rwa [add_block] at this | exact this) GW6159.out) | (rw [add_block]; exact Nat.ne_of_lt (Nat.lt_of_lt_of_le (by have := World.block_lt_of_cell? _ _ hw6156_2; first | rwa [add_block] at this | exact this) GW6159.out)) | (show (Addr.add _ _).block ≠ _; rw [add_block]; exact Nat.ne_of_lt (Nat.lt_of_lt_of_le (by have := World.block_lt_of_cell? _ _ hw6156_2; first | rwa [add_block] at this | exact this) GW6159.out)) | (dsimp only; exact Nat.ne_of_lt (Nat.lt_of_lt_of_le (by have := World.block_lt_of_cell? _ _ hw6156_2; first | rwa [add_block] at this | exact this) GW6159.out))) _).trans (hHeld.2.2.1)))))))))), ((cell_far (p := ⟨gb6159, _, none⟩) (by first | exact Nat.ne_of_lt (Nat.lt_of_lt_of_le (by have := World.block_lt_of_cell? _ _ hw6156_3; first | rwa [add_block] at this | exact this) GW6159.out) | (rw [add_block]; exact Nat.ne_of_lt (Nat.lt_of_lt_of_le (by have := World.block_lt_of_cell? _ _ hw6156_3; first | rwa [add_block] at this | exact this) GW6159.out)) | (show (Addr.add _ _).block ≠ _; rw [add_block]; exact Nat.ne_of_lt (Nat.lt_of_lt_of_le (by have := World.block_lt_of_cell? _ _ hw6156_3; first | rwa [add_block] at this | exact this) GW6159.out)) | (dsimp only; exact Nat.ne_of_lt (Nat.lt_of_lt_of_le (by have := World.block_lt_of_cell? _ _ hw6156_3; first | rwa [add_block] at this | exact this) GW6159.out))) _).trans (((cell_far (p := ⟨gb6159, _, none⟩) (by first | exact Nat.ne_of_lt (Nat.lt_of_lt_of_le (by have := World.block_lt_of_cell? _ _ hw6156_3; first | rwa [add_block] at this | exact this) GW6159.out) | (rw [add_block]; exact Nat.ne_of_lt (Nat.lt_of_lt_of_le (by have := World.block_lt_of_cell? _ _ hw6156_3; first | rwa [add_block] at this | exact this) GW6159.out)) | (show (Addr.add _ _).block ≠ _; rw [add_block]; exact Nat.ne_of_lt (Nat.lt_of_lt_of_le (by have := World.block_lt_of_cell? _ _ hw6156_3; first | rwa [add_block] at this | exact this) GW6159.out)) | (dsimp only; exact Nat.ne_of_lt (Nat.lt_of_lt_of_le (by have := World.block_lt_of_cell? _ _ hw6156_3; first | rwa [add_block] at this | exact this) GW6159.out))) _).trans (((cell_far (p := ⟨gb6159, _, none⟩) (by first | exact Nat.ne_of_lt (Nat.lt_of_lt_of_le (by have := World.block_lt_of_cell? _ _ hw6156_3; first | rwa [add_block] at this | exact this) GW6159.out) | (rw [add_block]; exact Nat.ne_of_lt (Nat.lt_of_lt_of_le (by have := World.block_lt_of_cell? _ _ hw6156_3; first | rwa [add_block] at this | exact this) GW6159.out)) | (show (Addr.add _ _).block ≠ _; rw [add_block]; exact Nat.ne_of_lt (Nat.lt_of_lt_of_le (by have := World.block_lt_of_cell? _ _ hw6156_3; first | rwa [add_block] at this | exact this) GW6159.out)) | (dsimp only; exact Nat.ne_of_lt (Nat.lt_of_lt_of_le (by have := World.block_lt_of_cell? _ _ hw6156_3; first | rwa [add_block] at this | exact this) GW6159.out))) _).trans (((cell_far (p := ⟨gb6159, _, none⟩) (by first | exact Nat.ne_of_lt (Nat.lt_of_lt_of_le (by have := World.block_lt_of_cell? _ _ hw6156_3; first | rwa [add_block] at this | exact this) GW6159.out) | (rw [add_block]; exact Nat.ne_of_lt (Nat.lt_of_lt_of_le (by have := World.block_lt_of_cell? _ _ hw6156_3; first | rwa [add_block] at this | exact this) GW6159.out)) | (show (Addr.add _ _).block ≠ _; rw [add_block]; exact Nat.ne_of_lt (Nat.lt_of_lt_of_le (by have := World.block_lt_of_cell? _ _ hw6156_3; first | rwa [add_block] at this | exact this) GW6159.out)) | (dsimp only; exact Nat.ne_of_lt (Nat.lt_of_lt_of_le (by have := World.block_lt_of_cell? _ _ hw6156_3; first | rwa [add_block] at this | exact this) GW6159.out))) _).trans (((cell_far (p := ⟨gb6159, _, none⟩) (by first | exact Nat.ne_of_lt (Nat.lt_of_lt_of_le (by have := World.block_lt_of_cell? _ _ hw6156_3; first | rwa [add_block] at this | exact this) GW6159.out) | (rw [add_block]; exact Nat.ne_of_lt (Nat.lt_of_lt_of_le (by have := World.block_lt_of_cell? _ _ hw6156_3; first | rwa [add_block] at this | exact this) GW6159.out)) | (show (Addr.add _ _).block ≠ _; rw [add_block]; exact Nat.ne_of_lt (Nat.lt_of_lt_of_le (by have := World.block_lt_of_cell? _ _ hw6156_3; first | rwa [add_block] at this | exact this) GW6159.out)) | (dsimp only; exact Nat.ne_of_lt (Nat.lt_of_lt_of_le (by have := World.block_lt_of_cell? _ _ hw6156_3; first | rwa [add_block] at this | exact this) GW6159.out))) _).trans (hHeld.2.2.2.1)))))))))), ((cell_far (p := ⟨gb6159, _, none⟩) (by first | exact Nat.ne_of_lt (Nat.lt_of_lt_of_le (by have := World.block_lt_of_cell? _ _ hw6156_4; first | rwa [add_block] at this | exact this) GW6159.out) | (rw [add_block]; exact Nat.ne_of_lt (Nat.lt_of_lt_of_le (by have := World.block_lt_of_cell? _ _ hw6156_4; first | rwa [add_block] at this | exact this) GW6159.out)) | (show (Addr.add _ _).block ≠ _; rw [add_block]; exact Nat.ne_of_lt (Nat.lt_of_lt_of_le (by have := World.block_lt_of_cell? _ _ hw6156_4; first | rwa [add_block] at this | exact this) GW6159.out)) | (dsimp only; exact Nat.ne_of_lt (Nat.lt_of_lt_of_le (by have := World.block_lt_of_cell? _ _ hw6156_4; first | rwa [add_block] at this | exact this) GW6159.out))) _).trans (((cell_far (p := ⟨gb6159, _, none⟩) (by first | exact Nat.ne_of_lt (Nat.lt_of_lt_of_le (by have := World.block_lt_of_cell? _ _ hw6156_4; first | rwa [add_block] at this | exact this) GW6159.out) | (rw [add_block]; exact Nat.ne_of_lt (Nat.lt_of_lt_of_le (by have := World.block_lt_of_cell? _ _ hw6156_4; first | rwa [add_block] at this | exact this) GW6159.out)) | (show (Addr.add _ _).block ≠ _; rw [add_block]; exact Nat.ne_of_lt (Nat.lt_of_lt_of_le (by have := World.block_lt_of_cell? _ _ hw6156_4; first | rwa [add_block] at this | exact this) GW6159.out)) | (dsimp only; exact Nat.ne_of_lt (Nat.lt_of_lt_of_le (by have := World.block_lt_of_cell? _ _ hw6156_4; first | rwa [add_block] at this | exact this) GW6159.out))) _).trans (((cell_far (p := ⟨gb6159, _, none⟩) (by first | exact Nat.ne_of_lt (Nat.lt_of_lt_of_le (by have := World.block_lt_of_cell? _ _ hw6156_4; first | rwa [add_block] at this | exact this) GW6159.out) | (rw [add_block]; exact Nat.ne_of_lt (Nat.lt_of_lt_of_le (by have := World.block_lt_of_cell? _ _ hw6156_4; first | rwa [add_block] at this | exact this) GW6159.out)) | (show (Addr.add _ _).block ≠ _; rw [add_block]; exact Nat.ne_of_lt (Nat.lt_of_lt_of_le (by have := World.block_lt_of_cell? _ _ hw6156_4; first | rwa [add_block] at this | exact this) GW6159.out)) | (dsimp only; exact Nat.ne_of_lt (Nat.lt_of_lt_of_le (by have := World.block_lt_of_cell? _ _ hw6156_4; first | rwa [add_block] at this | exact this) GW6159.out))) _).trans (((cell_far (p := ⟨gb6159, _, none⟩) (by first | exact Nat.ne_of_lt (Nat.lt_of_lt_of_le (by have := World.block_lt_of_cell? _ _ hw6156_4; first | rwa [add_block] at this | exact this) GW6159.out) | (rw [add_block]; exact Nat.ne_of_lt (Nat.lt_of_lt_of_le (by have := World.block_lt_of_cell? _ _ hw6156_4; first | rwa [add_block] at this | exact this) GW6159.out)) | (show (Addr.add _ _).block ≠ _; rw [add_block]; exact Nat.ne_of_lt (Nat.lt_of_lt_of_le (by have := World.block_lt_of_cell? _ _ hw6156_4; first | rwa [add_block] at this | exact this) GW6159.out)) | (dsimp only; exact Nat.ne_of_lt (Nat.lt_of_lt_of_le (by have := World.block_lt_of_cell? _ _ hw6156_4; first | rwa [add_block] at this | exact this) GW6159.out))) _).trans (((cell_far (p := ⟨gb6159, _, none⟩) (by first | exact Nat.ne_of_lt (Nat.lt_of_lt_of_le (by have := World.block_lt_of_cell? _ _ hw6156_4; first | rwa [add_block] at this | exact this) GW6159.out) | (rw [add_block]; exact Nat.ne_of_lt (Nat.lt_of_lt_of_le (by have := World.block_lt_of_cell? _ _ hw6156_4; first | rwa [add_block] at this | exact this) GW6159.out)) | (show (Addr.add _ _).block ≠ _; rw [add_block]; exact Nat.ne_of_lt (Nat.lt_of_lt_of_le (by have := World.block_lt_of_cell? _ _ hw6156_4; first | rwa [add_block] at this | exact this) GW6159.out)) | (dsimp only; exact Nat.ne_of_lt (Nat.lt_of_lt_of_le (by have := World.block_lt_of_cell? _ _ hw6156_4; first | rwa [add_block] at this | exact this) GW6159.out))) _).trans (hHeld.2.2.2.2.1)))))))))), ((cell_far (p := ⟨gb6159, _, none⟩) (by first | exact Nat.ne_of_lt (Nat.lt_of_lt_of_le (by have := World.block_lt_of_cell? _ _ hw6157_0; first | rwa [add_block] at this | exact this) GW6159.out) | (rw [add_block]; exact Nat.ne_of_lt (Nat.lt_of_lt_of_le (by have := World.block_lt_of_cell? _ _ hw6157_0; first | rwa [add_block] at this | exact this) GW6159.out)) | (show (Addr.add _ _).block ≠ _; rw [add_block]; exact Nat.ne_of_lt (Nat.lt_of_lt_of_le (by have := World.block_lt_of_cell? _ _ hw6157_0; first | rwa [add_block] at this | exact this) GW6159.out)) | (dsimp only; exact Nat.ne_of_lt (Nat.lt_of_lt_of_le (by have := World.block_lt_of_cell? _ _ hw6157_0; first | rwa [add_block] at this | exact this) GW6159.out))) _).trans (((cell_far (p := ⟨gb6159, _, none⟩) (by first | exact Nat.ne_of_lt (Nat.lt_of_lt_of_le (by have := World.block_lt_of_cell? _ _ hw6157_0; first | rwa [add_block] at this | exact this) GW6159.out) | (rw [add_block]; exact Nat.ne_of_lt (Nat.lt_of_lt_of_le (by have := World.block_lt_of_cell? _ _ hw6157_0; first | rwa [add_block] at this | exact this) GW6159.out)) | (show (Addr.add _ _).block ≠ _; rw [add_block]; exact Nat.ne_of_lt (Nat.lt_of_lt_of_le (by have := World.block_lt_of_cell? _ _ hw6157_0; first | rwa [add_block] at this | exact this) GW6159.out)) | (dsimp only; exact Nat.ne_of_lt (Nat.lt_of_lt_of_le (by have := World.block_lt_of_cell? _ _ hw6157_0; first | rwa [add_block] at this | exact this) GW6159.out))) _).trans (((cell_far (p := ⟨gb6159, _, none⟩) (by first | exact Nat.ne_of_lt (Nat.lt_of_lt_of_le (by have := World.block_lt_of_cell? _ _ hw6157_0; first | rwa [add_block] at this | exact this) GW6159.out) | (rw [add_block]; exact Nat.ne_of_lt (Nat.lt_of_lt_of_le (by have := World.block_lt_of_cell? _ _ hw6157_0; first | rwa [add_block] at this | exact this) GW6159.out)) | (show (Addr.add _ _).block ≠ _; rw [add_block]; exact Nat.ne_of_lt (Nat.lt_of_lt_of_le (by have := World.block_lt_of_cell? _ _ hw6157_0; first | rwa [add_block] at this | exact this) GW6159.out)) | (dsimp only; exact Nat.ne_of_lt (Nat.lt_of_lt_of_le (by have := World.block_lt_of_cell? _ _ hw6157_0; first | rwa [add_block] at this | exact this) GW6159.out))) _).trans (((cell_far (p := ⟨gb6159, _, none⟩) (by first | exact Nat.ne_of_lt (Nat.lt_of_lt_of_le (by have := World.block_lt_of_cell? _ _ hw6157_0; first | rwa [add_block] at this | exact this) GW6159.out) | (rw [add_block]; exact Nat.ne_of_lt (Nat.lt_of_lt_of_le (by have := World.block_lt_of_cell? _ _ hw6157_0; first | rwa [add_block] at this | exact this) GW6159.out)) | (show (Addr.add _ _).block ≠ _; rw [add_block]; exact Nat.ne_of_lt (Nat.lt_of_lt_of_le (by have := World.block_lt_of_cell? _ _ hw6157_0; first | rwa [add_block] at this | exact this) GW6159.out)) | (dsimp only; exact Nat.ne_of_lt (Nat.lt_of_lt_of_le (by have := World.block_lt_of_cell? _ _ hw6157_0; first | rwa [add_block] at this | exact this) GW6159.out))) _).trans (((cell_far (p := ⟨gb6159, _, none⟩) (by first | exact Nat.ne_of_lt (Nat.lt_of_lt_of_le (by have := World.block_lt_of_cell? _ _ hw6157_0; first | rwa [add_block] at this | exact this) GW6159.out) | (rw [add_block]; exact Nat.ne_of_lt (Nat.lt_of_lt_of_le (by have := World.block_lt_of_cell? _ _ hw6157_0; first | rwa [add_block] at this | exact this) GW6159.out)) | (show (Addr.add _ _).block ≠ _; rw [add_block]; exact Nat.ne_of_lt (Nat.lt_of_lt_of_le (by have := World.block_lt_of_cell? _ _ hw6157_0; first | rwa [add_block] at this | exact this) GW6159.out)) | (dsimp only; exact Nat.ne_of_lt (Nat.lt_of_lt_of_le (by have := World.block_lt_of_cell? _ _ hw6157_0; first | rwa [add_block] at this | exact this) GW6159.out))) _).trans (hHeld.2.2.2.2.2.1)))))))))), ((cell_far (p := ⟨gb6159, _, none⟩) (by first | exact Nat.ne_of_lt (Nat.lt_of_lt_of_le (by have := World.block_lt_of_cell? _ _ hw6157_1; first | rwa [add_block] at this | exact this) GW6159.out) | (rw [add_block]; exact Nat.ne_of_lt (Nat.lt_of_lt_of_le (by have := World.block_lt_of_cell? _ _ hw6157_1; first | rwa [add_block] at this | exact this) GW6159.out)) | (show (Addr.add _ _).block ≠ _; rw [add_block]; exact Nat.ne_of_lt (Nat.lt_of_lt_of_le (by have := World.block_lt_of_cell? _ _ hw6157_1; first | rwa [add_block] at this | exact this) GW6159.out)) | (dsimp only; exact Nat.ne_of_lt (Nat.lt_of_lt_of_le (by have := World.block_lt_of_cell? _ _ hw6157_1; first | rwa [add_block] at this | exact this) GW6159.out))) _).trans (((cell_far (p := ⟨gb6159, _, none⟩) (by first | exact Nat.ne_of_lt (Nat.lt_of_lt_of_le (by have := World.block_lt_of_cell? _ _ hw6157_1; first | rwa [add_block] at this | exact this) GW6159.out) | (rw [add_block]; exact Nat.ne_of_lt (Nat.lt_of_lt_of_le (by have := World.block_lt_of_cell? _ _ hw6157_1; first | rwa [add_block] at this | exact this) GW6159.out)) | (show (Addr.add _ _).block ≠ _; rw [add_block]; exact Nat.ne_of_lt (Nat.lt_of_lt_of_le (by have := World.block_lt_of_cell? _ _ hw6157_1; first | rwa [add_block] at this | exact this) GW6159.out)) | (dsimp only; exact Nat.ne_of_lt (Nat.lt_of_lt_of_le (by have := World.block_lt_of_cell? _ _ hw6157_1; first | rwa [add_block] at this | exact this) GW6159.out))) _).trans (((cell_far (p := ⟨gb6159, _, none⟩) (by first | exact Nat.ne_of_lt (Nat.lt_of_lt_of_le (by have := World.block_lt_of_cell? _ _ hw6157_1; first | rwa [add_block] at this | exact this) GW6159.out) | (rw [add_block]; exact Nat.ne_of_lt (Nat.lt_of_lt_of_le (by have := World.block_lt_of_cell? _ _ hw6157_1; first | rwa [add_block] at this | exact this) GW6159.out)) | (show (Addr.add _ _).block ≠ _; rw [add_block]; exact Nat.ne_of_lt (Nat.lt_of_lt_of_le (by have := World.block_lt_of_cell? _ _ hw6157_1; first | rwa [add_block] at this | exact this) GW6159.out)) | (dsimp only; exact Nat.ne_of_lt (Nat.lt_of_lt_of_le (by have := World.block_lt_of_cell? _ _ hw6157_1; first | rwa [add_block] at this | exact this) GW6159.out))) _).trans (((cell_far (p := ⟨gb6159, _, none⟩) (by first | exact Nat.ne_of_lt (Nat.lt_of_lt_of_le (by have := World.block_lt_of_cell? _ _ hw6157_1; first | rwa [add_block] at this | exact this) GW6159.out) | (rw [add_block]; exact Nat.ne_of_lt (Nat.lt_of_lt_of_le (by have := World.block_lt_of_cell? _ _ hw6157_1; first | rwa [add_block] at this | exact this) GW6159.out)) | (show (Addr.add _ _).block ≠ _; rw [add_block]; exact Nat.ne_of_lt (Nat.lt_of_lt_of_le (by have := World.block_lt_of_cell? _ _ hw6157_1; first | rwa [add_block] at this | exact this) GW6159.out)) | (dsimp only; exact Nat.ne_of_lt (Nat.lt_of_lt_of_le (by have := World.block_lt_of_cell? _ _ hw6157_1; first | rwa [add_block] at this | exact this) GW6159.out))) _).trans (((cell_far (p := ⟨gb6159, _, none⟩) (by first | exact Nat.ne_of_lt (Nat.lt_of_lt_of_le (by have := World.block_lt_of_cell? _ _ hw6157_1; first | rwa [add_block] at this | exact this) GW6159.out) | (rw [add_block]; exact Nat.ne_of_lt (Nat.lt_of_lt_of_le (by have := World.block_lt_of_cell? _ _ hw6157_1; first | rwa [add_block] at this | exact this) GW6159.out)) | (show (Addr.add _ _).block ≠ _; rw [add_block]; exact Nat.ne_of_lt (Nat.lt_of_lt_of_le (by have := World.block_lt_of_cell? _ _ hw6157_1; first | rwa [add_block] at this | exact this) GW6159.out)) | (dsimp only; exact Nat.ne_of_lt (Nat.lt_of_lt_of_le (by have := World.block_lt_of_cell? _ _ hw6157_1; first | rwa [add_block] at this | exact this) GW6159.out))) _).trans (hHeld.2.2.2.2.2.2.1)))))))))), ((cell_far (p := ⟨gb6159, _, none⟩) (by first | exact Nat.ne_of_lt (Nat.lt_of_lt_of_le (by have := World.block_lt_of_cell? _ _ hw6157_2; first | rwa [add_block] at this | exact this) GW6159.out) | (rw [add_block]; exact Nat.ne_of_lt (Nat.lt_of_lt_of_le (by have := World.block_lt_of_cell? _ _ hw6157_2; first | rwa [add_block] at this | exact this) GW6159.out)) | (show (Addr.add _ _).block ≠ _; rw [add_block]; exact Nat.ne_of_lt (Nat.lt_of_lt_of_le (by have := World.block_lt_of_cell? _ _ hw6157_2; first | rwa [add_block] at this | exact this) GW6159.out)) | (dsimp only; exact Nat.ne_of_lt (Nat.lt_of_lt_of_le (by have := World.block_lt_of_cell? _ _ hw6157_2; first | rwa [add_block] at this | exact this) GW6159.out))) _).trans (((cell_far (p := ⟨gb6159, _, none⟩) (by first | exact Nat.ne_of_lt (Nat.lt_of_lt_of_le (by have := World.block_lt_of_cell? _ _ hw6157_2; first | rwa [add_block] at this | exact this) GW6159.out) | (rw [add_block]; exact Nat.ne_of_lt (Nat.lt_of_lt_of_le (by have := World.block_lt_of_cell? _ _ hw6157_2; first | rwa [add_block] at this | exact this) GW6159.out)) | (show (Addr.add _ _).block ≠ _; rw [add_block]; exact Nat.ne_of_lt (Nat.lt_of_lt_of_le (by have := World.block_lt_of_cell? _ _ hw6157_2; first | rwa [add_block] at this | exact this) GW6159.out)) | (dsimp only; exact Nat.ne_of_lt (Nat.lt_of_lt_of_le (by have := World.block_lt_of_cell? _ _ hw6157_2; first | rwa [add_block] at this | exact this) GW6159.out))) _).trans (((cell_far (p := ⟨gb6159, _, none⟩) (by first | exact Nat.ne_of_lt (Nat.lt_of_lt_of_le (by have := World.block_lt_of_cell? _ _ hw6157_2; first | rwa [add_block] at this | exact this) GW6159.out) | (rw [add_block]; exact Nat.ne_of_lt (Nat.lt_of_lt_of_le (by have := World.block_lt_of_cell? _ _ hw6157_2; first | rwa [add_block] at this | exact this) GW6159.out)) | (show (Addr.add _ _).block ≠ _; rw [add_block]; exact Nat.ne_of_lt (Nat.lt_of_lt_of_le (by have := World.block_lt_of_cell? _ _ hw6157_2; first | rwa [add_block] at this | exact this) GW6159.out)) | (dsimp only; exact Nat.ne_of_lt (Nat.lt_of_lt_of_le (by have := World.block_lt_of_cell? _ _ hw6157_2; first | rwa [add_block] at this | exact this) GW6159.out))) _).trans (((cell_far (p := ⟨gb6159, _, none⟩) (by first | exact Nat.ne_of_lt (Nat.lt_of_lt_of_le (by have := World.block_lt_of_cell? _ _ hw6157_2; first | rwa [add_block] at this | exact this) GW6159.out) | (rw [add_block]; exact Nat.ne_of_lt (Nat.lt_of_lt_of_le (by have := World.block_lt_of_cell? _ _ hw6157_2; first | rwa [add_block] at this | exact this) GW6159.out)) | (show (Addr.add _ _).block ≠ _; rw [add_block]; exact Nat.ne_of_lt (Nat.lt_of_lt_of_le (by have := World.block_lt_of_cell? _ _ hw6157_2; first | rwa [add_block] at this | exact this) GW6159.out)) | (dsimp only; exact Nat.ne_of_lt (Nat.lt_of_lt_of_le (by have := World.block_lt_of_cell? _ _ hw6157_2; first | rwa [add_block] at this | exact this) GW6159.out))) _).trans (((cell_far (p := ⟨gb6159, _, none⟩) (by first | exact Nat.ne_of_lt (Nat.lt_of_lt_of_le (by have := World.block_lt_of_cell? _ _ hw6157_2; first | rwa [add_block] at this | exact this) GW6159.out) | (rw [add_block]; exact Nat.ne_of_lt (Nat.lt_of_lt_of_le (by have := World.block_lt_of_cell? _ _ hw6157_2; first | rwa [add_block] at this | exact this) GW6159.out)) | (show (Addr.add _ _).block ≠ _; rw [add_block]; exact Nat.ne_of_lt (Nat.lt_of_lt_of_le (by have := World.block_lt_of_cell? _ _ hw6157_2; first | rwa [add_block] at this | exact this) GW6159.out)) | (dsimp only; exact Nat.ne_of_lt (Nat.lt_of_lt_of_le (by have := World.block_lt_of_cell? _ _ hw6157_2; first | rwa [add_block] at this | exact this) GW6159.out))) _).trans (hHeld.2.2.2.2.2.2.2.1)))))))))), ((cell_far (p := ⟨gb6159, _, none⟩) (by first | exact Nat.ne_of_lt (Nat.lt_of_lt_of_le (by have := World.block_lt_of_cell? _ _ hw6157_3; first | rwa [add_block] at this | exact this) GW6159.out) | (rw [add_block]; exact Nat.ne_of_lt (Nat.lt_of_lt_of_le (by have := World.block_lt_of_cell? _ _ hw6157_3; first | rwa [add_block] at this | exact this) GW6159.out)) | (show (Addr.add _ _).block ≠ _; rw [add_block]; exact Nat.ne_of_lt (Nat.lt_of_lt_of_le (by have := World.block_lt_of_cell? _ _ hw6157_3; first | rwa [add_block] at this | exact this) GW6159.out)) | (dsimp only; exact Nat.ne_of_lt (Nat.lt_of_lt_of_le (by have := World.block_lt_of_cell? _ _ hw6157_3; first | rwa [add_block] at this | exact this) GW6159.out))) _).trans (((cell_far (p := ⟨gb6159, _, none⟩) (by first | exact Nat.ne_of_lt (Nat.lt_of_lt_of_le (by have := World.block_lt_of_cell? _ _ hw6157_3; first | rwa [add_block] at this | exact this) GW6159.out) | (rw [add_block]; exact Nat.ne_of_lt (Nat.lt_of_lt_of_le (by have := World.block_lt_of_cell? _ _ hw6157_3; first | rwa [add_block] at this | exact this) GW6159.out)) | (show (Addr.add _ _).block ≠ _; rw [add_block]; exact Nat.ne_of_lt (Nat.lt_of_lt_of_le (by have := World.block_lt_of_cell? _ _ hw6157_3; first | rwa [add_block] at this | exact this) GW6159.out)) | (dsimp only; exact Nat.ne_of_lt (Nat.lt_of_lt_of_le (by have := World.block_lt_of_cell? _ _ hw6157_3; first | rwa [add_block] at this | exact this) GW6159.out))) _).trans (((cell_far (p := ⟨gb6159, _, none⟩) (by first | exact Nat.ne_of_lt (Nat.lt_of_lt_of_le (by have := World.block_lt_of_cell? _ _ hw6157_3; first | rwa [add_block] at this | exact this) GW6159.out) | (rw [add_block]; exact Nat.ne_of_lt (Nat.lt_of_lt_of_le (by have := World.block_lt_of_cell? _ _ hw6157_3; first | rwa [add_block] at this | exact this) GW6159.out)) | (show (Addr.add _ _).block ≠ _; rw [add_block]; exact Nat.ne_of_lt (Nat.lt_of_lt_of_le (by have := World.block_lt_of_cell? _ _ hw6157_3; first | rwa [add_block] at this | exact this) GW6159.out)) | (dsimp only; exact Nat.ne_of_lt (Nat.lt_of_lt_of_le (by have := World.block_lt_of_cell? _ _ hw6157_3; first | rwa [add_block] at this | exact this) GW6159.out))) _).trans (((cell_far (p := ⟨gb6159, _, none⟩) (by first | exact Nat.ne_of_lt (Nat.lt_of_lt_of_le (by have := World.block_lt_of_cell? _ _ hw6157_3; first | rwa [add_block] at this | exact this) GW6159.out) | (rw [add_block]; exact Nat.ne_of_lt (Nat.lt_of_lt_of_le (by have := World.block_lt_of_cell? _ _ hw6157_3; first | rwa [add_block] at this | exact this) GW6159.out)) | (show (Addr.add _ _).block ≠ _; rw [add_block]; exact Nat.ne_of_lt (Nat.lt_of_lt_of_le (by have := World.block_lt_of_cell? _ _ hw6157_3; first | rwa [add_block] at this | exact this) GW6159.out)) | (dsimp only; exact Nat.ne_of_lt (Nat.lt_of_lt_of_le (by have := World.block_lt_of_cell? _ _ hw6157_3; first | rwa [add_block] at this | exact this) GW6159.out))) _).trans (((cell_far (p := ⟨gb6159, _, none⟩) (by first | exact Nat.ne_of_lt (Nat.lt_of_lt_of_le (by have := World.block_lt_of_cell? _ _ hw6157_3; first | rwa [add_block] at this | exact this) GW6159.out) | (rw [add_block]; exact Nat.ne_of_lt (Nat.lt_of_lt_of_le (by have := World.block_lt_of_cell? _ _ hw6157_3; first | rwa [add_block] at this | exact this) GW6159.out)) | (show (Addr.add _ _).block ≠ _; rw [add_block]; exact Nat.ne_of_lt (Nat.lt_of_lt_of_le (by have := World.block_lt_of_cell? _ _ hw6157_3; first | rwa [add_block] at this | exact this) GW6159.out)) | (dsimp only; exact Nat.ne_of_lt (Nat.lt_of_lt_of_le (by have := World.block_lt_of_cell? _ _ hw6157_3; first | rwa [add_block] at this | exact this) GW6159.out))) _).trans (hHeld.2.2.2.2.2.2.2.2.1)))))))))), ((cell_far (p := ⟨gb6159, _, none⟩) (by first | exact Nat.ne_of_lt (Nat.lt_of_lt_of_le (by have := World.block_lt_of_cell? _ _ hw6157_4; first | rwa [add_block] at this | exact this) GW6159.out) | (rw [add_block]; exact Nat.ne_of_lt (Nat.lt_of_lt_of_le (by have := World.block_lt_of_cell? _ _ hw6157_4; first | rwa [add_block] at this | exact this) GW6159.out)) | (show (Addr.add _ _).block ≠ _; rw [add_block]; exact Nat.ne_of_lt (Nat.lt_of_lt_of_le (by have := World.block_lt_of_cell? _ _ hw6157_4; first | rwa [add_block] at this | exact this) GW6159.out)) | (dsimp only; exact Nat.ne_of_lt (Nat.lt_of_lt_of_le (by have := World.block_lt_of_cell? _ _ hw6157_4; first | rwa [add_block] at this | exact this) GW6159.out))) _).trans (((cell_far (p := ⟨gb6159, _, none⟩) (by first | exact Nat.ne_of_lt (Nat.lt_of_lt_of_le (by have := World.block_lt_of_cell? _ _ hw6157_4; first | rwa [add_block] at this | exact this) GW6159.out) | (rw [add_block]; exact Nat.ne_of_lt (Nat.lt_of_lt_of_le (by have := World.block_lt_of_cell? _ _ hw6157_4; first | rwa [add_block] at this | exact this) GW6159.out)) | (show (Addr.add _ _).block ≠ _; rw [add_block]; exact Nat.ne_of_lt (Nat.lt_of_lt_of_le (by have := World.block_lt_of_cell? _ _ hw6157_4; first | rwa [add_block] at this | exact this) GW6159.out)) | (dsimp only; exact Nat.ne_of_lt (Nat.lt_of_lt_of_le (by have := World.block_lt_of_cell? _ _ hw6157_4; first | rwa [add_block] at this | exact this) GW6159.out))) _).trans (((cell_far (p := ⟨gb6159, _, none⟩) (by first | exact Nat.ne_of_lt (Nat.lt_of_lt_of_le (by have := World.block_lt_of_cell? _ _ hw6157_4; first | rwa [add_block] at this | exact this) GW6159.out) | (rw [add_block]; exact Nat.ne_of_lt (Nat.lt_of_lt_of_le (by have := World.block_lt_of_cell? _ _ hw6157_4; first | rwa [add_block] at this | exact this) GW6159.out)) | (show (Addr.add _ _).block ≠ _; rw [add_block]; exact Nat.ne_of_lt (Nat.lt_of_lt_of_le (by have := World.block_lt_of_cell? _ _ hw6157_4; first | rwa [add_block] at this | exact this) GW6159.out)) | (dsimp only; exact Nat.ne_of_lt (Nat.lt_of_lt_of_le (by have := World.block_lt_of_cell? _ _ hw6157_4; first | rwa [add_block] at this | exact this) GW6159.out))) _).trans (((cell_far (p := ⟨gb6159, _, none⟩) (by first | exact Nat.ne_of_lt (Nat.lt_of_lt_of_le (by have := World.block_lt_of_cell? _ _ hw6157_4; first | rwa [add_block] at this | exact this) GW6159.out) | (rw [add_block]; exact Nat.ne_of_lt (Nat.lt_of_lt_of_le (by have := World.block_lt_of_cell? _ _ hw6157_4; first | rwa [add_block] at this | exact this) GW6159.out)) | (show (Addr.add _ _).block ≠ _; rw [add_block]; exact Nat.ne_of_lt (Nat.lt_of_lt_of_le (by have := World.block_lt_of_cell? _ _ hw6157_4; first | rwa [add_block] at this | exact this) GW6159.out)) | (dsimp only; exact Nat.ne_of_lt (Nat.lt_of_lt_of_le (by have := World.block_lt_of_cell? _ _ hw6157_4; first | rwa [add_block] at this | exact this) GW6159.out))) _).trans (((cell_far (p := ⟨gb6159, _, none⟩) (by first | exact Nat.ne_of_lt (Nat.lt_of_lt_of_le (by have := World.block_lt_of_cell? _ _ hw6157_4; first | rwa [add_block] at this | exact this) GW6159.out) | (rw [add_block]; exact Nat.ne_of_lt (Nat.lt_of_lt_of_le (by have := World.block_lt_of_cell? _ _ hw6157_4; first | rwa [add_block] at this | exact this) GW6159.out)) | (show (Addr.add _ _).block ≠ _; rw [add_block]; exact Nat.ne_of_lt (Nat.lt_of_lt_of_le (by have := World.block_lt_of_cell? _ _ hw6157_4; first | rwa [add_block] at this | exact this) GW6159.out)) | (dsimp only; exact Nat.ne_of_lt (Nat.lt_of_lt_of_le (by have := World.block_lt_of_cell? _ _ hw6157_4; first | rwa [add_block] at this | exact this) GW6159.out))) _).trans (hHeld.2.2.2.2.2.2.2.2.2))))))))))⟩ (fun hHeld => ?_)
                clear hK K
                refine done_ (done_of HT_.out (by kernel_rfl)) ?_
                go_upto_region 7 with (fail)
                go_cut [59] (fun v59 wc => ∃ (kq : Nat) (x59_8 : Bool), v59 = .bool x59_8 ∧ Aside0 (impl_coreAlpha.j1 kq l0 l1 l2 (l0.length : Int) x19_1 x59_8 ((rd_T51 l0 x19_1).f0) ((rd_T51 l0 x19_1).f1) ((rd_T51 l0 x19_1).f2) ((rd_T51 l0 x19_1).f3) ((rd_T51 l0 x19_1).f4) ((rd_T51 l1 x19_1).f0) ((rd_T51 l1 x19_1).f1) ((rd_T51 l1 x19_1).f2) ((rd_T51 l1 x19_1).f3) ((rd_T51 l1 x19_1).f4) = some r) ∧ Aside0 (kq ≤ k1) ∧ Aside0 (wc.heap[gb6158]? = some (.cells #[.int .i64 ((rd_T51 l0 x19_1).f0), .string ((rd_T51 l0 x19_1).f1), .bool ((rd_T51 l0 x19_1).f2), (.slice A6156_3 ((rd_T51 l0 x19_1).f3).length c6156_3), (.slice A6156_4 ((rd_T51 l0 x19_1).f4).length c6156_4)] 51 (0, 0))) ∧ Aside0 (wc.heap[gb6159]? = some (.cells #[.int .i64 ((rd_T51 l1 x19_1).f0), .string ((rd_T51 l1 x19_1).f1), .bool ((rd_T51 l1 x19_1).f2), (.slice A6157_3 ((rd_T51 l1 x19_1).f3).length c6157_3), (.slice A6157_4 ((rd_T51 l1 x19_1).f4).length c6157_4)] 51 (0, 0))) ∧ Aside0 (Below w.heap.size w wc))
                case first =>
                  have H := HC9.out
                  clear HC9
                  by_cases c24 : ((rd_T51 l0 x19_1).f0) = ((rd_T51 l1 x19_1).f0)
                  · rw [if_pos c24] at H
                    have c24b0 : (((rd_T51 l0 x19_1).f0) == ((rd_T51 l1 x19_1).f0)) = true := beq_iff_eq.mpr c24
                    have c24b1 : (((rd_T51 l0 x19_1).f0) != ((rd_T51 l1 x19_1).f0)) = false := bne_eq_false_iff_eq.mpr c24
                    clear c24
                    (first | rw [c24b0] | (simp only [i64_w, i32_w]; rw [c24b0]) | skip)
                    by_cases c25 : (((rd_T51 l0 x19_1).f2) != ((rd_T51 l1 x19_1).f2)) = true
                    · rw [if_pos c25] at H
                      have c25b0 : (((rd_T51 l0 x19_1).f2) != ((rd_T51 l1 x19_1).f2)) = true := c25
                      (try (have c25b1 : decide (((rd_T51 l0 x19_1).f2) = ((rd_T51 l1 x19_1).f2)) = false := by simpa using c25))
                      (try (have c25b2 : (((rd_T51 l0 x19_1).f2) == ((rd_T51 l1 x19_1).f2)) = false := by simpa using c25))
                      (try (have c25b3 : ¬ (((rd_T51 l0 x19_1).f2) = ((rd_T51 l1 x19_1).f2)) := by simpa using c25))
                      clear c25
                      have H' := Aside0.mk H
                      clear H
                      have hnb26 := NB6158_6159.out
                      have hnc26 := NB6159_6158.out
                      have hcz27_0 : w13.cell? ⟨gb6158, 0, none⟩ = some (.int .i64 0) := (blk_cell BK6158.out 0).trans rfl
                      have hcz27_1 : w13.cell? ⟨gb6158, 1, none⟩ = some (.string (⟨#[]⟩ : ByteArray)) := (blk_cell BK6158.out 1).trans rfl
                      have hcz27_2 : w13.cell? ⟨gb6158, 2, none⟩ = some (.bool false) := (blk_cell BK6158.out 2).trans rfl
                      have hcz27_3 : w13.cell? ⟨gb6158, 3, none⟩ = some (.slice none 0 0) := (blk_cell BK6158.out 3).trans rfl
                      have hcz27_4 : w13.cell? ⟨gb6158, 4, none⟩ = some (.slice none 0 0) := (blk_cell BK6158.out 4).trans rfl
                      have hfz27_0 := blk_frozen BK6158.out 0
                      have hfz27_1 := blk_frozen BK6158.out 1
                      have hfz27_2 := blk_frozen BK6158.out 2
                      have hfz27_3 := blk_frozen BK6158.out 3
                      have hfz27_4 := blk_frozen BK6158.out 4
                      have hcz28_0 : w13.cell? ⟨gb6159, 0, none⟩ = some (.int .i64 0) := (blk_cell BK6159.out 0).trans rfl
                      have hcz28_1 : w13.cell? ⟨gb6159, 1, none⟩ = some (.string (⟨#[]⟩ : ByteArray)) := (blk_cell BK6159.out 1).trans rfl
                      have hcz28_2 : w13.cell? ⟨gb6159, 2, none⟩ = some (.bool false) := (blk_cell BK6159.out 2).trans rfl
                      have hcz28_3 : w13.cell? ⟨gb6159, 3, none⟩ = some (.slice none 0 0) := (blk_cell BK6159.out 3).trans rfl
                      have hcz28_4 : w13.cell? ⟨gb6159, 4, none⟩ = some (.slice none 0 0) := (blk_cell BK6159.out 4).trans rfl
                      have hfz28_0 := blk_frozen BK6159.out 0
                      have hfz28_1 := blk_frozen BK6159.out 1
                      have hfz28_2 := blk_frozen BK6159.out 2
                      have hfz28_3 := blk_frozen BK6159.out 3
                      have hfz28_4 := blk_frozen BK6159.out 4
                      go_wp2
                      go_meet
                      case rel => exact ⟨_, (true), (by first | rfl | (simp; done) | (simp [*]; done)), H', ⟨by have := HK1.out; first | omega | exact Nat.le_refl _⟩, ⟨by (with_reducible repeat (first | refine blk_drewN ?_ _ | refine blk_drew ?_ | refine blk_alloc ?_ _)); refine blk_far ?_ NB6158_6159.out _; (with_reducible repeat (first | refine blk_drewN ?_ _ | refine blk_drew ?_ | refine blk_alloc ?_ _)); refine blk_far ?_ NB6158_6159.out _; (with_reducible repeat (first | refine blk_drewN ?_ _ | refine blk_drew ?_ | refine blk_alloc ?_ _)); refine blk_far ?_ NB6158_6159.out _; (with_reducible repeat (first | refine blk_drewN ?_ _ | refine blk_drew ?_ | refine blk_alloc ?_ _)); refine blk_far ?_ NB6158_6159.out _; (with_reducible repeat (first | refine blk_drewN ?_ _ | refine blk_drew ?_ | refine blk_alloc ?_ _)); refine blk_far ?_ NB6158_6159.out _; (with_reducible repeat (first | refine blk_drewN ?_ _ | refine blk_drew ?_ | refine blk_alloc ?_ _)); refine blk_put (cs := #[.int .i64 ((rd_T51 l0 x19_1).f0), .string ((rd_T51 l0 x19_1).f1), .bool ((rd_T51 l0 x19_1).f2), .slice A6156_3 ((rd_T51 l0 x19_1).f3).length c6156_3, .slice none 0 0]) ?_ 4 _ rfl; (with_reducible repeat (first | refine blk_drewN ?_ _ | refine blk_drew ?_ | refine blk_alloc ?_ _)); refine blk_put (cs := #[.int .i64 ((rd_T51 l0 x19_1).f0), .string ((rd_T51 l0 x19_1).f1), .bool ((rd_T51 l0 x19_1).f2), .slice none 0 0, .slice none 0 0]) ?_ 3 _ rfl; (with_reducible repeat (first | refine blk_drewN ?_ _ | refine blk_drew ?_ | refine blk_alloc ?_ _)); refine blk_put (cs := #[.int .i64 ((rd_T51 l0 x19_1).f0), .string ((rd_T51 l0 x19_1).f1), .bool false, .slice none 0 0, .slice none 0 0]) ?_ 2 _ rfl; (with_reducible repeat (first | refine blk_drewN ?_ _ | refine blk_drew ?_ | refine blk_alloc ?_ _)); refine blk_put (cs := #[.int .i64 ((rd_T51 l0 x19_1).f0), .string (⟨#[]⟩ : ByteArray), .bool false, .slice none 0 0, .slice none 0 0]) ?_ 1 _ rfl; (with_reducible repeat (first | refine blk_drewN ?_ _ | refine blk_drew ?_ | refine blk_alloc ?_ _)); refine blk_put (cs := #[.int .i64 0, .string (⟨#[]⟩ : ByteArray), .bool false, .slice none 0 0, .slice none 0 0]) ?_ 0 _ rfl; (with_reducible repeat (first | refine blk_drewN ?_ _ | refine blk_drew ?_ | refine blk_alloc ?_ _)); exact BK6158.out⟩, ⟨by (with_reducible repeat (first | refine blk_drewN ?_ _ | refine blk_drew ?_ | refine blk_alloc ?_ _)); refine blk_put (cs := #[.int .i64 ((rd_T51 l1 x19_1).f0), .string ((rd_T51 l1 x19_1).f1), .bool ((rd_T51 l1 x19_1).f2), .slice A6157_3 ((rd_T51 l1 x19_1).f3).length c6157_3, .slice none 0 0]) ?_ 4 _ rfl; (with_reducible repeat (first | refine blk_drewN ?_ _ | refine blk_drew ?_ | refine blk_alloc ?_ _)); refine blk_put (cs := #[.int .i64 ((rd_T51 l1 x19_1).f0), .string ((rd_T51 l1 x19_1).f1), .bool ((rd_T51 l1 x19_1).f2), .slice none 0 0, .slice none 0 0]) ?_ 3 _ rfl; (with_reducible repeat (first | refine blk_drewN ?_ _ | refine blk_drew ?_ | refine blk_alloc ?_ _)); refine blk_put (cs := #[.int .i64 ((rd_T51 l1 x19_1).f0), .string ((rd_T51 l1 x19_1).f1), .bool false, .slice none 0 0, .slice none 0 0]) ?_ 2 _ rfl; (with_reducible repeat (first | refine blk_drewN ?_ _ | refine blk_drew ?_ | refine blk_alloc ?_ _)); refine blk_put (cs := #[.int .i64 ((rd_T51 l1 x19_1).f0), .string (⟨#[]⟩ : ByteArray), .bool false, .slice none 0 0, .slice none 0 0]) ?_ 1 _ rfl; (with_reducible repeat (first | refine blk_drewN ?_ _ | refine blk_drew ?_ | refine blk_alloc ?_ _)); refine blk_put (cs := #[.int .i64 0, .string (⟨#[]⟩ : ByteArray), .bool false, .slice none 0 0, .slice none 0 0]) ?_ 0 _ rfl; (with_reducible repeat (first | refine blk_drewN ?_ _ | refine blk_drew ?_ | refine blk_alloc ?_ _)); refine blk_far ?_ NB6159_6158.out _; (with_reducible repeat (first | refine blk_drewN ?_ _ | refine blk_drew ?_ | refine blk_alloc ?_ _)); refine blk_far ?_ NB6159_6158.out _; (with_reducible repeat (first | refine blk_drewN ?_ _ | refine blk_drew ?_ | refine blk_alloc ?_ _)); refine blk_far ?_ NB6159_6158.out _; (with_reducible repeat (first | refine blk_drewN ?_ _ | refine blk_drew ?_ | refine blk_alloc ?_ _)); refine blk_far ?_ NB6159_6158.out _; (with_reducible repeat (first | refine blk_drewN ?_ _ | refine blk_drew ?_ | refine blk_alloc ?_ _)); refine blk_far ?_ NB6159_6158.out _; (with_reducible repeat (first | refine blk_drewN ?_ _ | refine blk_drew ?_ | refine blk_alloc ?_ _)); exact BK6159.out⟩, ⟨by repeat (first | (with_reducible first | exact HB.out | apply below_alloc | apply pw_below_drewN | apply below_drew1 | refine below_set ?_ GE6158.out | refine below_set ?_ GE6159.out) | exact HB.out)⟩⟩
                    · rw [if_neg c25] at H
                      have c25b0 : (((rd_T51 l0 x19_1).f2) != ((rd_T51 l1 x19_1).f2)) = false := by simpa using c25
                      (try (have c25b1 : decide (((rd_T51 l0 x19_1).f2) = ((rd_T51 l1 x19_1).f2)) = true := by simpa using c25))
                      (try (have c25b2 : (((rd_T51 l0 x19_1).f2) == ((rd_T51 l1 x19_1).f2)) = true := by simpa using c25))
                      clear c25
                      by_cases c29 : (((rd_T51 l0 x19_1).f3).length : Int) = (((rd_T51 l1 x19_1).f3).length : Int)
                      · rw [if_pos c29] at H
                        have c29b0 : ((((rd_T51 l0 x19_1).f3).length : Int) == (((rd_T51 l1 x19_1).f3).length : Int)) = true := beq_iff_eq.mpr c29
                        have c29b1 : ((((rd_T51 l0 x19_1).f3).length : Int) != (((rd_T51 l1 x19_1).f3).length : Int)) = false := bne_eq_false_iff_eq.mpr c29
                        have c29b2 : (((rd_T51 l0 x19_1).f3).length == ((rd_T51 l1 x19_1).f3).length) = true := by first | simpa using c29 | (simp at c29 ⊢; omega)
                        clear c29
                        have H' := Aside0.mk H
                        clear H
                        have hnb30 := NB6158_6159.out
                        have hnc30 := NB6159_6158.out
                        have hcz31_0 : w13.cell? ⟨gb6158, 0, none⟩ = some (.int .i64 0) := (blk_cell BK6158.out 0).trans rfl
                        have hcz31_1 : w13.cell? ⟨gb6158, 1, none⟩ = some (.string (⟨#[]⟩ : ByteArray)) := (blk_cell BK6158.out 1).trans rfl
                        have hcz31_2 : w13.cell? ⟨gb6158, 2, none⟩ = some (.bool false) := (blk_cell BK6158.out 2).trans rfl
                        have hcz31_3 : w13.cell? ⟨gb6158, 3, none⟩ = some (.slice none 0 0) := (blk_cell BK6158.out 3).trans rfl
                        have hcz31_4 : w13.cell? ⟨gb6158, 4, none⟩ = some (.slice none 0 0) := (blk_cell BK6158.out 4).trans rfl
                        have hfz31_0 := blk_frozen BK6158.out 0
                        have hfz31_1 := blk_frozen BK6158.out 1
                        have hfz31_2 := blk_frozen BK6158.out 2
                        have hfz31_3 := blk_frozen BK6158.out 3
                        have hfz31_4 := blk_frozen BK6158.out 4
                        have hcz32_0 : w13.cell? ⟨gb6159, 0, none⟩ = some (.int .i64 0) := (blk_cell BK6159.out 0).trans rfl
                        have hcz32_1 : w13.cell? ⟨gb6159, 1, none⟩ = some (.string (⟨#[]⟩ : ByteArray)) := (blk_cell BK6159.out 1).trans rfl
                        have hcz32_2 : w13.cell? ⟨gb6159, 2, none⟩ = some (.bool false) := (blk_cell BK6159.out 2).trans rfl
                        have hcz32_3 : w13.cell? ⟨gb6159, 3, none⟩ = some (.slice none 0 0) := (blk_cell BK6159.out 3).trans rfl
                        have hcz32_4 : w13.cell? ⟨gb6159, 4, none⟩ = some (.slice none 0 0) := (blk_cell BK6159.out 4).trans rfl
                        have hfz32_0 := blk_frozen BK6159.out 0
                        have hfz32_1 := blk_frozen BK6159.out 1
                        have hfz32_2 := blk_frozen BK6159.out 2
                        have hfz32_3 := blk_frozen BK6159.out 3
                        have hfz32_4 := blk_frozen BK6159.out 4
                        go_wp2
                        go_meet
                        case rel => exact ⟨_, (((((rd_T51 l0 x19_1).f4).length : Int) != (((rd_T51 l1 x19_1).f4).length : Int))), (by first | rfl | (simp; done) | (simp [*]; done)), H', ⟨by have := HK1.out; first | omega | exact Nat.le_refl _⟩, ⟨by (with_reducible repeat (first | refine blk_drewN ?_ _ | refine blk_drew ?_ | refine blk_alloc ?_ _)); refine blk_far ?_ NB6158_6159.out _; (with_reducible repeat (first | refine blk_drewN ?_ _ | refine blk_drew ?_ | refine blk_alloc ?_ _)); refine blk_far ?_ NB6158_6159.out _; (with_reducible repeat (first | refine blk_drewN ?_ _ | refine blk_drew ?_ | refine blk_alloc ?_ _)); refine blk_far ?_ NB6158_6159.out _; (with_reducible repeat (first | refine blk_drewN ?_ _ | refine blk_drew ?_ | refine blk_alloc ?_ _)); refine blk_far ?_ NB6158_6159.out _; (with_reducible repeat (first | refine blk_drewN ?_ _ | refine blk_drew ?_ | refine blk_alloc ?_ _)); refine blk_far ?_ NB6158_6159.out _; (with_reducible repeat (first | refine blk_drewN ?_ _ | refine blk_drew ?_ | refine blk_alloc ?_ _)); refine blk_put (cs := #[.int .i64 ((rd_T51 l0 x19_1).f0), .string ((rd_T51 l0 x19_1).f1), .bool ((rd_T51 l0 x19_1).f2), .slice A6156_3 ((rd_T51 l0 x19_1).f3).length c6156_3, .slice none 0 0]) ?_ 4 _ rfl; (with_reducible repeat (first | refine blk_drewN ?_ _ | refine blk_drew ?_ | refine blk_alloc ?_ _)); refine blk_put (cs := #[.int .i64 ((rd_T51 l0 x19_1).f0), .string ((rd_T51 l0 x19_1).f1), .bool ((rd_T51 l0 x19_1).f2), .slice none 0 0, .slice none 0 0]) ?_ 3 _ rfl; (with_reducible repeat (first | refine blk_drewN ?_ _ | refine blk_drew ?_ | refine blk_alloc ?_ _)); refine blk_put (cs := #[.int .i64 ((rd_T51 l0 x19_1).f0), .string ((rd_T51 l0 x19_1).f1), .bool false, .slice none 0 0, .slice none 0 0]) ?_ 2 _ rfl; (with_reducible repeat (first | refine blk_drewN ?_ _ | refine blk_drew ?_ | refine blk_alloc ?_ _)); refine blk_put (cs := #[.int .i64 ((rd_T51 l0 x19_1).f0), .string (⟨#[]⟩ : ByteArray), .bool false, .slice none 0 0, .slice none 0 0]) ?_ 1 _ rfl; (with_reducible repeat (first | refine blk_drewN ?_ _ | refine blk_drew ?_ | refine blk_alloc ?_ _)); refine blk_put (cs := #[.int .i64 0, .string (⟨#[]⟩ : ByteArray), .bool false, .slice none 0 0, .slice none 0 0]) ?_ 0 _ rfl; (with_reducible repeat (first | refine blk_drewN ?_ _ | refine blk_drew ?_ | refine blk_alloc ?_ _)); exact BK6158.out⟩, ⟨by (with_reducible repeat (first | refine blk_drewN ?_ _ | refine blk_drew ?_ | refine blk_alloc ?_ _)); refine blk_put (cs := #[.int .i64 ((rd_T51 l1 x19_1).f0), .string ((rd_T51 l1 x19_1).f1), .bool ((rd_T51 l1 x19_1).f2), .slice A6157_3 ((rd_T51 l1 x19_1).f3).length c6157_3, .slice none 0 0]) ?_ 4 _ rfl; (with_reducible repeat (first | refine blk_drewN ?_ _ | refine blk_drew ?_ | refine blk_alloc ?_ _)); refine blk_put (cs := #[.int .i64 ((rd_T51 l1 x19_1).f0), .string ((rd_T51 l1 x19_1).f1), .bool ((rd_T51 l1 x19_1).f2), .slice none 0 0, .slice none 0 0]) ?_ 3 _ rfl; (with_reducible repeat (first | refine blk_drewN ?_ _ | refine blk_drew ?_ | refine blk_alloc ?_ _)); refine blk_put (cs := #[.int .i64 ((rd_T51 l1 x19_1).f0), .string ((rd_T51 l1 x19_1).f1), .bool false, .slice none 0 0, .slice none 0 0]) ?_ 2 _ rfl; (with_reducible repeat (first | refine blk_drewN ?_ _ | refine blk_drew ?_ | refine blk_alloc ?_ _)); refine blk_put (cs := #[.int .i64 ((rd_T51 l1 x19_1).f0), .string (⟨#[]⟩ : ByteArray), .bool false, .slice none 0 0, .slice none 0 0]) ?_ 1 _ rfl; (with_reducible repeat (first | refine blk_drewN ?_ _ | refine blk_drew ?_ | refine blk_alloc ?_ _)); refine blk_put (cs := #[.int .i64 0, .string (⟨#[]⟩ : ByteArray), .bool false, .slice none 0 0, .slice none 0 0]) ?_ 0 _ rfl; (with_reducible repeat (first | refine blk_drewN ?_ _ | refine blk_drew ?_ | refine blk_alloc ?_ _)); refine blk_far ?_ NB6159_6158.out _; (with_reducible repeat (first | refine blk_drewN ?_ _ | refine blk_drew ?_ | refine blk_alloc ?_ _)); refine blk_far ?_ NB6159_6158.out _; (with_reducible repeat (first | refine blk_drewN ?_ _ | refine blk_drew ?_ | refine blk_alloc ?_ _)); refine blk_far ?_ NB6159_6158.out _; (with_reducible repeat (first | refine blk_drewN ?_ _ | refine blk_drew ?_ | refine blk_alloc ?_ _)); refine blk_far ?_ NB6159_6158.out _; (with_reducible repeat (first | refine blk_drewN ?_ _ | refine blk_drew ?_ | refine blk_alloc ?_ _)); refine blk_far ?_ NB6159_6158.out _; (with_reducible repeat (first | refine blk_drewN ?_ _ | refine blk_drew ?_ | refine blk_alloc ?_ _)); exact BK6159.out⟩, ⟨by repeat (first | (with_reducible first | exact HB.out | apply below_alloc | apply pw_below_drewN | apply below_drew1 | refine below_set ?_ GE6158.out | refine below_set ?_ GE6159.out) | exact HB.out)⟩⟩
                      · rw [if_neg c29] at H
                        have c29b0 : ((((rd_T51 l0 x19_1).f3).length : Int) == (((rd_T51 l1 x19_1).f3).length : Int)) = false := beq_eq_false_iff_ne.mpr c29
                        have c29b1 : ((((rd_T51 l0 x19_1).f3).length : Int) != (((rd_T51 l1 x19_1).f3).length : Int)) = true := bne_iff_ne.mpr c29
                        have c29b2 : (((rd_T51 l0 x19_1).f3).length == ((rd_T51 l1 x19_1).f3).length) = false := by first | simpa using c29 | (simp at c29 ⊢; omega)
                        have H' := Aside0.mk H
                        clear H
                        have hnb33 := NB6158_6159.out
                        have hnc33 := NB6159_6158.out
                        have hcz34_0 : w13.cell? ⟨gb6158, 0, none⟩ = some (.int .i64 0) := (blk_cell BK6158.out 0).trans rfl
                        have hcz34_1 : w13.cell? ⟨gb6158, 1, none⟩ = some (.string (⟨#[]⟩ : ByteArray)) := (blk_cell BK6158.out 1).trans rfl
                        have hcz34_2 : w13.cell? ⟨gb6158, 2, none⟩ = some (.bool false) := (blk_cell BK6158.out 2).trans rfl
                        have hcz34_3 : w13.cell? ⟨gb6158, 3, none⟩ = some (.slice none 0 0) := (blk_cell BK6158.out 3).trans rfl
                        have hcz34_4 : w13.cell? ⟨gb6158, 4, none⟩ = some (.slice none 0 0) := (blk_cell BK6158.out 4).trans rfl
                        have hfz34_0 := blk_frozen BK6158.out 0
                        have hfz34_1 := blk_frozen BK6158.out 1
                        have hfz34_2 := blk_frozen BK6158.out 2
                        have hfz34_3 := blk_frozen BK6158.out 3
                        have hfz34_4 := blk_frozen BK6158.out 4
                        have hcz35_0 : w13.cell? ⟨gb6159, 0, none⟩ = some (.int .i64 0) := (blk_cell BK6159.out 0).trans rfl
                        have hcz35_1 : w13.cell? ⟨gb6159, 1, none⟩ = some (.string (⟨#[]⟩ : ByteArray)) := (blk_cell BK6159.out 1).trans rfl
                        have hcz35_2 : w13.cell? ⟨gb6159, 2, none⟩ = some (.bool false) := (blk_cell BK6159.out 2).trans rfl
                        have hcz35_3 : w13.cell? ⟨gb6159, 3, none⟩ = some (.slice none 0 0) := (blk_cell BK6159.out 3).trans rfl
                        have hcz35_4 : w13.cell? ⟨gb6159, 4, none⟩ = some (.slice none 0 0) := (blk_cell BK6159.out 4).trans rfl
                        have hfz35_0 := blk_frozen BK6159.out 0
                        have hfz35_1 := blk_frozen BK6159.out 1
                        have hfz35_2 := blk_frozen BK6159.out 2
                        have hfz35_3 := blk_frozen BK6159.out 3
                        have hfz35_4 := blk_frozen BK6159.out 4
                        go_wp2
                        go_meet
                        case rel => exact ⟨_, (true), (by first | rfl | (simp; done) | (simp [*]; done)), H', ⟨by have := HK1.out; first | omega | exact Nat.le_refl _⟩, ⟨by (with_reducible repeat (first | refine blk_drewN ?_ _ | refine blk_drew ?_ | refine blk_alloc ?_ _)); refine blk_far ?_ NB6158_6159.out _; (with_reducible repeat (first | refine blk_drewN ?_ _ | refine blk_drew ?_ | refine blk_alloc ?_ _)); refine blk_far ?_ NB6158_6159.out _; (with_reducible repeat (first | refine blk_drewN ?_ _ | refine blk_drew ?_ | refine blk_alloc ?_ _)); refine blk_far ?_ NB6158_6159.out _; (with_reducible repeat (first | refine blk_drewN ?_ _ | refine blk_drew ?_ | refine blk_alloc ?_ _)); refine blk_far ?_ NB6158_6159.out _; (with_reducible repeat (first | refine blk_drewN ?_ _ | refine blk_drew ?_ | refine blk_alloc ?_ _)); refine blk_far ?_ NB6158_6159.out _; (with_reducible repeat (first | refine blk_drewN ?_ _ | refine blk_drew ?_ | refine blk_alloc ?_ _)); refine blk_put (cs := #[.int .i64 ((rd_T51 l0 x19_1).f0), .string ((rd_T51 l0 x19_1).f1), .bool ((rd_T51 l0 x19_1).f2), .slice A6156_3 ((rd_T51 l0 x19_1).f3).length c6156_3, .slice none 0 0]) ?_ 4 _ rfl; (with_reducible repeat (first | refine blk_drewN ?_ _ | refine blk_drew ?_ | refine blk_alloc ?_ _)); refine blk_put (cs := #[.int .i64 ((rd_T51 l0 x19_1).f0), .string ((rd_T51 l0 x19_1).f1), .bool ((rd_T51 l0 x19_1).f2), .slice none 0 0, .slice none 0 0]) ?_ 3 _ rfl; (with_reducible repeat (first | refine blk_drewN ?_ _ | refine blk_drew ?_ | refine blk_alloc ?_ _)); refine blk_put (cs := #[.int .i64 ((rd_T51 l0 x19_1).f0), .string ((rd_T51 l0 x19_1).f1), .bool false, .slice none 0 0, .slice none 0 0]) ?_ 2 _ rfl; (with_reducible repeat (first | refine blk_drewN ?_ _ | refine blk_drew ?_ | refine blk_alloc ?_ _)); refine blk_put (cs := #[.int .i64 ((rd_T51 l0 x19_1).f0), .string (⟨#[]⟩ : ByteArray), .bool false, .slice none 0 0, .slice none 0 0]) ?_ 1 _ rfl; (with_reducible repeat (first | refine blk_drewN ?_ _ | refine blk_drew ?_ | refine blk_alloc ?_ _)); refine blk_put (cs := #[.int .i64 0, .string (⟨#[]⟩ : ByteArray), .bool false, .slice none 0 0, .slice none 0 0]) ?_ 0 _ rfl; (with_reducible repeat (first | refine blk_drewN ?_ _ | refine blk_drew ?_ | refine blk_alloc ?_ _)); exact BK6158.out⟩, ⟨by (with_reducible repeat (first | refine blk_drewN ?_ _ | refine blk_drew ?_ | refine blk_alloc ?_ _)); refine blk_put (cs := #[.int .i64 ((rd_T51 l1 x19_1).f0), .string ((rd_T51 l1 x19_1).f1), .bool ((rd_T51 l1 x19_1).f2), .slice A6157_3 ((rd_T51 l1 x19_1).f3).length c6157_3, .slice none 0 0]) ?_ 4 _ rfl; (with_reducible repeat (first | refine blk_drewN ?_ _ | refine blk_drew ?_ | refine blk_alloc ?_ _)); refine blk_put (cs := #[.int .i64 ((rd_T51 l1 x19_1).f0), .string ((rd_T51 l1 x19_1).f1), .bool ((rd_T51 l1 x19_1).f2), .slice none 0 0, .slice none 0 0]) ?_ 3 _ rfl; (with_reducible repeat (first | refine blk_drewN ?_ _ | refine blk_drew ?_ | refine blk_alloc ?_ _)); refine blk_put (cs := #[.int .i64 ((rd_T51 l1 x19_1).f0), .string ((rd_T51 l1 x19_1).f1), .bool false, .slice none 0 0, .slice none 0 0]) ?_ 2 _ rfl; (with_reducible repeat (first | refine blk_drewN ?_ _ | refine blk_drew ?_ | refine blk_alloc ?_ _)); refine blk_put (cs := #[.int .i64 ((rd_T51 l1 x19_1).f0), .string (⟨#[]⟩ : ByteArray), .bool false, .slice none 0 0, .slice none 0 0]) ?_ 1 _ rfl; (with_reducible repeat (first | refine blk_drewN ?_ _ | refine blk_drew ?_ | refine blk_alloc ?_ _)); refine blk_put (cs := #[.int .i64 0, .string (⟨#[]⟩ : ByteArray), .bool false, .slice none 0 0, .slice none 0 0]) ?_ 0 _ rfl; (with_reducible repeat (first | refine blk_drewN ?_ _ | refine blk_drew ?_ | refine blk_alloc ?_ _)); refine blk_far ?_ NB6159_6158.out _; (with_reducible repeat (first | refine blk_drewN ?_ _ | refine blk_drew ?_ | refine blk_alloc ?_ _)); refine blk_far ?_ NB6159_6158.out _; (with_reducible repeat (first | refine blk_drewN ?_ _ | refine blk_drew ?_ | refine blk_alloc ?_ _)); refine blk_far ?_ NB6159_6158.out _; (with_reducible repeat (first | refine blk_drewN ?_ _ | refine blk_drew ?_ | refine blk_alloc ?_ _)); refine blk_far ?_ NB6159_6158.out _; (with_reducible repeat (first | refine blk_drewN ?_ _ | refine blk_drew ?_ | refine blk_alloc ?_ _)); refine blk_far ?_ NB6159_6158.out _; (with_reducible repeat (first | refine blk_drewN ?_ _ | refine blk_drew ?_ | refine blk_alloc ?_ _)); exact BK6159.out⟩, ⟨by repeat (first | (with_reducible first | exact HB.out | apply below_alloc | apply pw_below_drewN | apply below_drew1 | refine below_set ?_ GE6158.out | refine below_set ?_ GE6159.out) | exact HB.out)⟩⟩
                  · rw [if_neg c24] at H
                    have c24b0 : (((rd_T51 l0 x19_1).f0) == ((rd_T51 l1 x19_1).f0)) = false := beq_eq_false_iff_ne.mpr c24
                    have c24b1 : (((rd_T51 l0 x19_1).f0) != ((rd_T51 l1 x19_1).f0)) = true := bne_iff_ne.mpr c24
                    (first | rw [c24b0] | (simp only [i64_w, i32_w]; rw [c24b0]) | skip)
                    have H' := Aside0.mk H
                    clear H
                    have hnb36 := NB6158_6159.out
                    have hnc36 := NB6159_6158.out
                    have hcz37_0 : w13.cell? ⟨gb6158, 0, none⟩ = some (.int .i64 0) := (blk_cell BK6158.out 0).trans rfl
                    have hcz37_1 : w13.cell? ⟨gb6158, 1, none⟩ = some (.string (⟨#[]⟩ : ByteArray)) := (blk_cell BK6158.out 1).trans rfl
                    have hcz37_2 : w13.cell? ⟨gb6158, 2, none⟩ = some (.bool false) := (blk_cell BK6158.out 2).trans rfl
                    have hcz37_3 : w13.cell? ⟨gb6158, 3, none⟩ = some (.slice none 0 0) := (blk_cell BK6158.out 3).trans rfl
                    have hcz37_4 : w13.cell? ⟨gb6158, 4, none⟩ = some (.slice none 0 0) := (blk_cell BK6158.out 4).trans rfl
                    have hfz37_0 := blk_frozen BK6158.out 0
                    have hfz37_1 := blk_frozen BK6158.out 1
                    have hfz37_2 := blk_frozen BK6158.out 2
                    have hfz37_3 := blk_frozen BK6158.out 3
                    have hfz37_4 := blk_frozen BK6158.out 4
                    have hcz38_0 : w13.cell? ⟨gb6159, 0, none⟩ = some (.int .i64 0) := (blk_cell BK6159.out 0).trans rfl
                    have hcz38_1 : w13.cell? ⟨gb6159, 1, none⟩ = some (.string (⟨#[]⟩ : ByteArray)) := (blk_cell BK6159.out 1).trans rfl
                    have hcz38_2 : w13.cell? ⟨gb6159, 2, none⟩ = some (.bool false) := (blk_cell BK6159.out 2).trans rfl
                    have hcz38_3 : w13.cell? ⟨gb6159, 3, none⟩ = some (.slice none 0 0) := (blk_cell BK6159.out 3).trans rfl
                    have hcz38_4 : w13.cell? ⟨gb6159, 4, none⟩ = some (.slice none 0 0) := (blk_cell BK6159.out 4).trans rfl
                    have hfz38_0 := blk_frozen BK6159.out 0
                    have hfz38_1 := blk_frozen BK6159.out 1
                    have hfz38_2 := blk_frozen BK6159.out 2
                    have hfz38_3 := blk_frozen BK6159.out 3
                    have hfz38_4 := blk_frozen BK6159.out 4
                    go_wp2
                    go_meet
                    case rel => exact ⟨_, (true), (by first | rfl | (simp; done) | (simp [*]; done)), H', ⟨by have := HK1.out; first | omega | exact Nat.le_refl _⟩, ⟨by (with_reducible repeat (first | refine blk_drewN ?_ _ | refine blk_drew ?_ | refine blk_alloc ?_ _)); refine blk_far ?_ NB6158_6159.out _; (with_reducible repeat (first | refine blk_drewN ?_ _ | refine blk_drew ?_ | refine blk_alloc ?_ _)); refine blk_far ?_ NB6158_6159.out _; (with_reducible repeat (first | refine blk_drewN ?_ _ | refine blk_drew ?_ | refine blk_alloc ?_ _)); refine blk_far ?_ NB6158_6159.out _; (with_reducible repeat (first | refine blk_drewN ?_ _ | refine blk_drew ?_ | refine blk_alloc ?_ _)); refine blk_far ?_ NB6158_6159.out _; (with_reducible repeat (first | refine blk_drewN ?_ _ | refine blk_drew ?_ | refine blk_alloc ?_ _)); refine blk_far ?_ NB6158_6159.out _; (with_reducible repeat (first | refine blk_drewN ?_ _ | refine blk_drew ?_ | refine blk_alloc ?_ _)); refine blk_put (cs := #[.int .i64 ((rd_T51 l0 x19_1).f0), .string ((rd_T51 l0 x19_1).f1), .bool ((rd_T51 l0 x19_1).f2), .slice A6156_3 ((rd_T51 l0 x19_1).f3).length c6156_3, .slice none 0 0]) ?_ 4 _ rfl; (with_reducible repeat (first | refine blk_drewN ?_ _ | refine blk_drew ?_ | refine blk_alloc ?_ _)); refine blk_put (cs := #[.int .i64 ((rd_T51 l0 x19_1).f0), .string ((rd_T51 l0 x19_1).f1), .bool ((rd_T51 l0 x19_1).f2), .slice none 0 0, .slice none 0 0]) ?_ 3 _ rfl; (with_reducible repeat (first | refine blk_drewN ?_ _ | refine blk_drew ?_ | refine blk_alloc ?_ _)); refine blk_put (cs := #[.int .i64 ((rd_T51 l0 x19_1).f0), .string ((rd_T51 l0 x19_1).f1), .bool false, .slice none 0 0, .slice none 0 0]) ?_ 2 _ rfl; (with_reducible repeat (first | refine blk_drewN ?_ _ | refine blk_drew ?_ | refine blk_alloc ?_ _)); refine blk_put (cs := #[.int .i64 ((rd_T51 l0 x19_1).f0), .string (⟨#[]⟩ : ByteArray), .bool false, .slice none 0 0, .slice none 0 0]) ?_ 1 _ rfl; (with_reducible repeat (first | refine blk_drewN ?_ _ | refine blk_drew ?_ | refine blk_alloc ?_ _)); refine blk_put (cs := #[.int .i64 0, .string (⟨#[]⟩ : ByteArray), .bool false, .slice none 0 0, .slice none 0 0]) ?_ 0 _ rfl; (with_reducible repeat (first | refine blk_drewN ?_ _ | refine blk_drew ?_ | refine blk_alloc ?_ _)); exact BK6158.out⟩, ⟨by (with_reducible repeat (first | refine blk_drewN ?_ _ | refine blk_drew ?_ | refine blk_alloc ?_ _)); refine blk_put (cs := #[.int .i64 ((rd_T51 l1 x19_1).f0), .string ((rd_T51 l1 x19_1).f1), .bool ((rd_T51 l1 x19_1).f2), .slice A6157_3 ((rd_T51 l1 x19_1).f3).length c6157_3, .slice none 0 0]) ?_ 4 _ rfl; (with_reducible repeat (first | refine blk_drewN ?_ _ | refine blk_drew ?_ | refine blk_alloc ?_ _)); refine blk_put (cs := #[.int .i64 ((rd_T51 l1 x19_1).f0), .string ((rd_T51 l1 x19_1).f1), .bool ((rd_T51 l1 x19_1).f2), .slice none 0 0, .slice none 0 0]) ?_ 3 _ rfl; (with_reducible repeat (first | refine blk_drewN ?_ _ | refine blk_drew ?_ | refine blk_alloc ?_ _)); refine blk_put (cs := #[.int .i64 ((rd_T51 l1 x19_1).f0), .string ((rd_T51 l1 x19_1).f1), .bool false, .slice none 0 0, .slice none 0 0]) ?_ 2 _ rfl; (with_reducible repeat (first | refine blk_drewN ?_ _ | refine blk_drew ?_ | refine blk_alloc ?_ _)); refine blk_put (cs := #[.int .i64 ((rd_T51 l1 x19_1).f0), .string (⟨#[]⟩ : ByteArray), .bool false, .slice none 0 0, .slice none 0 0]) ?_ 1 _ rfl; (with_reducible repeat (first | refine blk_drewN ?_ _ | refine blk_drew ?_ | refine blk_alloc ?_ _)); refine blk_put (cs := #[.int .i64 0, .string (⟨#[]⟩ : ByteArray), .bool false, .slice none 0 0, .slice none 0 0]) ?_ 0 _ rfl; (with_reducible repeat (first | refine blk_drewN ?_ _ | refine blk_drew ?_ | refine blk_alloc ?_ _)); refine blk_far ?_ NB6159_6158.out _; (with_reducible repeat (first | refine blk_drewN ?_ _ | refine blk_drew ?_ | refine blk_alloc ?_ _)); refine blk_far ?_ NB6159_6158.out _; (with_reducible repeat (first | refine blk_drewN ?_ _ | refine blk_drew ?_ | refine blk_alloc ?_ _)); refine blk_far ?_ NB6159_6158.out _; (with_reducible repeat (first | refine blk_drewN ?_ _ | refine blk_drew ?_ | refine blk_alloc ?_ _)); refine blk_far ?_ NB6159_6158.out _; (with_reducible repeat (first | refine blk_drewN ?_ _ | refine blk_drew ?_ | refine blk_alloc ?_ _)); refine blk_far ?_ NB6159_6158.out _; (with_reducible repeat (first | refine blk_drewN ?_ _ | refine blk_drew ?_ | refine blk_alloc ?_ _)); exact BK6159.out⟩, ⟨by repeat (first | (with_reducible first | exact HB.out | apply below_alloc | apply pw_below_drewN | apply below_drew1 | refine below_set ?_ GE6158.out | refine below_set ?_ GE6159.out) | exact HB.out)⟩⟩
                case rest =>
                  clear HC9
                  try clear c1
                  try clear c2
                  try clear p2
                  try clear c3
                  try clear c4
                  try clear c4b0
                  try clear c4b1
                  try clear c4b2
                  try clear c5
                  try clear c5b0
                  try clear c6
                  try clear c6b0
                  try clear p6
                  try clear q6
                  try clear hx6
                  try clear c7
                  try clear c7b0
                  try clear c8
                  try clear c8b0
                  try clear c24
                  try clear c24b0
                  try clear c24b1
                  try clear c25
                  try clear c25b0
                  try clear c25b1
                  try clear c25b2
                  try clear c26
                  try clear c29
                  try clear c29b0
                  try clear c29b1
                  try clear c29b2
                  try clear c30
                  try clear c33
                  try clear c36
                  try clear hcz27_0
                  try clear hcz27_1
                  try clear hcz27_2
                  try clear hcz27_3
                  try clear hcz27_4
                  try clear hcz28_0
                  try clear hcz28_1
                  try clear hcz28_2
                  try clear hcz28_3
                  try clear hcz28_4
                  try clear hcz31_0
                  try clear hcz31_1
                  try clear hcz31_2
                  try clear hcz31_3
                  try clear hcz31_4
                  try clear hcz32_0
                  try clear hcz32_1
                  try clear hcz32_2
                  try clear hcz32_3
                  try clear hcz32_4
                  try clear hcz34_0
                  try clear hcz34_1
                  try clear hcz34_2
                  try clear hcz34_3
                  try clear hcz34_4
                  try clear hcz35_0
                  try clear hcz35_1
                  try clear hcz35_2
                  try clear hcz35_3
                  try clear hcz35_4
                  try clear hcz37_0
                  try clear hcz37_1
                  try clear hcz37_2
                  try clear hcz37_3
                  try clear hcz37_4
                  try clear hcz38_0
                  try clear hcz38_1
                  try clear hcz38_2
                  try clear hcz38_3
                  try clear hcz38_4
                  try clear hfz27_0
                  try clear hfz27_1
                  try clear hfz27_2
                  try clear hfz27_3
                  try clear hfz27_4
                  try clear hfz28_0
                  try clear hfz28_1
                  try clear hfz28_2
                  try clear hfz28_3
                  try clear hfz28_4
                  try clear hfz31_0
                  try clear hfz31_1
                  try clear hfz31_2
                  try clear hfz31_3
                  try clear hfz31_4
                  try clear hfz32_0
                  try clear hfz32_1
                  try clear hfz32_2
                  try clear hfz32_3
                  try clear hfz32_4
                  try clear hfz34_0
                  try clear hfz34_1
                  try clear hfz34_2
                  try clear hfz34_3
                  try clear hfz34_4
                  try clear hfz35_0
                  try clear hfz35_1
                  try clear hfz35_2
                  try clear hfz35_3
                  try clear hfz35_4
                  try clear hfz37_0
                  try clear hfz37_1
                  try clear hfz37_2
                  try clear hfz37_3
                  try clear hfz37_4
                  try clear hfz38_0
                  try clear hfz38_1
                  try clear hfz38_2
                  try clear hfz38_3
                  try clear hfz38_4
                  try clear hx6156_0
                  try clear hx6156_1
                  try clear hx6156_2
                  try clear hx6156_3
                  try clear hx6156_4
                  try clear hx6157_0
                  try clear hx6157_1
                  try clear hx6157_2
                  try clear hx6157_3
                  try clear hx6157_4
                  try clear p2
                  try clear p6156
                  try clear p6157
                  try clear q6156
                  try clear q6157
                  obtain ⟨kq, x59_8, rfl, HA, HJ8, BK6158, BK6159, HB⟩ := hcut
                  cases kq with
                  | zero => exact absurd HA.out (by simp [impl_coreAlpha.j1])
                  | succ kj8 =>
                    have H := HA.out
                    clear HA
                    simp only [impl_coreAlpha.j1] at H
                    by_cases c39 : x59_8 = true
                    · subst c39
                      have H1 : (some false) = some r := by rw [if_pos rfl] at H; exact H
                      clear H
                      have H := H1
                      clear H1
                      obtain rfl := Option.some.inj H
                      go_wp2
                      go_ret
                      exact ⟨by first | rfl | (simp [errW_none, errW_some] <;> rfl) | (simp [*, errW_none, errW_some] <;> rfl), by repeat (first | (with_reducible first | exact HB.out | apply below_alloc | apply pw_below_drewN | apply below_drew1 | refine below_set ?_ GE6158.out | refine below_set ?_ GE6159.out) | exact HB.out)⟩
                    · replace c39 := Bool.eq_false_iff.mpr c39
                      subst c39
                      have H1 : (if ((rd_T51 l0 x19_1).f0) = 2 then (impl_coreAlpha.j2 kj8 l0 l1 l2 (l0.length : Int) x19_1 (((rd_T51 l0 x19_1).f0) == 2) ((rd_T51 l0 x19_1).f0) ((rd_T51 l0 x19_1).f1) ((rd_T51 l0 x19_1).f2) ((rd_T51 l0 x19_1).f3) ((rd_T51 l0 x19_1).f4) ((rd_T51 l1 x19_1).f0) ((rd_T51 l1 x19_1).f1) ((rd_T51 l1 x19_1).f2) ((rd_T51 l1 x19_1).f3) ((rd_T51 l1 x19_1).f4)) else (if ((rd_T51 l0 x19_1).f0) = 6 then (impl_coreAlpha.j2 kj8 l0 l1 l2 (l0.length : Int) x19_1 (((rd_T51 l0 x19_1).f0) == 6) ((rd_T51 l0 x19_1).f0) ((rd_T51 l0 x19_1).f1) ((rd_T51 l0 x19_1).f2) ((rd_T51 l0 x19_1).f3) ((rd_T51 l0 x19_1).f4) ((rd_T51 l1 x19_1).f0) ((rd_T51 l1 x19_1).f1) ((rd_T51 l1 x19_1).f2) ((rd_T51 l1 x19_1).f3) ((rd_T51 l1 x19_1).f4)) else (impl_coreAlpha.j2 kj8 l0 l1 l2 (l0.length : Int) x19_1 (((rd_T51 l0 x19_1).f0) == 9) ((rd_T51 l0 x19_1).f0) ((rd_T51 l0 x19_1).f1) ((rd_T51 l0 x19_1).f2) ((rd_T51 l0 x19_1).f3) ((rd_T51 l0 x19_1).f4) ((rd_T51 l1 x19_1).f0) ((rd_T51 l1 x19_1).f1) ((rd_T51 l1 x19_1).f2) ((rd_T51 l1 x19_1).f3) ((rd_T51 l1 x19_1).f4)))) = some r := by rw [if_neg (show ¬ (false = true) by decide)] at H; exact H
                      clear H
                      have H := H1
                      clear H1
                      have HC40 := Aside0.mk H
                      clear H
                      have hnb41 := NB6158_6159.out
                      have hnc41 := NB6159_6158.out
                      have hcz42_0 : wc.cell? ⟨gb6158, 0, none⟩ = some (.int .i64 ((rd_T51 l0 x19_1).f0)) := (blk_cell BK6158.out 0).trans rfl
                      have hcz42_1 : wc.cell? ⟨gb6158, 1, none⟩ = some (.string ((rd_T51 l0 x19_1).f1)) := (blk_cell BK6158.out 1).trans rfl
                      have hcz42_2 : wc.cell? ⟨gb6158, 2, none⟩ = some (.bool ((rd_T51 l0 x19_1).f2)) := (blk_cell BK6158.out 2).trans rfl
                      have hcz42_3 : wc.cell? ⟨gb6158, 3, none⟩ = some (.slice A6156_3 ((rd_T51 l0 x19_1).f3).length c6156_3) := (blk_cell BK6158.out 3).trans rfl
                      have hcz42_4 : wc.cell? ⟨gb6158, 4, none⟩ = some (.slice A6156_4 ((rd_T51 l0 x19_1).f4).length c6156_4) := (blk_cell BK6158.out 4).trans rfl
                      have hfz42_0 := blk_frozen BK6158.out 0
                      have hfz42_1 := blk_frozen BK6158.out 1
                      have hfz42_2 := blk_frozen BK6158.out 2
                      have hfz42_3 := blk_frozen BK6158.out 3
                      have hfz42_4 := blk_frozen BK6158.out 4
                      go_upto_block 2 with (fail)
                      go_cut [] (fun wc => ∃ (kq : Nat), Aside0 (impl_coreAlpha.j3 kq l0 l1 l2 (l0.length : Int) x19_1 ((rd_T51 l0 x19_1).f0) ((rd_T51 l0 x19_1).f1) ((rd_T51 l0 x19_1).f2) ((rd_T51 l0 x19_1).f3) ((rd_T51 l0 x19_1).f4) ((rd_T51 l1 x19_1).f0) ((rd_T51 l1 x19_1).f1) ((rd_T51 l1 x19_1).f2) ((rd_T51 l1 x19_1).f3) ((rd_T51 l1 x19_1).f4) = some r) ∧ Aside0 (kq ≤ kj8) ∧ Aside0 (wc.heap[gb6158]? = some (.cells #[.int .i64 ((rd_T51 l0 x19_1).f0), .string ((rd_T51 l0 x19_1).f1), .bool ((rd_T51 l0 x19_1).f2), (.slice A6156_3 ((rd_T51 l0 x19_1).f3).length c6156_3), (.slice A6156_4 ((rd_T51 l0 x19_1).f4).length c6156_4)] 51 (0, 0))) ∧ Aside0 (wc.heap[gb6159]? = some (.cells #[.int .i64 ((rd_T51 l1 x19_1).f0), .string ((rd_T51 l1 x19_1).f1), .bool ((rd_T51 l1 x19_1).f2), (.slice A6157_3 ((rd_T51 l1 x19_1).f3).length c6157_3), (.slice A6157_4 ((rd_T51 l1 x19_1).f4).length c6157_4)] 51 (0, 0))) ∧ Aside0 (Below w.heap.size w wc))
                      case first =>
                        have H := HC40.out
                        clear HC40
                        have HC43 := Aside0.mk H
                        clear H
                        go_upto_if 67 with (fail)
                        go_cut [67] (fun v67 wc => ∃ (kq : Nat) (x67_42 : Bool), v67 = .bool x67_42 ∧ Aside0 (impl_coreAlpha.j2 kq l0 l1 l2 (l0.length : Int) x19_1 x67_42 ((rd_T51 l0 x19_1).f0) ((rd_T51 l0 x19_1).f1) ((rd_T51 l0 x19_1).f2) ((rd_T51 l0 x19_1).f3) ((rd_T51 l0 x19_1).f4) ((rd_T51 l1 x19_1).f0) ((rd_T51 l1 x19_1).f1) ((rd_T51 l1 x19_1).f2) ((rd_T51 l1 x19_1).f3) ((rd_T51 l1 x19_1).f4) = some r) ∧ Aside0 (kq ≤ kj8) ∧ Aside0 (wc.heap[gb6158]? = some (.cells #[.int .i64 ((rd_T51 l0 x19_1).f0), .string ((rd_T51 l0 x19_1).f1), .bool ((rd_T51 l0 x19_1).f2), (.slice A6156_3 ((rd_T51 l0 x19_1).f3).length c6156_3), (.slice A6156_4 ((rd_T51 l0 x19_1).f4).length c6156_4)] 51 (0, 0))) ∧ Aside0 (wc.heap[gb6159]? = some (.cells #[.int .i64 ((rd_T51 l1 x19_1).f0), .string ((rd_T51 l1 x19_1).f1), .bool ((rd_T51 l1 x19_1).f2), (.slice A6157_3 ((rd_T51 l1 x19_1).f3).length c6157_3), (.slice A6157_4 ((rd_T51 l1 x19_1).f4).length c6157_4)] 51 (0, 0))) ∧ Aside0 (Below w.heap.size w wc))
                        case first =>
                          have H := HC43.out
                          clear HC43
                          by_cases c44 : ((rd_T51 l0 x19_1).f0) = 2
                          · rw [if_pos c44] at H
                            have c44b0 : (((rd_T51 l0 x19_1).f0) == 2) = true := beq_iff_eq.mpr c44
                            have c44b1 : (((rd_T51 l0 x19_1).f0) != 2) = false := bne_eq_false_iff_eq.mpr c44
                            clear c44
                            (first | rw [c44b0] | (simp only [i64_w, i32_w]; rw [c44b0]) | skip)
                            have H' := Aside0.mk H
                            clear H
                            go_wp2
                            go_meet
                            case rel => exact ⟨_, ((((rd_T51 l0 x19_1).f0) == 2)), (by first | rfl | (simp; done) | (simp [*]; done)), H', ⟨by have := HK1.out; have := HJ8.out; first | omega | exact Nat.le_refl _⟩, ⟨by (with_reducible repeat (first | refine blk_drewN ?_ _ | refine blk_drew ?_ | refine blk_alloc ?_ _)); exact BK6158.out⟩, ⟨by (with_reducible repeat (first | refine blk_drewN ?_ _ | refine blk_drew ?_ | refine blk_alloc ?_ _)); exact BK6159.out⟩, ⟨by repeat (first | (with_reducible first | exact HB.out | apply below_alloc | apply pw_below_drewN | apply below_drew1 | refine below_set ?_ GE6158.out | refine below_set ?_ GE6159.out) | exact HB.out)⟩⟩
                          · rw [if_neg c44] at H
                            have c44b0 : (((rd_T51 l0 x19_1).f0) == 2) = false := beq_eq_false_iff_ne.mpr c44
                            have c44b1 : (((rd_T51 l0 x19_1).f0) != 2) = true := bne_iff_ne.mpr c44
                            (first | rw [c44b0] | (simp only [i64_w, i32_w]; rw [c44b0]) | skip)
                            by_cases c45 : ((rd_T51 l0 x19_1).f0) = 6
                            · rw [if_pos c45] at H
                              have c45b0 : (((rd_T51 l0 x19_1).f0) == 6) = true := beq_iff_eq.mpr c45
                              have c45b1 : (((rd_T51 l0 x19_1).f0) != 6) = false := bne_eq_false_iff_eq.mpr c45
                              clear c45
                              have H' := Aside0.mk H
                              clear H
                              go_wp2
                              go_meet
                              case rel => exact ⟨_, ((((rd_T51 l0 x19_1).f0) == 6)), (by first | rfl | (simp; done) | (simp [*]; done)), H', ⟨by have := HK1.out; have := HJ8.out; first | omega | exact Nat.le_refl _⟩, ⟨by (with_reducible repeat (first | refine blk_drewN ?_ _ | refine blk_drew ?_ | refine blk_alloc ?_ _)); exact BK6158.out⟩, ⟨by (with_reducible repeat (first | refine blk_drewN ?_ _ | refine blk_drew ?_ | refine blk_alloc ?_ _)); exact BK6159.out⟩, ⟨by repeat (first | (with_reducible first | exact HB.out | apply below_alloc | apply pw_below_drewN | apply below_drew1 | refine below_set ?_ GE6158.out | refine below_set ?_ GE6159.out) | exact HB.out)⟩⟩
                            · rw [if_neg c45] at H
                              have c45b0 : (((rd_T51 l0 x19_1).f0) == 6) = false := beq_eq_false_iff_ne.mpr c45
                              have c45b1 : (((rd_T51 l0 x19_1).f0) != 6) = true := bne_iff_ne.mpr c45
                              have H' := Aside0.mk H
                              clear H
                              go_wp2
                              go_meet
                              case rel => exact ⟨_, ((((rd_T51 l0 x19_1).f0) == 9)), (by first | rfl | (simp; done) | (simp [*]; done)), H', ⟨by have := HK1.out; have := HJ8.out; first | omega | exact Nat.le_refl _⟩, ⟨by (with_reducible repeat (first | refine blk_drewN ?_ _ | refine blk_drew ?_ | refine blk_alloc ?_ _)); exact BK6158.out⟩, ⟨by (with_reducible repeat (first | refine blk_drewN ?_ _ | refine blk_drew ?_ | refine blk_alloc ?_ _)); exact BK6159.out⟩, ⟨by repeat (first | (with_reducible first | exact HB.out | apply below_alloc | apply pw_below_drewN | apply below_drew1 | refine below_set ?_ GE6158.out | refine below_set ?_ GE6159.out) | exact HB.out)⟩⟩
                        case rest =>
                          clear HC43
                          try clear c1
                          try clear c2
                          try clear p2
                          try clear c3
                          try clear c4
                          try clear c4b0
                          try clear c4b1
                          try clear c4b2
                          try clear c5
                          try clear c5b0
                          try clear c6
                          try clear c6b0
                          try clear p6
                          try clear q6
                          try clear hx6
                          try clear c7
                          try clear c7b0
                          try clear c8
                          try clear c8b0
                          try clear c24
                          try clear c24b0
                          try clear c24b1
                          try clear c25
                          try clear c25b0
                          try clear c25b1
                          try clear c25b2
                          try clear c26
                          try clear c29
                          try clear c29b0
                          try clear c29b1
                          try clear c29b2
                          try clear c30
                          try clear c33
                          try clear c36
                          try clear c39
                          try clear c41
                          try clear c44
                          try clear c44b0
                          try clear c44b1
                          try clear c45
                          try clear c45b0
                          try clear c45b1
                          try clear hcz27_0
                          try clear hcz27_1
                          try clear hcz27_2
                          try clear hcz27_3
                          try clear hcz27_4
                          try clear hcz28_0
                          try clear hcz28_1
                          try clear hcz28_2
                          try clear hcz28_3
                          try clear hcz28_4
                          try clear hcz31_0
                          try clear hcz31_1
                          try clear hcz31_2
                          try clear hcz31_3
                          try clear hcz31_4
                          try clear hcz32_0
                          try clear hcz32_1
                          try clear hcz32_2
                          try clear hcz32_3
                          try clear hcz32_4
                          try clear hcz34_0
                          try clear hcz34_1
                          try clear hcz34_2
                          try clear hcz34_3
                          try clear hcz34_4
                          try clear hcz35_0
                          try clear hcz35_1
                          try clear hcz35_2
                          try clear hcz35_3
                          try clear hcz35_4
                          try clear hcz37_0
                          try clear hcz37_1
                          try clear hcz37_2
                          try clear hcz37_3
                          try clear hcz37_4
                          try clear hcz38_0
                          try clear hcz38_1
                          try clear hcz38_2
                          try clear hcz38_3
                          try clear hcz38_4
                          try clear hcz42_0
                          try clear hcz42_1
                          try clear hcz42_2
                          try clear hcz42_3
                          try clear hcz42_4
                          try clear hfz27_0
                          try clear hfz27_1
                          try clear hfz27_2
                          try clear hfz27_3
                          try clear hfz27_4
                          try clear hfz28_0
                          try clear hfz28_1
                          try clear hfz28_2
                          try clear hfz28_3
                          try clear hfz28_4
                          try clear hfz31_0
                          try clear hfz31_1
                          try clear hfz31_2
                          try clear hfz31_3
                          try clear hfz31_4
                          try clear hfz32_0
                          try clear hfz32_1
                          try clear hfz32_2
                          try clear hfz32_3
                          try clear hfz32_4
                          try clear hfz34_0
                          try clear hfz34_1
                          try clear hfz34_2
                          try clear hfz34_3
                          try clear hfz34_4
                          try clear hfz35_0
                          try clear hfz35_1
                          try clear hfz35_2
                          try clear hfz35_3
                          try clear hfz35_4
                          try clear hfz37_0
                          try clear hfz37_1
                          try clear hfz37_2
                          try clear hfz37_3
                          try clear hfz37_4
                          try clear hfz38_0
                          try clear hfz38_1
                          try clear hfz38_2
                          try clear hfz38_3
                          try clear hfz38_4
                          try clear hfz42_0
                          try clear hfz42_1
                          try clear hfz42_2
                          try clear hfz42_3
                          try clear hfz42_4
                          try clear hx6156_0
                          try clear hx6156_1
                          try clear hx6156_2
                          try clear hx6156_3
                          try clear hx6156_4
                          try clear hx6157_0
                          try clear hx6157_1
                          try clear hx6157_2
                          try clear hx6157_3
                          try clear hx6157_4
                          try clear p2
                          try clear p6
                          try clear p6156
                          try clear p6157
                          try clear q6
                          try clear q6156
                          try clear q6157
                          obtain ⟨kq, x67_42, rfl, HA, HJ42, BK6158, BK6159, HB⟩ := hcut
                          cases kq with
                          | zero => exact absurd HA.out (by simp [impl_coreAlpha.j2])
                          | succ kj42 =>
                            have H := HA.out
                            clear HA
                            simp only [impl_coreAlpha.j2] at H
                            by_cases c46 : x67_42 = true
                            · subst c46
                              have H1 : ((impl_coreStands.f kj42 l2 ((rd_T51 l0 x19_1).f1) ((rd_T51 l1 x19_1).f1)).bind fun t6160 => (if t6160 = true then (impl_coreAlpha.j3 kj42 l0 l1 l2 (l0.length : Int) x19_1 ((rd_T51 l0 x19_1).f0) ((rd_T51 l0 x19_1).f1) ((rd_T51 l0 x19_1).f2) ((rd_T51 l0 x19_1).f3) ((rd_T51 l0 x19_1).f4) ((rd_T51 l1 x19_1).f0) ((rd_T51 l1 x19_1).f1) ((rd_T51 l1 x19_1).f2) ((rd_T51 l1 x19_1).f3) ((rd_T51 l1 x19_1).f4)) else (some false))) = some r := by rw [if_pos rfl] at H; exact H
                              clear H
                              have H := H1
                              clear H1
                              replace H := Option.bind_eq_some_iff.mp H
                              obtain ⟨t6160, A470, H⟩ := H
                              replace H : (if t6160 = true then (impl_coreAlpha.j3 kj42 l0 l1 l2 (l0.length : Int) x19_1 ((rd_T51 l0 x19_1).f0) ((rd_T51 l0 x19_1).f1) ((rd_T51 l0 x19_1).f2) ((rd_T51 l0 x19_1).f3) ((rd_T51 l0 x19_1).f4) ((rd_T51 l1 x19_1).f0) ((rd_T51 l1 x19_1).f1) ((rd_T51 l1 x19_1).f2) ((rd_T51 l1 x19_1).f3) ((rd_T51 l1 x19_1).f4)) else (some false)) = some r := H
                              have A47 := Aside0.mk A470
                              clear A470
                              by_cases c48 : t6160 = true
                              · subst c48
                                have H1 : (impl_coreAlpha.j3 kj42 l0 l1 l2 (l0.length : Int) x19_1 ((rd_T51 l0 x19_1).f0) ((rd_T51 l0 x19_1).f1) ((rd_T51 l0 x19_1).f2) ((rd_T51 l0 x19_1).f3) ((rd_T51 l0 x19_1).f4) ((rd_T51 l1 x19_1).f0) ((rd_T51 l1 x19_1).f1) ((rd_T51 l1 x19_1).f2) ((rd_T51 l1 x19_1).f3) ((rd_T51 l1 x19_1).f4)) = some r := by rw [if_pos rfl] at H; exact H
                                clear H
                                have H := H1
                                clear H1
                                have H' := Aside0.mk H
                                clear H
                                have hnb49 := NB6158_6159.out
                                have hnc49 := NB6159_6158.out
                                have hcz50_0 : wc.cell? ⟨gb6158, 0, none⟩ = some (.int .i64 ((rd_T51 l0 x19_1).f0)) := (blk_cell BK6158.out 0).trans rfl
                                have hcz50_1 : wc.cell? ⟨gb6158, 1, none⟩ = some (.string ((rd_T51 l0 x19_1).f1)) := (blk_cell BK6158.out 1).trans rfl
                                have hcz50_2 : wc.cell? ⟨gb6158, 2, none⟩ = some (.bool ((rd_T51 l0 x19_1).f2)) := (blk_cell BK6158.out 2).trans rfl
                                have hcz50_3 : wc.cell? ⟨gb6158, 3, none⟩ = some (.slice A6156_3 ((rd_T51 l0 x19_1).f3).length c6156_3) := (blk_cell BK6158.out 3).trans rfl
                                have hcz50_4 : wc.cell? ⟨gb6158, 4, none⟩ = some (.slice A6156_4 ((rd_T51 l0 x19_1).f4).length c6156_4) := (blk_cell BK6158.out 4).trans rfl
                                have hfz50_0 := blk_frozen BK6158.out 0
                                have hfz50_1 := blk_frozen BK6158.out 1
                                have hfz50_2 := blk_frozen BK6158.out 2
                                have hfz50_3 := blk_frozen BK6158.out 3
                                have hfz50_4 := blk_frozen BK6158.out 4
                                have hcz51_0 : wc.cell? ⟨gb6159, 0, none⟩ = some (.int .i64 ((rd_T51 l1 x19_1).f0)) := (blk_cell BK6159.out 0).trans rfl
                                have hcz51_1 : wc.cell? ⟨gb6159, 1, none⟩ = some (.string ((rd_T51 l1 x19_1).f1)) := (blk_cell BK6159.out 1).trans rfl
                                have hcz51_2 : wc.cell? ⟨gb6159, 2, none⟩ = some (.bool ((rd_T51 l1 x19_1).f2)) := (blk_cell BK6159.out 2).trans rfl
                                have hcz51_3 : wc.cell? ⟨gb6159, 3, none⟩ = some (.slice A6157_3 ((rd_T51 l1 x19_1).f3).length c6157_3) := (blk_cell BK6159.out 3).trans rfl
                                have hcz51_4 : wc.cell? ⟨gb6159, 4, none⟩ = some (.slice A6157_4 ((rd_T51 l1 x19_1).f4).length c6157_4) := (blk_cell BK6159.out 4).trans rfl
                                have hfz51_0 := blk_frozen BK6159.out 0
                                have hfz51_1 := blk_frozen BK6159.out 1
                                have hfz51_2 := blk_frozen BK6159.out 2
                                have hfz51_3 := blk_frozen BK6159.out 3
                                have hfz51_4 := blk_frozen BK6159.out 4
                                go_wp2_with (first | ((with_reducible refine gate_callee (f := 78) rfl ?_); refine goesL_ (some 76) rfl rfl Try.func78 (by kernel_rfl) rfl #[.slice A2 l2.length c2, .string ((rd_T51 l0 x19_1).f1), .string ((rd_T51 l1 x19_1).f1)] rfl (by (try simp only [List.map_toArray, List.map_cons, List.map_nil]); first | done | rfl | (simp only [List.length_drop, List.length_take]; rfl)) ?_; (with_reducible refine (impl_coreStands.calls kj42 _ _ l2 ((rd_T51 l0 x19_1).f1) ((rd_T51 l1 x19_1).f1) true _ ?side1 ?side2 A47.out).mono ?_); (case side1 => repeat (first | exact (Kd.C_below HR2.out HB.out) | (with_reducible refine Kd.C_alloc ?_ _) | (with_reducible refine Kd.C_drewN ?_ _) | (with_reducible refine Kd.C_drew ?_))); (case side2 => exact HC2.out); rintro e w52 ⟨rfl, hb⟩; refine ⟨_, rfl, ?_⟩; have n0_ := Aside0.mk (blk_below (g := gb6158) (o := .cells #[.int .i64 ((rd_T51 l0 x19_1).f0), .string ((rd_T51 l0 x19_1).f1), .bool ((rd_T51 l0 x19_1).f2), .slice A6156_3 ((rd_T51 l0 x19_1).f3).length c6156_3, .slice A6156_4 ((rd_T51 l0 x19_1).f4).length c6156_4] 51 (0, 0)) (by (with_reducible repeat (first | refine blk_drewN ?_ _ | refine blk_drew ?_ | refine blk_alloc ?_ _)); exact BK6158.out) hb); have n1_ := Aside0.mk (blk_below (g := gb6159) (o := .cells #[.int .i64 ((rd_T51 l1 x19_1).f0), .string ((rd_T51 l1 x19_1).f1), .bool ((rd_T51 l1 x19_1).f2), .slice A6157_3 ((rd_T51 l1 x19_1).f3).length c6157_3, .slice A6157_4 ((rd_T51 l1 x19_1).f4).length c6157_4] 51 (0, 0)) (by (with_reducible repeat (first | refine blk_drewN ?_ _ | refine blk_drew ?_ | refine blk_alloc ?_ _)); exact BK6159.out) hb); have n2_ := Aside0.mk (below_step (by repeat (first | (with_reducible first | exact HB.out | apply below_alloc | apply pw_below_drewN | apply below_drew1 | refine below_set ?_ GE6158.out | refine below_set ?_ GE6159.out) | exact HB.out)) hb); clear BK6158; clear BK6159; clear HB; have BK6158 := n0_; have BK6159 := n1_; have HB := n2_; clear n0_ n1_ n2_; (try clear hb); (try clear hb2); (try clear hk); (try clear hi)))
                                go_meet
                                case rel => exact ⟨_, H', ⟨by have := HK1.out; have := HJ8.out; have := HJ42.out; first | omega | exact Nat.le_refl _⟩, ⟨by (with_reducible repeat (first | refine blk_drewN ?_ _ | refine blk_drew ?_ | refine blk_alloc ?_ _)); exact BK6158.out⟩, ⟨by (with_reducible repeat (first | refine blk_drewN ?_ _ | refine blk_drew ?_ | refine blk_alloc ?_ _)); exact BK6159.out⟩, ⟨by repeat (first | (with_reducible first | exact HB.out | apply below_alloc | apply pw_below_drewN | apply below_drew1 | refine below_set ?_ GE6158.out | refine below_set ?_ GE6159.out) | exact HB.out)⟩⟩
                              · replace c48 := Bool.eq_false_iff.mpr c48
                                subst c48
                                have H1 : (some false) = some r := by rw [if_neg (show ¬ (false = true) by decide)] at H; exact H
                                clear H
                                have H := H1
                                clear H1
                                obtain rfl := Option.some.inj H
                                have hnb53 := NB6158_6159.out
                                have hnc53 := NB6159_6158.out
                                have hcz54_0 : wc.cell? ⟨gb6158, 0, none⟩ = some (.int .i64 ((rd_T51 l0 x19_1).f0)) := (blk_cell BK6158.out 0).trans rfl
                                have hcz54_1 : wc.cell? ⟨gb6158, 1, none⟩ = some (.string ((rd_T51 l0 x19_1).f1)) := (blk_cell BK6158.out 1).trans rfl
                                have hcz54_2 : wc.cell? ⟨gb6158, 2, none⟩ = some (.bool ((rd_T51 l0 x19_1).f2)) := (blk_cell BK6158.out 2).trans rfl
                                have hcz54_3 : wc.cell? ⟨gb6158, 3, none⟩ = some (.slice A6156_3 ((rd_T51 l0 x19_1).f3).length c6156_3) := (blk_cell BK6158.out 3).trans rfl
                                have hcz54_4 : wc.cell? ⟨gb6158, 4, none⟩ = some (.slice A6156_4 ((rd_T51 l0 x19_1).f4).length c6156_4) := (blk_cell BK6158.out 4).trans rfl
                                have hfz54_0 := blk_frozen BK6158.out 0
                                have hfz54_1 := blk_frozen BK6158.out 1
                                have hfz54_2 := blk_frozen BK6158.out 2
                                have hfz54_3 := blk_frozen BK6158.out 3
                                have hfz54_4 := blk_frozen BK6158.out 4
                                have hcz55_0 : wc.cell? ⟨gb6159, 0, none⟩ = some (.int .i64 ((rd_T51 l1 x19_1).f0)) := (blk_cell BK6159.out 0).trans rfl
                                have hcz55_1 : wc.cell? ⟨gb6159, 1, none⟩ = some (.string ((rd_T51 l1 x19_1).f1)) := (blk_cell BK6159.out 1).trans rfl
                                have hcz55_2 : wc.cell? ⟨gb6159, 2, none⟩ = some (.bool ((rd_T51 l1 x19_1).f2)) := (blk_cell BK6159.out 2).trans rfl
                                have hcz55_3 : wc.cell? ⟨gb6159, 3, none⟩ = some (.slice A6157_3 ((rd_T51 l1 x19_1).f3).length c6157_3) := (blk_cell BK6159.out 3).trans rfl
                                have hcz55_4 : wc.cell? ⟨gb6159, 4, none⟩ = some (.slice A6157_4 ((rd_T51 l1 x19_1).f4).length c6157_4) := (blk_cell BK6159.out 4).trans rfl
                                have hfz55_0 := blk_frozen BK6159.out 0
                                have hfz55_1 := blk_frozen BK6159.out 1
                                have hfz55_2 := blk_frozen BK6159.out 2
                                have hfz55_3 := blk_frozen BK6159.out 3
                                have hfz55_4 := blk_frozen BK6159.out 4
                                go_wp2_with (first | ((with_reducible refine gate_callee (f := 78) rfl ?_); refine goesL_ (some 76) rfl rfl Try.func78 (by kernel_rfl) rfl #[.slice A2 l2.length c2, .string ((rd_T51 l0 x19_1).f1), .string ((rd_T51 l1 x19_1).f1)] rfl (by (try simp only [List.map_toArray, List.map_cons, List.map_nil]); first | done | rfl | (simp only [List.length_drop, List.length_take]; rfl)) ?_; (with_reducible refine (impl_coreStands.calls kj42 _ _ l2 ((rd_T51 l0 x19_1).f1) ((rd_T51 l1 x19_1).f1) false _ ?side1 ?side2 A47.out).mono ?_); (case side1 => repeat (first | exact (Kd.C_below HR2.out HB.out) | (with_reducible refine Kd.C_alloc ?_ _) | (with_reducible refine Kd.C_drewN ?_ _) | (with_reducible refine Kd.C_drew ?_))); (case side2 => exact HC2.out); rintro e w56 ⟨rfl, hb⟩; refine ⟨_, rfl, ?_⟩; have n0_ := Aside0.mk (blk_below (g := gb6158) (o := .cells #[.int .i64 ((rd_T51 l0 x19_1).f0), .string ((rd_T51 l0 x19_1).f1), .bool ((rd_T51 l0 x19_1).f2), .slice A6156_3 ((rd_T51 l0 x19_1).f3).length c6156_3, .slice A6156_4 ((rd_T51 l0 x19_1).f4).length c6156_4] 51 (0, 0)) (by (with_reducible repeat (first | refine blk_drewN ?_ _ | refine blk_drew ?_ | refine blk_alloc ?_ _)); exact BK6158.out) hb); have n1_ := Aside0.mk (blk_below (g := gb6159) (o := .cells #[.int .i64 ((rd_T51 l1 x19_1).f0), .string ((rd_T51 l1 x19_1).f1), .bool ((rd_T51 l1 x19_1).f2), .slice A6157_3 ((rd_T51 l1 x19_1).f3).length c6157_3, .slice A6157_4 ((rd_T51 l1 x19_1).f4).length c6157_4] 51 (0, 0)) (by (with_reducible repeat (first | refine blk_drewN ?_ _ | refine blk_drew ?_ | refine blk_alloc ?_ _)); exact BK6159.out) hb); have n2_ := Aside0.mk (below_step (by repeat (first | (with_reducible first | exact HB.out | apply below_alloc | apply pw_below_drewN | apply below_drew1 | refine below_set ?_ GE6158.out | refine below_set ?_ GE6159.out) | exact HB.out)) hb); clear BK6158; clear BK6159; clear HB; have BK6158 := n0_; have BK6159 := n1_; have HB := n2_; clear n0_ n1_ n2_; (try clear hb); (try clear hb2); (try clear hk); (try clear hi)))
                                go_ret
                                exact ⟨by first | rfl | (simp [errW_none, errW_some] <;> rfl) | (simp [*, errW_none, errW_some] <;> rfl), by repeat (first | (with_reducible first | exact HB.out | apply below_alloc | apply pw_below_drewN | apply below_drew1 | refine below_set ?_ GE6158.out | refine below_set ?_ GE6159.out) | exact HB.out)⟩
                            · replace c46 := Bool.eq_false_iff.mpr c46
                              subst c46
                              have H1 : (if ((rd_T51 l0 x19_1).f1).toList = ((rd_T51 l1 x19_1).f1).toList then (impl_coreAlpha.j3 kj42 l0 l1 l2 (l0.length : Int) x19_1 ((rd_T51 l0 x19_1).f0) ((rd_T51 l0 x19_1).f1) ((rd_T51 l0 x19_1).f2) ((rd_T51 l0 x19_1).f3) ((rd_T51 l0 x19_1).f4) ((rd_T51 l1 x19_1).f0) ((rd_T51 l1 x19_1).f1) ((rd_T51 l1 x19_1).f2) ((rd_T51 l1 x19_1).f3) ((rd_T51 l1 x19_1).f4)) else (some false)) = some r := by rw [if_neg (show ¬ (false = true) by decide)] at H; exact H
                              clear H
                              have H := H1
                              clear H1
                              by_cases c57 : ((rd_T51 l0 x19_1).f1).toList = ((rd_T51 l1 x19_1).f1).toList
                              · rw [if_pos c57] at H
                                have c57b0 : (((rd_T51 l0 x19_1).f1).toList == ((rd_T51 l1 x19_1).f1).toList) = true := beq_iff_eq.mpr c57
                                have c57b1 : (((rd_T51 l0 x19_1).f1).toList != ((rd_T51 l1 x19_1).f1).toList) = false := bne_eq_false_iff_eq.mpr c57
                                clear c57
                                have H' := Aside0.mk H
                                clear H
                                have hnb58 := NB6158_6159.out
                                have hnc58 := NB6159_6158.out
                                have hcz59_0 : wc.cell? ⟨gb6158, 0, none⟩ = some (.int .i64 ((rd_T51 l0 x19_1).f0)) := (blk_cell BK6158.out 0).trans rfl
                                have hcz59_1 : wc.cell? ⟨gb6158, 1, none⟩ = some (.string ((rd_T51 l0 x19_1).f1)) := (blk_cell BK6158.out 1).trans rfl
                                have hcz59_2 : wc.cell? ⟨gb6158, 2, none⟩ = some (.bool ((rd_T51 l0 x19_1).f2)) := (blk_cell BK6158.out 2).trans rfl
                                have hcz59_3 : wc.cell? ⟨gb6158, 3, none⟩ = some (.slice A6156_3 ((rd_T51 l0 x19_1).f3).length c6156_3) := (blk_cell BK6158.out 3).trans rfl
                                have hcz59_4 : wc.cell? ⟨gb6158, 4, none⟩ = some (.slice A6156_4 ((rd_T51 l0 x19_1).f4).length c6156_4) := (blk_cell BK6158.out 4).trans rfl
                                have hfz59_0 := blk_frozen BK6158.out 0
                                have hfz59_1 := blk_frozen BK6158.out 1
                                have hfz59_2 := blk_frozen BK6158.out 2
                                have hfz59_3 := blk_frozen BK6158.out 3
                                have hfz59_4 := blk_frozen BK6158.out 4
                                have hcz60_0 : wc.cell? ⟨gb6159, 0, none⟩ = some (.int .i64 ((rd_T51 l1 x19_1).f0)) := (blk_cell BK6159.out 0).trans rfl
                                have hcz60_1 : wc.cell? ⟨gb6159, 1, none⟩ = some (.string ((rd_T51 l1 x19_1).f1)) := (blk_cell BK6159.out 1).trans rfl
                                have hcz60_2 : wc.cell? ⟨gb6159, 2, none⟩ = some (.bool ((rd_T51 l1 x19_1).f2)) := (blk_cell BK6159.out 2).trans rfl
                                have hcz60_3 : wc.cell? ⟨gb6159, 3, none⟩ = some (.slice A6157_3 ((rd_T51 l1 x19_1).f3).length c6157_3) := (blk_cell BK6159.out 3).trans rfl
                                have hcz60_4 : wc.cell? ⟨gb6159, 4, none⟩ = some (.slice A6157_4 ((rd_T51 l1 x19_1).f4).length c6157_4) := (blk_cell BK6159.out 4).trans rfl
                                have hfz60_0 := blk_frozen BK6159.out 0
                                have hfz60_1 := blk_frozen BK6159.out 1
                                have hfz60_2 := blk_frozen BK6159.out 2
                                have hfz60_3 := blk_frozen BK6159.out 3
                                have hfz60_4 := blk_frozen BK6159.out 4
                                go_wp2
                                go_meet
                                case rel => exact ⟨_, H', ⟨by have := HK1.out; have := HJ8.out; have := HJ42.out; first | omega | exact Nat.le_refl _⟩, ⟨by (with_reducible repeat (first | refine blk_drewN ?_ _ | refine blk_drew ?_ | refine blk_alloc ?_ _)); exact BK6158.out⟩, ⟨by (with_reducible repeat (first | refine blk_drewN ?_ _ | refine blk_drew ?_ | refine blk_alloc ?_ _)); exact BK6159.out⟩, ⟨by repeat (first | (with_reducible first | exact HB.out | apply below_alloc | apply pw_below_drewN | apply below_drew1 | refine below_set ?_ GE6158.out | refine below_set ?_ GE6159.out) | exact HB.out)⟩⟩
                              · rw [if_neg c57] at H
                                have c57b0 : (((rd_T51 l0 x19_1).f1).toList == ((rd_T51 l1 x19_1).f1).toList) = false := beq_eq_false_iff_ne.mpr c57
                                have c57b1 : (((rd_T51 l0 x19_1).f1).toList != ((rd_T51 l1 x19_1).f1).toList) = true := bne_iff_ne.mpr c57
                                obtain rfl := Option.some.inj H
                                have hnb61 := NB6158_6159.out
                                have hnc61 := NB6159_6158.out
                                have hcz62_0 : wc.cell? ⟨gb6158, 0, none⟩ = some (.int .i64 ((rd_T51 l0 x19_1).f0)) := (blk_cell BK6158.out 0).trans rfl
                                have hcz62_1 : wc.cell? ⟨gb6158, 1, none⟩ = some (.string ((rd_T51 l0 x19_1).f1)) := (blk_cell BK6158.out 1).trans rfl
                                have hcz62_2 : wc.cell? ⟨gb6158, 2, none⟩ = some (.bool ((rd_T51 l0 x19_1).f2)) := (blk_cell BK6158.out 2).trans rfl
                                have hcz62_3 : wc.cell? ⟨gb6158, 3, none⟩ = some (.slice A6156_3 ((rd_T51 l0 x19_1).f3).length c6156_3) := (blk_cell BK6158.out 3).trans rfl
                                have hcz62_4 : wc.cell? ⟨gb6158, 4, none⟩ = some (.slice A6156_4 ((rd_T51 l0 x19_1).f4).length c6156_4) := (blk_cell BK6158.out 4).trans rfl
                                have hfz62_0 := blk_frozen BK6158.out 0
                                have hfz62_1 := blk_frozen BK6158.out 1
                                have hfz62_2 := blk_frozen BK6158.out 2
                                have hfz62_3 := blk_frozen BK6158.out 3
                                have hfz62_4 := blk_frozen BK6158.out 4
                                have hcz63_0 : wc.cell? ⟨gb6159, 0, none⟩ = some (.int .i64 ((rd_T51 l1 x19_1).f0)) := (blk_cell BK6159.out 0).trans rfl
                                have hcz63_1 : wc.cell? ⟨gb6159, 1, none⟩ = some (.string ((rd_T51 l1 x19_1).f1)) := (blk_cell BK6159.out 1).trans rfl
                                have hcz63_2 : wc.cell? ⟨gb6159, 2, none⟩ = some (.bool ((rd_T51 l1 x19_1).f2)) := (blk_cell BK6159.out 2).trans rfl
                                have hcz63_3 : wc.cell? ⟨gb6159, 3, none⟩ = some (.slice A6157_3 ((rd_T51 l1 x19_1).f3).length c6157_3) := (blk_cell BK6159.out 3).trans rfl
                                have hcz63_4 : wc.cell? ⟨gb6159, 4, none⟩ = some (.slice A6157_4 ((rd_T51 l1 x19_1).f4).length c6157_4) := (blk_cell BK6159.out 4).trans rfl
                                have hfz63_0 := blk_frozen BK6159.out 0
                                have hfz63_1 := blk_frozen BK6159.out 1
                                have hfz63_2 := blk_frozen BK6159.out 2
                                have hfz63_3 := blk_frozen BK6159.out 3
                                have hfz63_4 := blk_frozen BK6159.out 4
                                go_wp2
                                go_ret
                                exact ⟨by first | rfl | (simp [errW_none, errW_some] <;> rfl) | (simp [*, errW_none, errW_some] <;> rfl), by repeat (first | (with_reducible first | exact HB.out | apply below_alloc | apply pw_below_drewN | apply below_drew1 | refine below_set ?_ GE6158.out | refine below_set ?_ GE6159.out) | exact HB.out)⟩
                      case rest =>
                        clear HC40
                        try clear c1
                        try clear c2
                        try clear p2
                        try clear c3
                        try clear c4
                        try clear c4b0
                        try clear c4b1
                        try clear c4b2
                        try clear c5
                        try clear c5b0
                        try clear c6
                        try clear c6b0
                        try clear p6
                        try clear q6
                        try clear hx6
                        try clear c7
                        try clear c7b0
                        try clear c8
                        try clear c8b0
                        try clear c24
                        try clear c24b0
                        try clear c24b1
                        try clear c25
                        try clear c25b0
                        try clear c25b1
                        try clear c25b2
                        try clear c26
                        try clear c29
                        try clear c29b0
                        try clear c29b1
                        try clear c29b2
                        try clear c30
                        try clear c33
                        try clear c36
                        try clear c39
                        try clear c41
                        try clear c44
                        try clear c44b0
                        try clear c44b1
                        try clear c45
                        try clear c45b0
                        try clear c45b1
                        try clear c46
                        try clear c48
                        try clear c49
                        try clear c53
                        try clear c57
                        try clear c57b0
                        try clear c57b1
                        try clear c58
                        try clear c61
                        try clear p61
                        try clear q61
                        try clear hx61
                        try clear hcz27_0
                        try clear hcz27_1
                        try clear hcz27_2
                        try clear hcz27_3
                        try clear hcz27_4
                        try clear hcz28_0
                        try clear hcz28_1
                        try clear hcz28_2
                        try clear hcz28_3
                        try clear hcz28_4
                        try clear hcz31_0
                        try clear hcz31_1
                        try clear hcz31_2
                        try clear hcz31_3
                        try clear hcz31_4
                        try clear hcz32_0
                        try clear hcz32_1
                        try clear hcz32_2
                        try clear hcz32_3
                        try clear hcz32_4
                        try clear hcz34_0
                        try clear hcz34_1
                        try clear hcz34_2
                        try clear hcz34_3
                        try clear hcz34_4
                        try clear hcz35_0
                        try clear hcz35_1
                        try clear hcz35_2
                        try clear hcz35_3
                        try clear hcz35_4
                        try clear hcz37_0
                        try clear hcz37_1
                        try clear hcz37_2
                        try clear hcz37_3
                        try clear hcz37_4
                        try clear hcz38_0
                        try clear hcz38_1
                        try clear hcz38_2
                        try clear hcz38_3
                        try clear hcz38_4
                        try clear hcz42_0
                        try clear hcz42_1
                        try clear hcz42_2
                        try clear hcz42_3
                        try clear hcz42_4
                        try clear hcz50_0
                        try clear hcz50_1
                        try clear hcz50_2
                        try clear hcz50_3
                        try clear hcz50_4
                        try clear hcz51_0
                        try clear hcz51_1
                        try clear hcz51_2
                        try clear hcz51_3
                        try clear hcz51_4
                        try clear hcz54_0
                        try clear hcz54_1
                        try clear hcz54_2
                        try clear hcz54_3
                        try clear hcz54_4
                        try clear hcz55_0
                        try clear hcz55_1
                        try clear hcz55_2
                        try clear hcz55_3
                        try clear hcz55_4
                        try clear hcz59_0
                        try clear hcz59_1
                        try clear hcz59_2
                        try clear hcz59_3
                        try clear hcz59_4
                        try clear hcz60_0
                        try clear hcz60_1
                        try clear hcz60_2
                        try clear hcz60_3
                        try clear hcz60_4
                        try clear hcz62_0
                        try clear hcz62_1
                        try clear hcz62_2
                        try clear hcz62_3
                        try clear hcz62_4
                        try clear hcz63_0
                        try clear hcz63_1
                        try clear hcz63_2
                        try clear hcz63_3
                        try clear hcz63_4
                        try clear hfz27_0
                        try clear hfz27_1
                        try clear hfz27_2
                        try clear hfz27_3
                        try clear hfz27_4
                        try clear hfz28_0
                        try clear hfz28_1
                        try clear hfz28_2
                        try clear hfz28_3
                        try clear hfz28_4
                        try clear hfz31_0
                        try clear hfz31_1
                        try clear hfz31_2
                        try clear hfz31_3
                        try clear hfz31_4
                        try clear hfz32_0
                        try clear hfz32_1
                        try clear hfz32_2
                        try clear hfz32_3
                        try clear hfz32_4
                        try clear hfz34_0
                        try clear hfz34_1
                        try clear hfz34_2
                        try clear hfz34_3
                        try clear hfz34_4
                        try clear hfz35_0
                        try clear hfz35_1
                        try clear hfz35_2
                        try clear hfz35_3
                        try clear hfz35_4
                        try clear hfz37_0
                        try clear hfz37_1
                        try clear hfz37_2
                        try clear hfz37_3
                        try clear hfz37_4
                        try clear hfz38_0
                        try clear hfz38_1
                        try clear hfz38_2
                        try clear hfz38_3
                        try clear hfz38_4
                        try clear hfz42_0
                        try clear hfz42_1
                        try clear hfz42_2
                        try clear hfz42_3
                        try clear hfz42_4
                        try clear hfz50_0
                        try clear hfz50_1
                        try clear hfz50_2
                        try clear hfz50_3
                        try clear hfz50_4
                        try clear hfz51_0
                        try clear hfz51_1
                        try clear hfz51_2
                        try clear hfz51_3
                        try clear hfz51_4
                        try clear hfz54_0
                        try clear hfz54_1
                        try clear hfz54_2
                        try clear hfz54_3
                        try clear hfz54_4
                        try clear hfz55_0
                        try clear hfz55_1
                        try clear hfz55_2
                        try clear hfz55_3
                        try clear hfz55_4
                        try clear hfz59_0
                        try clear hfz59_1
                        try clear hfz59_2
                        try clear hfz59_3
                        try clear hfz59_4
                        try clear hfz60_0
                        try clear hfz60_1
                        try clear hfz60_2
                        try clear hfz60_3
                        try clear hfz60_4
                        try clear hfz62_0
                        try clear hfz62_1
                        try clear hfz62_2
                        try clear hfz62_3
                        try clear hfz62_4
                        try clear hfz63_0
                        try clear hfz63_1
                        try clear hfz63_2
                        try clear hfz63_3
                        try clear hfz63_4
                        try clear hx6156_0
                        try clear hx6156_1
                        try clear hx6156_2
                        try clear hx6156_3
                        try clear hx6156_4
                        try clear hx6157_0
                        try clear hx6157_1
                        try clear hx6157_2
                        try clear hx6157_3
                        try clear hx6157_4
                        try clear p2
                        try clear p6
                        try clear p6156
                        try clear p6157
                        try clear q6
                        try clear q6156
                        try clear q6157
                        obtain ⟨kq, HA, HJ39, BK6158, BK6159, HB⟩ := hcut
                        cases kq with
                        | zero => exact absurd HA.out (by simp [impl_coreAlpha.j3])
                        | succ kj39 =>
                          have H := HA.out
                          clear HA
                          simp only [impl_coreAlpha.j3] at H
                          have H' := Aside0.mk H
                          clear H
                          have hnb64 := NB6158_6159.out
                          have hnc64 := NB6159_6158.out
                          have hcz65_0 : wc.cell? ⟨gb6158, 0, none⟩ = some (.int .i64 ((rd_T51 l0 x19_1).f0)) := (blk_cell BK6158.out 0).trans rfl
                          have hcz65_1 : wc.cell? ⟨gb6158, 1, none⟩ = some (.string ((rd_T51 l0 x19_1).f1)) := (blk_cell BK6158.out 1).trans rfl
                          have hcz65_2 : wc.cell? ⟨gb6158, 2, none⟩ = some (.bool ((rd_T51 l0 x19_1).f2)) := (blk_cell BK6158.out 2).trans rfl
                          have hcz65_3 : wc.cell? ⟨gb6158, 3, none⟩ = some (.slice A6156_3 ((rd_T51 l0 x19_1).f3).length c6156_3) := (blk_cell BK6158.out 3).trans rfl
                          have hcz65_4 : wc.cell? ⟨gb6158, 4, none⟩ = some (.slice A6156_4 ((rd_T51 l0 x19_1).f4).length c6156_4) := (blk_cell BK6158.out 4).trans rfl
                          have hfz65_0 := blk_frozen BK6158.out 0
                          have hfz65_1 := blk_frozen BK6158.out 1
                          have hfz65_2 := blk_frozen BK6158.out 2
                          have hfz65_3 := blk_frozen BK6158.out 3
                          have hfz65_4 := blk_frozen BK6158.out 4
                          go_wp2
                          go_loopg [10, 87] kj39 (fun kq v10 v87 w' => ∃ (x10_4 : List (S113)) (x87_4 : Int), v87 = .int .i64 x87_4 ∧ Aside0 (impl_coreAlpha.l1 kq l0 l1 l2 x10_4 (l0.length : Int) x19_1 (((rd_T51 l0 x19_1).f3).length : Int) x87_4 ((rd_T51 l0 x19_1).f0) ((rd_T51 l0 x19_1).f1) ((rd_T51 l0 x19_1).f2) ((rd_T51 l0 x19_1).f3) ((rd_T51 l0 x19_1).f4) ((rd_T51 l1 x19_1).f0) ((rd_T51 l1 x19_1).f1) ((rd_T51 l1 x19_1).f2) ((rd_T51 l1 x19_1).f3) ((rd_T51 l1 x19_1).f4) = some r) ∧ Aside0 (kq ≤ kj39) ∧ Aside0 (Kd.G k113 113 w' w.heap.size (fun _ => True) v10 x10_4) ∧ Aside0 (w'.heap[gb6158]? = some (.cells #[.int .i64 ((rd_T51 l0 x19_1).f0), .string ((rd_T51 l0 x19_1).f1), .bool ((rd_T51 l0 x19_1).f2), (.slice A6156_3 ((rd_T51 l0 x19_1).f3).length c6156_3), (.slice A6156_4 ((rd_T51 l0 x19_1).f4).length c6156_4)] 51 (0, 0))) ∧ Aside0 (w'.heap[gb6159]? = some (.cells #[.int .i64 ((rd_T51 l1 x19_1).f0), .string ((rd_T51 l1 x19_1).f1), .bool ((rd_T51 l1 x19_1).f2), (.slice A6157_3 ((rd_T51 l1 x19_1).f3).length c6157_3), (.slice A6157_4 ((rd_T51 l1 x19_1).f4).length c6157_4)] 51 (0, 0))) ∧ Aside0 (Below w.heap.size w w'))
                          case atStart => exact ⟨(l2), (0), (by first | rfl | (simp; done) | (simp [*]; done)), H', ⟨Nat.le_refl _⟩, ⟨Kd.G_came (by repeat (first | exact Kd.C_below HR2.out HB.out | exact HR2.out | (with_reducible refine Kd.C_alloc ?_ _) | (with_reducible refine Kd.C_drewN ?_ _) | (with_reducible refine Kd.C_drew ?_)))⟩, ⟨by (with_reducible repeat (first | refine blk_drewN ?_ _ | refine blk_drew ?_ | refine blk_alloc ?_ _)); exact BK6158.out⟩, ⟨by (with_reducible repeat (first | refine blk_drewN ?_ _ | refine blk_drew ?_ | refine blk_alloc ?_ _)); exact BK6159.out⟩, ⟨by repeat (first | (with_reducible first | exact HB.out | apply below_alloc | apply pw_below_drewN | apply below_drew1 | refine below_set ?_ GE6158.out | refine below_set ?_ GE6159.out) | exact HB.out)⟩⟩
                          case round =>
                            clear H'
                            try clear c1
                            try clear c2
                            try clear p2
                            try clear c3
                            try clear c4
                            try clear c4b0
                            try clear c4b1
                            try clear c4b2
                            try clear c5
                            try clear c5b0
                            try clear c6
                            try clear c6b0
                            try clear p6
                            try clear q6
                            try clear hx6
                            try clear c7
                            try clear c7b0
                            try clear c8
                            try clear c8b0
                            try clear c24
                            try clear c24b0
                            try clear c24b1
                            try clear c25
                            try clear c25b0
                            try clear c25b1
                            try clear c25b2
                            try clear c26
                            try clear c29
                            try clear c29b0
                            try clear c29b1
                            try clear c29b2
                            try clear c30
                            try clear c33
                            try clear c36
                            try clear c39
                            try clear c41
                            try clear c44
                            try clear c44b0
                            try clear c44b1
                            try clear c45
                            try clear c45b0
                            try clear c45b1
                            try clear c46
                            try clear c48
                            try clear c49
                            try clear c53
                            try clear c57
                            try clear c57b0
                            try clear c57b1
                            try clear c58
                            try clear c61
                            try clear p61
                            try clear q61
                            try clear hx61
                            try clear c64
                            try clear hcz27_0
                            try clear hcz27_1
                            try clear hcz27_2
                            try clear hcz27_3
                            try clear hcz27_4
                            try clear hcz28_0
                            try clear hcz28_1
                            try clear hcz28_2
                            try clear hcz28_3
                            try clear hcz28_4
                            try clear hcz31_0
                            try clear hcz31_1
                            try clear hcz31_2
                            try clear hcz31_3
                            try clear hcz31_4
                            try clear hcz32_0
                            try clear hcz32_1
                            try clear hcz32_2
                            try clear hcz32_3
                            try clear hcz32_4
                            try clear hcz34_0
                            try clear hcz34_1
                            try clear hcz34_2
                            try clear hcz34_3
                            try clear hcz34_4
                            try clear hcz35_0
                            try clear hcz35_1
                            try clear hcz35_2
                            try clear hcz35_3
                            try clear hcz35_4
                            try clear hcz37_0
                            try clear hcz37_1
                            try clear hcz37_2
                            try clear hcz37_3
                            try clear hcz37_4
                            try clear hcz38_0
                            try clear hcz38_1
                            try clear hcz38_2
                            try clear hcz38_3
                            try clear hcz38_4
                            try clear hcz42_0
                            try clear hcz42_1
                            try clear hcz42_2
                            try clear hcz42_3
                            try clear hcz42_4
                            try clear hcz50_0
                            try clear hcz50_1
                            try clear hcz50_2
                            try clear hcz50_3
                            try clear hcz50_4
                            try clear hcz51_0
                            try clear hcz51_1
                            try clear hcz51_2
                            try clear hcz51_3
                            try clear hcz51_4
                            try clear hcz54_0
                            try clear hcz54_1
                            try clear hcz54_2
                            try clear hcz54_3
                            try clear hcz54_4
                            try clear hcz55_0
                            try clear hcz55_1
                            try clear hcz55_2
                            try clear hcz55_3
                            try clear hcz55_4
                            try clear hcz59_0
                            try clear hcz59_1
                            try clear hcz59_2
                            try clear hcz59_3
                            try clear hcz59_4
                            try clear hcz60_0
                            try clear hcz60_1
                            try clear hcz60_2
                            try clear hcz60_3
                            try clear hcz60_4
                            try clear hcz62_0
                            try clear hcz62_1
                            try clear hcz62_2
                            try clear hcz62_3
                            try clear hcz62_4
                            try clear hcz63_0
                            try clear hcz63_1
                            try clear hcz63_2
                            try clear hcz63_3
                            try clear hcz63_4
                            try clear hcz65_0
                            try clear hcz65_1
                            try clear hcz65_2
                            try clear hcz65_3
                            try clear hcz65_4
                            try clear hfz27_0
                            try clear hfz27_1
                            try clear hfz27_2
                            try clear hfz27_3
                            try clear hfz27_4
                            try clear hfz28_0
                            try clear hfz28_1
                            try clear hfz28_2
                            try clear hfz28_3
                            try clear hfz28_4
                            try clear hfz31_0
                            try clear hfz31_1
                            try clear hfz31_2
                            try clear hfz31_3
                            try clear hfz31_4
                            try clear hfz32_0
                            try clear hfz32_1
                            try clear hfz32_2
                            try clear hfz32_3
                            try clear hfz32_4
                            try clear hfz34_0
                            try clear hfz34_1
                            try clear hfz34_2
                            try clear hfz34_3
                            try clear hfz34_4
                            try clear hfz35_0
                            try clear hfz35_1
                            try clear hfz35_2
                            try clear hfz35_3
                            try clear hfz35_4
                            try clear hfz37_0
                            try clear hfz37_1
                            try clear hfz37_2
                            try clear hfz37_3
                            try clear hfz37_4
                            try clear hfz38_0
                            try clear hfz38_1
                            try clear hfz38_2
                            try clear hfz38_3
                            try clear hfz38_4
                            try clear hfz42_0
                            try clear hfz42_1
                            try clear hfz42_2
                            try clear hfz42_3
                            try clear hfz42_4
                            try clear hfz50_0
                            try clear hfz50_1
                            try clear hfz50_2
                            try clear hfz50_3
                            try clear hfz50_4
                            try clear hfz51_0
                            try clear hfz51_1
                            try clear hfz51_2
                            try clear hfz51_3
                            try clear hfz51_4
                            try clear hfz54_0
                            try clear hfz54_1
                            try clear hfz54_2
                            try clear hfz54_3
                            try clear hfz54_4
                            try clear hfz55_0
                            try clear hfz55_1
                            try clear hfz55_2
                            try clear hfz55_3
                            try clear hfz55_4
                            try clear hfz59_0
                            try clear hfz59_1
                            try clear hfz59_2
                            try clear hfz59_3
                            try clear hfz59_4
                            try clear hfz60_0
                            try clear hfz60_1
                            try clear hfz60_2
                            try clear hfz60_3
                            try clear hfz60_4
                            try clear hfz62_0
                            try clear hfz62_1
                            try clear hfz62_2
                            try clear hfz62_3
                            try clear hfz62_4
                            try clear hfz63_0
                            try clear hfz63_1
                            try clear hfz63_2
                            try clear hfz63_3
                            try clear hfz63_4
                            try clear hfz65_0
                            try clear hfz65_1
                            try clear hfz65_2
                            try clear hfz65_3
                            try clear hfz65_4
                            try clear hx6156_0
                            try clear hx6156_1
                            try clear hx6156_2
                            try clear hx6156_3
                            try clear hx6156_4
                            try clear hx6157_0
                            try clear hx6157_1
                            try clear hx6157_2
                            try clear hx6157_3
                            try clear hx6157_4
                            try clear p2
                            try clear p6
                            try clear p61
                            try clear p6156
                            try clear p6157
                            try clear q6
                            try clear q61
                            try clear q6156
                            try clear q6157
                            obtain ⟨x10_4, x87_4, rfl, HA, HK4, HO_10, BK6158, BK6159, HB⟩ := hrel
                            cases gk with
                            | zero => exact absurd HA.out (by simp [impl_coreAlpha.l1])
                            | succ k4 =>
                              have H := HA.out
                              clear HA
                              simp only [impl_coreAlpha.l1] at H
                              by_cases c66 : x87_4 < (((rd_T51 l0 x19_1).f3).length : Int)
                              · rw [if_pos c66] at H
                                have c66b0 : decide (x87_4 < (((rd_T51 l0 x19_1).f3).length : Int)) = true := decide_eq_true c66
                                clear c66
                                by_cases c67 : 0 ≤ x87_4
                                · rw [if_pos c67] at H
                                  have c67b0 : decide (0 ≤ x87_4) = true := decide_eq_true c67
                                  clear c67
                                  by_cases c68 : x87_4 < (((rd_T51 l0 x19_1).f3).length : Int)
                                  · rw [if_pos c68] at H
                                    have c68b0 : decide (x87_4 < (((rd_T51 l0 x19_1).f3).length : Int)) = true := decide_eq_true c68
                                    clear c68
                                    by_cases c69 : x87_4 < (((rd_T51 l1 x19_1).f3).length : Int)
                                    · rw [if_pos c69] at H
                                      have c69b0 : decide (x87_4 < (((rd_T51 l1 x19_1).f3).length : Int)) = true := decide_eq_true c69
                                      clear c69
                                      by_cases c70 : x10_4.length < 4398046511104
                                      · rw [if_pos c70] at H
                                        have LMc70 := Aside0.mk c70
                                        clear c70
                                        obtain ⟨y6163, hy6163⟩ : ∃ y_ : List (S113), y_ = (x10_4 ++ [(⟨rdOf ByteArray.empty ((rd_T51 l0 x19_1).f3) x87_4, rdOf ByteArray.empty ((rd_T51 l1 x19_1).f3) x87_4⟩ : S113)]) := ⟨_, rfl⟩
                                        replace H : (impl_coreAlpha.l1 k4 l0 l1 l2 y6163 (l0.length : Int) x19_1 (((rd_T51 l0 x19_1).f3).length : Int) (wrap64 (x87_4 + 1)) ((rd_T51 l0 x19_1).f0) ((rd_T51 l0 x19_1).f1) ((rd_T51 l0 x19_1).f2) ((rd_T51 l0 x19_1).f3) ((rd_T51 l0 x19_1).f4) ((rd_T51 l1 x19_1).f0) ((rd_T51 l1 x19_1).f1) ((rd_T51 l1 x19_1).f2) ((rd_T51 l1 x19_1).f3) ((rd_T51 l1 x19_1).f4)) = some r := by first | (rw [hy6163]; with_reducible exact H) | (have H2_ := (Option.bind_some _ _).symm.trans H; rw [hy6163]; with_reducible exact H2_) | (have H2_ := (Option.bind_some _ _).symm.trans H; with_reducible exact H2_) | with_reducible exact H | (rw [hy6163]; exact H) | exact H
                                        have Ny6163 := Aside0.mk hy6163
                                        clear hy6163
                                        have H' := Aside0.mk H
                                        clear H
                                        try go_wp2
                                        have n0_ := Aside0.mk (Kd.G_drew HO_10.out)
                                        have n1_ := Aside0.mk (blk_drew BK6158.out)
                                        have n2_ := Aside0.mk (blk_drew BK6159.out)
                                        have n3_ := Aside0.mk (below_drew1 HB.out)
                                        clear HO_10
                                        clear BK6158
                                        clear BK6159
                                        clear HB
                                        have HO_10 := n0_
                                        have BK6158 := n1_
                                        have BK6159 := n2_
                                        have HB := n3_
                                        clear n0_ n1_ n2_ n3_
                                        have p6161 : 0 ≤ (x87_4 : Int) := of_decide_eq_true (by first | (with_reducible assumption) | assumption)
                                        have q6161 : x87_4 < (((rd_T51 l0 x19_1).f3).length : Int) := of_decide_eq_true (by first | (with_reducible assumption) | assumption)
                                        obtain ⟨ad6161, e6161, hx6161_0⟩ := Kd.at_string HR6156_3.out x87_4 p6161 q6161
                                        have hw6161_0 := hx6161_0
                                        cases e6161
                                        replace hx6161_0 := (HB.out.cell (World.block_lt_of_cell? w _ hx6161_0)).trans hx6161_0
                                        replace p6161 := eq_true p6161
                                        replace q6161 := eq_true q6161
                                        have p6162 : 0 ≤ (x87_4 : Int) := of_decide_eq_true (by first | (with_reducible assumption) | assumption)
                                        have q6162 : x87_4 < (((rd_T51 l1 x19_1).f3).length : Int) := of_decide_eq_true (by first | (with_reducible assumption) | assumption)
                                        obtain ⟨ad6162, e6162, hx6162_0⟩ := Kd.at_string HR6157_3.out x87_4 p6162 q6162
                                        have hw6162_0 := hx6162_0
                                        cases e6162
                                        replace hx6162_0 := (HB.out.cell (World.block_lt_of_cell? w _ hx6162_0)).trans hx6162_0
                                        replace p6162 := eq_true p6162
                                        replace q6162 := eq_true q6162
                                        refine start_ (n := 15) (S := fun w' => w'.cell? ⟨gb6158, 0, none⟩ = some (.int .i64 ((rd_T51 l0 x19_1).f0)) ∧ w'.cell? ⟨gb6158, 1, none⟩ = some (.string ((rd_T51 l0 x19_1).f1)) ∧ w'.cell? ⟨gb6158, 2, none⟩ = some (.bool ((rd_T51 l0 x19_1).f2)) ∧ w'.cell? ⟨gb6158, 3, none⟩ = some (.slice (some ad6161) ((rd_T51 l0 x19_1).f3).length c6156_3) ∧ w'.cell? ⟨gb6158, 4, none⟩ = some (.slice A6156_4 ((rd_T51 l0 x19_1).f4).length c6156_4) ∧ w'.cell? ⟨gb6159, 0, none⟩ = some (.int .i64 ((rd_T51 l1 x19_1).f0)) ∧ w'.cell? ⟨gb6159, 1, none⟩ = some (.string ((rd_T51 l1 x19_1).f1)) ∧ w'.cell? ⟨gb6159, 2, none⟩ = some (.bool ((rd_T51 l1 x19_1).f2)) ∧ w'.cell? ⟨gb6159, 3, none⟩ = some (.slice (some ad6162) ((rd_T51 l1 x19_1).f3).length c6157_3) ∧ w'.cell? ⟨gb6159, 4, none⟩ = some (.slice A6157_4 ((rd_T51 l1 x19_1).f4).length c6157_4) ∧ w'.cell? (ad6161.add (x87_4).toNat) = some (.string (rdOf ByteArray.empty ((rd_T51 l0 x19_1).f3) x87_4)) ∧ w'.cell? (ad6162.add (x87_4).toNat) = some (.string (rdOf ByteArray.empty ((rd_T51 l1 x19_1).f3) x87_4))) (ds := []) #[false, false, false, false, false, false, false, false, false, false, false, false, false, false, false] (by kernel_rfl) rfl rfl ⟨(blk_cell BK6158.out 0).trans rfl, (blk_cell BK6158.out 1).trans rfl, (blk_cell BK6158.out 2).trans rfl, (blk_cell BK6158.out 3).trans rfl, (blk_cell BK6158.out 4).trans rfl, (blk_cell BK6159.out 0).trans rfl, (blk_cell BK6159.out 1).trans rfl, (blk_cell BK6159.out 2).trans rfl, (blk_cell BK6159.out 3).trans rfl, (blk_cell BK6159.out 4).trans rfl, ((HB.out.cell (World.block_lt_of_cell? w _ hw6161_0)).trans hw6161_0), ((HB.out.cell (World.block_lt_of_cell? w _ hw6162_0)).trans hw6162_0)⟩ (fun hHeld => ?_); refine with_tabW impl_coreAlpha.tab21 impl_coreAlpha.bits21 (fun HT_ HW_ => ?_)
                                        generalize wr.drew = w71 at HO_10 BK6158 BK6159 HB hx6161_0 hx6162_0 hHeld ⊢
                                        refine pure_ (i := 0) (N := some 90) (v := ?_) (a' := ?_) #[true, false, false, false, false, false, false, false, false, false, false, false, false, false, false] rfl rfl (any_of HT_.out (by kernel_rfl)) (fun _ _ _ h => h) (Or.inl ⟨by rfl, ?_⟩) ?_ ?_
                                        rotate_left
                                        · intro w'
                                          go_simp
                                          with_reducible rfl
                                        rotate_left
                                        · simp only [Act.put, List.setIfInBounds_toArray, List.set_cons_zero, List.set_cons_succ, i64_w, i32_w]
                                          rfl
                                        refine pure_ (i := 1) (N := some 91) (v := ?_) (a' := ?_) #[true, true, false, false, false, false, false, false, false, false, false, false, false, false, false] rfl rfl (any_of HT_.out (by kernel_rfl)) (fun _ _ _ h => h) (Or.inl ⟨by rfl, ?_⟩) ?_ ?_
                                        rotate_left
                                        · intro w'
                                          go_simp
                                          with_reducible rfl
                                        rotate_left
                                        · simp only [Act.put, List.setIfInBounds_toArray, List.set_cons_zero, List.set_cons_succ, i64_w, i32_w]
                                          rfl
                                        refine pure_ (i := 3) (N := some 93) (v := ?_) (a' := ?_) #[true, true, false, true, false, false, false, false, false, false, false, false, false, false, false] rfl rfl (any_of HT_.out (by kernel_rfl)) (fun _ _ _ h => h) (Or.inl ⟨by rfl, ?_⟩) ?_ ?_
                                        rotate_left
                                        · intro w'
                                          go_simp
                                          with_reducible rfl
                                        rotate_left
                                        · simp only [Act.put, List.setIfInBounds_toArray, List.set_cons_zero, List.set_cons_succ, i64_w, i32_w]
                                          rfl
                                        refine pure_ (i := 6) (N := some 96) (v := ?_) (a' := ?_) #[true, true, false, true, false, false, true, false, false, false, false, false, false, false, false] rfl rfl (any_of HT_.out (by kernel_rfl)) (fun _ _ _ h => h) (Or.inl ⟨by rfl, ?_⟩) ?_ ?_
                                        rotate_left
                                        · intro w'
                                          go_simp
                                          with_reducible rfl
                                        rotate_left
                                        · simp only [Act.put, List.setIfInBounds_toArray, List.set_cons_zero, List.set_cons_succ, i64_w, i32_w]
                                          rfl
                                        refine pure_ (i := 8) (N := some 98) (v := ?_) (a' := ?_) #[true, true, false, true, false, false, true, false, true, false, false, false, false, false, false] rfl rfl (any_of HT_.out (by kernel_rfl)) (fun _ _ _ h => h) (Or.inl ⟨by rfl, ?_⟩) ?_ ?_
                                        rotate_left
                                        · intro w'
                                          go_simp
                                          with_reducible rfl
                                        rotate_left
                                        · simp only [Act.put, List.setIfInBounds_toArray, List.set_cons_zero, List.set_cons_succ, i64_w, i32_w]
                                          rfl
                                        refine take_ (i := 2) (N := some 92) (v := ?_) (a' := ?_) #[true, true, true, true, false, false, true, false, true, false, false, false, false, false, false] rfl rfl (take_ofW HT_.out HW_.out (by kernel_rfl)) (fun _ _ _ h => h) (Or.inl ⟨by rfl, ?_⟩) hHeld ?_ ?_
                                        rotate_left
                                        · rintro w' ⟨s0, s1, s2, s3, s4, s5, s6, s7, s8, s9, s10, s11⟩
                                          go_simp
                                          with_reducible rfl
                                        rotate_left
                                        · simp only [Act.put, List.setIfInBounds_toArray, List.set_cons_zero, List.set_cons_succ, i64_w, i32_w]
                                          rfl
                                        refine pure_ (i := 4) (N := some 94) (v := ?_) (a' := ?_) #[true, true, true, true, true, false, true, false, true, false, false, false, false, false, false] rfl rfl (any_of HT_.out (by kernel_rfl)) (fun _ _ _ h => h) (Or.inl ⟨by rfl, ?_⟩) ?_ ?_
                                        rotate_left
                                        · intro w'
                                          go_simp
                                          with_reducible rfl
                                        rotate_left
                                        · simp only [Act.put, List.setIfInBounds_toArray, List.set_cons_zero, List.set_cons_succ, i64_w, i32_w]
                                          rfl
                                        refine take_ (i := 5) (N := some 95) (v := ?_) (a' := ?_) #[true, true, true, true, true, true, true, false, true, false, false, false, false, false, false] rfl rfl (take_ofW HT_.out HW_.out (by kernel_rfl)) (fun _ _ _ h => h) (Or.inl ⟨by rfl, ?_⟩) hHeld ?_ ?_
                                        rotate_left
                                        · rintro w' ⟨s0, s1, s2, s3, s4, s5, s6, s7, s8, s9, s10, s11⟩
                                          go_simp
                                          with_reducible rfl
                                        rotate_left
                                        · simp only [Act.put, List.setIfInBounds_toArray, List.set_cons_zero, List.set_cons_succ, i64_w, i32_w]
                                          rfl
                                        refine take_ (i := 7) (N := some 97) (v := ?_) (a' := ?_) #[true, true, true, true, true, true, true, true, true, false, false, false, false, false, false] rfl rfl (take_ofW HT_.out HW_.out (by kernel_rfl)) (fun _ _ _ h => h) (Or.inl ⟨by rfl, ?_⟩) hHeld ?_ ?_
                                        rotate_left
                                        · rintro w' ⟨s0, s1, s2, s3, s4, s5, s6, s7, s8, s9, s10, s11⟩
                                          go_simp
                                          with_reducible rfl
                                        rotate_left
                                        · simp only [Act.put, List.setIfInBounds_toArray, List.set_cons_zero, List.set_cons_succ, i64_w, i32_w]
                                          rfl
                                        refine pure_ (i := 9) (N := some 99) (v := ?_) (a' := ?_) #[true, true, true, true, true, true, true, true, true, true, false, false, false, false, false] rfl rfl (any_of HT_.out (by kernel_rfl)) (fun _ _ _ h => h) (Or.inl ⟨by rfl, ?_⟩) ?_ ?_
                                        rotate_left
                                        · intro w'
                                          go_simp
                                          with_reducible rfl
                                        rotate_left
                                        · simp only [Act.put, List.setIfInBounds_toArray, List.set_cons_zero, List.set_cons_succ, i64_w, i32_w]
                                          rfl
                                        refine take_ (i := 10) (N := some 100) (v := ?_) (a' := ?_) #[true, true, true, true, true, true, true, true, true, true, true, false, false, false, false] rfl rfl (take_ofW HT_.out HW_.out (by kernel_rfl)) (fun _ _ _ h => h) (Or.inl ⟨by rfl, ?_⟩) hHeld ?_ ?_
                                        rotate_left
                                        · rintro w' ⟨s0, s1, s2, s3, s4, s5, s6, s7, s8, s9, s10, s11⟩
                                          go_simp
                                          with_reducible rfl
                                        rotate_left
                                        · simp only [Act.put, List.setIfInBounds_toArray, List.set_cons_zero, List.set_cons_succ, i64_w, i32_w]
                                          rfl
                                        refine pure_ (i := 11) (N := some 101) (v := ?_) (a' := ?_) #[true, true, true, true, true, true, true, true, true, true, true, true, false, false, false] rfl rfl (any_of HT_.out (by kernel_rfl)) (fun _ _ _ h => h) (Or.inl ⟨by rfl, ?_⟩) ?_ ?_
                                        rotate_left
                                        · intro w'
                                          go_simp
                                          with_reducible rfl
                                        rotate_left
                                        · simp only [Act.put, List.setIfInBounds_toArray, List.set_cons_zero, List.set_cons_succ, i64_w, i32_w]
                                          rfl
                                        refine one_ (i := 12) (N := some 102) #[true, true, true, true, true, true, true, true, true, true, true, true, true, false, false] rfl rfl (one_of HT_.out (by kernel_rfl)) (by decide) (fun K hK => ?_)
                                        refine value_ (w1 := ?_) (v := ?_) (by rfl) rfl ?_ ?_
                                        rotate_left 2
                                        · go_simp
                                          constructor
                                          · rfl
                                          · rfl
                                        refine hK.out _ _ ⟨(blk_cell (blk_alloc BK6158.out _) 0).trans rfl, (blk_cell (blk_alloc BK6158.out _) 1).trans rfl, (blk_cell (blk_alloc BK6158.out _) 2).trans rfl, (blk_cell (blk_alloc BK6158.out _) 3).trans rfl, (blk_cell (blk_alloc BK6158.out _) 4).trans rfl, (blk_cell (blk_alloc BK6159.out _) 0).trans rfl, (blk_cell (blk_alloc BK6159.out _) 1).trans rfl, (blk_cell (blk_alloc BK6159.out _) 2).trans rfl, (blk_cell (blk_alloc BK6159.out _) 3).trans rfl, (blk_cell (blk_alloc BK6159.out _) 4).trans rfl, (World.cell?_alloc_lt _ _ _ (World.block_lt_of_cell? _ _ (((HB.out.cell (World.block_lt_of_cell? w _ hw6161_0)).trans hw6161_0)))).trans (((HB.out.cell (World.block_lt_of_cell? w _ hw6161_0)).trans hw6161_0)), (World.cell?_alloc_lt _ _ _ (World.block_lt_of_cell? _ _ (((HB.out.cell (World.block_lt_of_cell? w _ hw6162_0)).trans hw6162_0)))).trans (((HB.out.cell (World.block_lt_of_cell? w _ hw6162_0)).trans hw6162_0))⟩ (fun hHeld => ?_)
                                        clear hK K
                                        refine norm_ (a' := ?_) ?_ ?_
                                        rotate_left
                                        · show Act.put _ (some 102) _ = _
                                          simp only [Act.put, List.setIfInBounds_toArray, List.set_cons_zero, List.set_cons_succ, i64_w, i32_w]
                                          rfl
                                        refine one_ (i := 13) (N := some 103) #[true, true, true, true, true, true, true, true, true, true, true, true, true, true, false] rfl rfl (one_of HT_.out (by kernel_rfl)) (by decide) (fun K hK => ?_)
                                        refine Kd.G_append_step k113 (fun _ _ _ _ x_ c_ h_ => by obtain rfl := k113_open h_; exact k113_mkM _ _ _ x_) (w0 := w) w.heap.size (by rfl) (.tmp 90) (.tmp 102) 110 113 (.agg #[(.string ⟨#[]⟩), (.string ⟨#[]⟩)]) 32 rfl Try.underlying110 info113 rfl (by decide) (by omega) u10 x10_4 (⟨rdOf ByteArray.empty ((rd_T51 l0 x19_1).f3) x87_4, rdOf ByteArray.empty ((rd_T51 l1 x19_1).f3) x87_4⟩ : S113) [.string (rdOf ByteArray.empty ((rd_T51 l0 x19_1).f3) x87_4), .string (rdOf ByteArray.empty ((rd_T51 l1 x19_1).f3) x87_4)] (fun _ => True) (fun _ => False) rfl rfl ?aP (fun _ hk => hk.elim) ?aF ?aO ?aB ?aS ?aL rfl ?_
                                        (case aP => exact k113_mkM _ _ _ (⟨rdOf ByteArray.empty ((rd_T51 l0 x19_1).f3) x87_4, rdOf ByteArray.empty ((rd_T51 l1 x19_1).f3) x87_4⟩ : S113))
                                        (case aB => exact (by repeat (first | (with_reducible first | exact HB.out | apply below_alloc | apply pw_below_drewN | apply below_drew1 | refine below_set ?_ GE6158.out | refine below_set ?_ GE6159.out) | exact HB.out)))
                                        (case aF => exact (fun _ _ => trivial))
                                        (case aO => exact (by (with_reducible repeat (first | apply Kd.G_alloc | apply Kd.G_drewN | apply Kd.G_drew)); exact HO_10.out))
                                        (case aS => exact (below_size (by repeat (first | (with_reducible first | exact HB.out | apply below_alloc | apply pw_below_drewN | apply below_drew1 | refine below_set ?_ GE6158.out | refine below_set ?_ GE6159.out) | exact HB.out))))
                                        (case aL => have := LMc70.out; omega)
                                        intro v6164 w72 row_ ho hb hg hne
                                        rw [← Ny6163.out] at ho
                                        have n0_ := Aside0.mk (blk_grown (g := gb6158) (o := .cells #[.int .i64 ((rd_T51 l0 x19_1).f0), .string ((rd_T51 l0 x19_1).f1), .bool ((rd_T51 l0 x19_1).f2), .slice (some ad6161) ((rd_T51 l0 x19_1).f3).length c6156_3, .slice A6156_4 ((rd_T51 l0 x19_1).f4).length c6156_4] 51 (0, 0)) (by (with_reducible repeat (first | refine blk_drewN ?_ _ | refine blk_drew ?_ | refine blk_alloc ?_ _)); exact BK6158.out) hg (hne (by (with_reducible repeat (first | refine blk_drewN ?_ _ | refine blk_drew ?_ | refine blk_alloc ?_ _)); exact BK6158.out) (by decide)))
                                        have n1_ := Aside0.mk (blk_grown (g := gb6159) (o := .cells #[.int .i64 ((rd_T51 l1 x19_1).f0), .string ((rd_T51 l1 x19_1).f1), .bool ((rd_T51 l1 x19_1).f2), .slice (some ad6162) ((rd_T51 l1 x19_1).f3).length c6157_3, .slice A6157_4 ((rd_T51 l1 x19_1).f4).length c6157_4] 51 (0, 0)) (by (with_reducible repeat (first | refine blk_drewN ?_ _ | refine blk_drew ?_ | refine blk_alloc ?_ _)); exact BK6159.out) hg (hne (by (with_reducible repeat (first | refine blk_drewN ?_ _ | refine blk_drew ?_ | refine blk_alloc ?_ _)); exact BK6159.out) (by decide)))
                                        have n2_ := Aside0.mk (hb)
                                        have n3_ := Aside0.mk (ho)
                                        clear BK6158
                                        clear BK6159
                                        clear HB
                                        clear HO_10
                                        have BK6158 := n0_
                                        have BK6159 := n1_
                                        have HB := n2_
                                        have HO6165 := n3_
                                        clear n0_ n1_ n2_ n3_
                                        clear ho hb hg hne
                                        refine hK.out _ _ ⟨(blk_cell BK6158.out 0).trans rfl, (blk_cell BK6158.out 1).trans rfl, (blk_cell BK6158.out 2).trans rfl, (blk_cell BK6158.out 3).trans rfl, (blk_cell BK6158.out 4).trans rfl, (blk_cell BK6159.out 0).trans rfl, (blk_cell BK6159.out 1).trans rfl, (blk_cell BK6159.out 2).trans rfl, (blk_cell BK6159.out 3).trans rfl, (blk_cell BK6159.out 4).trans rfl, ((HB.out.cell (World.block_lt_of_cell? w _ hw6161_0)).trans hw6161_0), ((HB.out.cell (World.block_lt_of_cell? w _ hw6162_0)).trans hw6162_0)⟩ (fun hHeld => ?_)
                                        clear hK K
                                        refine norm_ (a' := ?_) ?_ ?_
                                        rotate_left
                                        · show Act.put _ (some 103) _ = _
                                          simp only [Act.put, List.setIfInBounds_toArray, List.set_cons_zero, List.set_cons_succ, i64_w, i32_w]
                                          rfl
                                        refine pure_ (i := 14) (N := some 10) (v := ?_) (a' := ?_) #[true, true, true, true, true, true, true, true, true, true, true, true, true, true, true] rfl rfl (any_of HT_.out (by kernel_rfl)) (fun _ _ _ h => h) (Or.inl ⟨by rfl, ?_⟩) ?_ ?_
                                        rotate_left
                                        · intro w'
                                          go_simp
                                          with_reducible rfl
                                        rotate_left
                                        · simp only [Act.put, List.setIfInBounds_toArray, List.set_cons_zero, List.set_cons_succ, i64_w, i32_w]
                                          rfl
                                        refine done_ (done_of HT_.out (by kernel_rfl)) ?_
                                        try go_wp2
                                        go_roundg k4
                                        case measure => have := HK1.out; have := HJ8.out; have := HJ39.out; have := HK4.out; omega
                                        case rel => exact ⟨(y6163), (wrap64 (x87_4 + 1)), (by first | rfl | (simp; done) | (simp [*]; done)), H', ⟨by have := HK1.out; have := HJ8.out; have := HJ39.out; have := HK4.out; omega⟩, ⟨by (with_reducible repeat (first | apply Kd.G_alloc | apply Kd.G_drewN | apply Kd.G_drew)); exact HO6165.out⟩, ⟨by (with_reducible repeat (first | refine blk_drewN ?_ _ | refine blk_drew ?_ | refine blk_alloc ?_ _)); exact BK6158.out⟩, ⟨by (with_reducible repeat (first | refine blk_drewN ?_ _ | refine blk_drew ?_ | refine blk_alloc ?_ _)); exact BK6159.out⟩, ⟨by repeat (first | (with_reducible first | exact HB.out | apply below_alloc | apply pw_below_drewN | apply below_drew1 | refine below_set ?_ GE6158.out | refine below_set ?_ GE6159.out) | exact HB.out)⟩⟩
                                      · rw [if_neg c70] at H
                                        exact absurd H (by simp)
                                    · rw [if_neg c69] at H
                                      exact absurd H (by simp)
                                  · rw [if_neg c68] at H
                                    exact absurd H (by simp)
                                · rw [if_neg c67] at H
                                  exact absurd H (by simp)
                              · rw [if_neg c66] at H
                                have c66b0 : decide (x87_4 < (((rd_T51 l0 x19_1).f3).length : Int)) = false := decide_eq_false c66
                                clear c66
                                replace H := Option.bind_eq_some_iff.mp H
                                obtain ⟨t6166, A730, H⟩ := H
                                replace H : (if t6166 = true then (impl_coreAlpha.l0 k4 l0 l1 l2 (l0.length : Int) (wrap64 (x19_1 + 1))) else (some false)) = some r := H
                                have A73 := Aside0.mk A730
                                clear A730
                                by_cases c74 : t6166 = true
                                · subst c74
                                  have H1 : (impl_coreAlpha.l0 k4 l0 l1 l2 (l0.length : Int) (wrap64 (x19_1 + 1))) = some r := by rw [if_pos rfl] at H; exact H
                                  clear H
                                  have H := H1
                                  clear H1
                                  have H' := Aside0.mk H
                                  clear H
                                  have hnb75 := NB6158_6159.out
                                  have hnc75 := NB6159_6158.out
                                  have hcz76_0 : wr.cell? ⟨gb6158, 0, none⟩ = some (.int .i64 ((rd_T51 l0 x19_1).f0)) := (blk_cell BK6158.out 0).trans rfl
                                  have hcz76_1 : wr.cell? ⟨gb6158, 1, none⟩ = some (.string ((rd_T51 l0 x19_1).f1)) := (blk_cell BK6158.out 1).trans rfl
                                  have hcz76_2 : wr.cell? ⟨gb6158, 2, none⟩ = some (.bool ((rd_T51 l0 x19_1).f2)) := (blk_cell BK6158.out 2).trans rfl
                                  have hcz76_3 : wr.cell? ⟨gb6158, 3, none⟩ = some (.slice A6156_3 ((rd_T51 l0 x19_1).f3).length c6156_3) := (blk_cell BK6158.out 3).trans rfl
                                  have hcz76_4 : wr.cell? ⟨gb6158, 4, none⟩ = some (.slice A6156_4 ((rd_T51 l0 x19_1).f4).length c6156_4) := (blk_cell BK6158.out 4).trans rfl
                                  have hfz76_0 := blk_frozen BK6158.out 0
                                  have hfz76_1 := blk_frozen BK6158.out 1
                                  have hfz76_2 := blk_frozen BK6158.out 2
                                  have hfz76_3 := blk_frozen BK6158.out 3
                                  have hfz76_4 := blk_frozen BK6158.out 4
                                  have hcz77_0 : wr.cell? ⟨gb6159, 0, none⟩ = some (.int .i64 ((rd_T51 l1 x19_1).f0)) := (blk_cell BK6159.out 0).trans rfl
                                  have hcz77_1 : wr.cell? ⟨gb6159, 1, none⟩ = some (.string ((rd_T51 l1 x19_1).f1)) := (blk_cell BK6159.out 1).trans rfl
                                  have hcz77_2 : wr.cell? ⟨gb6159, 2, none⟩ = some (.bool ((rd_T51 l1 x19_1).f2)) := (blk_cell BK6159.out 2).trans rfl
                                  have hcz77_3 : wr.cell? ⟨gb6159, 3, none⟩ = some (.slice A6157_3 ((rd_T51 l1 x19_1).f3).length c6157_3) := (blk_cell BK6159.out 3).trans rfl
                                  have hcz77_4 : wr.cell? ⟨gb6159, 4, none⟩ = some (.slice A6157_4 ((rd_T51 l1 x19_1).f4).length c6157_4) := (blk_cell BK6159.out 4).trans rfl
                                  have hfz77_0 := blk_frozen BK6159.out 0
                                  have hfz77_1 := blk_frozen BK6159.out 1
                                  have hfz77_2 := blk_frozen BK6159.out 2
                                  have hfz77_3 := blk_frozen BK6159.out 3
                                  have hfz77_4 := blk_frozen BK6159.out 4
                                  obtain ⟨Ao78, co78, eo78⟩ := Kd.G_slice HO_10.out
                                  subst eo78
                                  go_wp2_with (first | ((with_reducible refine gate_callee (f := 43) rfl ?_); refine goesL_ (some 110) rfl rfl Try.func43 (by kernel_rfl) rfl #[.slice A6156_4 ((rd_T51 l0 x19_1).f4).length c6156_4, .slice A6157_4 ((rd_T51 l1 x19_1).f4).length c6157_4, .slice Ao78 x10_4.length co78] rfl (by (try simp only [List.map_toArray, List.map_cons, List.map_nil]); first | done | rfl | (simp only [List.length_drop, List.length_take]; rfl)) ?_; (with_reducible refine (ih k4 (by have := HK1.out; have := HJ8.out; have := HJ39.out; have := HK4.out; omega) _ _ ((rd_T51 l0 x19_1).f4) _ _ ((rd_T51 l1 x19_1).f4) _ _ x10_4 true _ ?side1 ?side2 ?side3 ?side4 ?side5 ?side6 A73.out).mono ?_); (case side1 => repeat (first | exact (Kd.C_below HR6156_4.out HB.out) | (with_reducible refine Kd.C_alloc ?_ _) | (with_reducible refine Kd.C_drewN ?_ _) | (with_reducible refine Kd.C_drew ?_))); (case side2 => exact HC6156_4.out); (case side3 => repeat (first | exact (Kd.C_below HR6157_4.out HB.out) | (with_reducible refine Kd.C_alloc ?_ _) | (with_reducible refine Kd.C_drewN ?_ _) | (with_reducible refine Kd.C_drew ?_))); (case side4 => exact HC6157_4.out); (case side5 => repeat (first | exact (Kd.G_reads' HO_10.out).2.2 | (with_reducible refine Kd.C_alloc ?_ _) | (with_reducible refine Kd.C_drewN ?_ _) | (with_reducible refine Kd.C_drew ?_))); (case side6 => exact (Kd.G_reads' HO_10.out).2.1); rintro e w79 ⟨rfl, hb⟩; refine ⟨_, rfl, ?_⟩; have n0_ := Aside0.mk (Kd.G_below (by (with_reducible repeat (first | apply Kd.G_alloc | apply Kd.G_drewN | apply Kd.G_drew)); exact HO_10.out) hb); have n1_ := Aside0.mk (blk_below (g := gb6158) (o := .cells #[.int .i64 ((rd_T51 l0 x19_1).f0), .string ((rd_T51 l0 x19_1).f1), .bool ((rd_T51 l0 x19_1).f2), .slice A6156_3 ((rd_T51 l0 x19_1).f3).length c6156_3, .slice A6156_4 ((rd_T51 l0 x19_1).f4).length c6156_4] 51 (0, 0)) (by (with_reducible repeat (first | refine blk_drewN ?_ _ | refine blk_drew ?_ | refine blk_alloc ?_ _)); exact BK6158.out) hb); have n2_ := Aside0.mk (blk_below (g := gb6159) (o := .cells #[.int .i64 ((rd_T51 l1 x19_1).f0), .string ((rd_T51 l1 x19_1).f1), .bool ((rd_T51 l1 x19_1).f2), .slice A6157_3 ((rd_T51 l1 x19_1).f3).length c6157_3, .slice A6157_4 ((rd_T51 l1 x19_1).f4).length c6157_4] 51 (0, 0)) (by (with_reducible repeat (first | refine blk_drewN ?_ _ | refine blk_drew ?_ | refine blk_alloc ?_ _)); exact BK6159.out) hb); have n3_ := Aside0.mk (below_step (by repeat (first | (with_reducible first | exact HB.out | apply below_alloc | apply pw_below_drewN | apply below_drew1 | refine below_set ?_ GE6158.out | refine below_set ?_ GE6159.out) | exact HB.out)) hb); clear HO_10; clear BK6158; clear BK6159; clear HB; have HO_10 := n0_; have BK6158 := n1_; have BK6159 := n2_; have HB := n3_; clear n0_ n1_ n2_ n3_; (try clear hb); (try clear hb2); (try clear hk); (try clear hi)))
                                  go_roundg k4
                                  case measure => have := HK1.out; have := HJ8.out; have := HJ39.out; have := HK4.out; omega
                                  case rel => exact ⟨(wrap64 (x19_1 + 1)), (by first | rfl | (simp; done) | (simp [*]; done)), H', ⟨by have := HK1.out; have := HJ8.out; have := HJ39.out; have := HK4.out; omega⟩, ⟨by repeat (first | (with_reducible first | exact HB.out | apply below_alloc | apply pw_below_drewN | apply below_drew1 | refine below_set ?_ GE6158.out | refine below_set ?_ GE6159.out) | exact HB.out)⟩⟩
                                · replace c74 := Bool.eq_false_iff.mpr c74
                                  subst c74
                                  have H1 : (some false) = some r := by rw [if_neg (show ¬ (false = true) by decide)] at H; exact H
                                  clear H
                                  have H := H1
                                  clear H1
                                  obtain rfl := Option.some.inj H
                                  have hnb80 := NB6158_6159.out
                                  have hnc80 := NB6159_6158.out
                                  have hcz81_0 : wr.cell? ⟨gb6158, 0, none⟩ = some (.int .i64 ((rd_T51 l0 x19_1).f0)) := (blk_cell BK6158.out 0).trans rfl
                                  have hcz81_1 : wr.cell? ⟨gb6158, 1, none⟩ = some (.string ((rd_T51 l0 x19_1).f1)) := (blk_cell BK6158.out 1).trans rfl
                                  have hcz81_2 : wr.cell? ⟨gb6158, 2, none⟩ = some (.bool ((rd_T51 l0 x19_1).f2)) := (blk_cell BK6158.out 2).trans rfl
                                  have hcz81_3 : wr.cell? ⟨gb6158, 3, none⟩ = some (.slice A6156_3 ((rd_T51 l0 x19_1).f3).length c6156_3) := (blk_cell BK6158.out 3).trans rfl
                                  have hcz81_4 : wr.cell? ⟨gb6158, 4, none⟩ = some (.slice A6156_4 ((rd_T51 l0 x19_1).f4).length c6156_4) := (blk_cell BK6158.out 4).trans rfl
                                  have hfz81_0 := blk_frozen BK6158.out 0
                                  have hfz81_1 := blk_frozen BK6158.out 1
                                  have hfz81_2 := blk_frozen BK6158.out 2
                                  have hfz81_3 := blk_frozen BK6158.out 3
                                  have hfz81_4 := blk_frozen BK6158.out 4
                                  have hcz82_0 : wr.cell? ⟨gb6159, 0, none⟩ = some (.int .i64 ((rd_T51 l1 x19_1).f0)) := (blk_cell BK6159.out 0).trans rfl
                                  have hcz82_1 : wr.cell? ⟨gb6159, 1, none⟩ = some (.string ((rd_T51 l1 x19_1).f1)) := (blk_cell BK6159.out 1).trans rfl
                                  have hcz82_2 : wr.cell? ⟨gb6159, 2, none⟩ = some (.bool ((rd_T51 l1 x19_1).f2)) := (blk_cell BK6159.out 2).trans rfl
                                  have hcz82_3 : wr.cell? ⟨gb6159, 3, none⟩ = some (.slice A6157_3 ((rd_T51 l1 x19_1).f3).length c6157_3) := (blk_cell BK6159.out 3).trans rfl
                                  have hcz82_4 : wr.cell? ⟨gb6159, 4, none⟩ = some (.slice A6157_4 ((rd_T51 l1 x19_1).f4).length c6157_4) := (blk_cell BK6159.out 4).trans rfl
                                  have hfz82_0 := blk_frozen BK6159.out 0
                                  have hfz82_1 := blk_frozen BK6159.out 1
                                  have hfz82_2 := blk_frozen BK6159.out 2
                                  have hfz82_3 := blk_frozen BK6159.out 3
                                  have hfz82_4 := blk_frozen BK6159.out 4
                                  obtain ⟨Ao83, co83, eo83⟩ := Kd.G_slice HO_10.out
                                  subst eo83
                                  go_wp2_with (first | ((with_reducible refine gate_callee (f := 43) rfl ?_); refine goesL_ (some 110) rfl rfl Try.func43 (by kernel_rfl) rfl #[.slice A6156_4 ((rd_T51 l0 x19_1).f4).length c6156_4, .slice A6157_4 ((rd_T51 l1 x19_1).f4).length c6157_4, .slice Ao83 x10_4.length co83] rfl (by (try simp only [List.map_toArray, List.map_cons, List.map_nil]); first | done | rfl | (simp only [List.length_drop, List.length_take]; rfl)) ?_; (with_reducible refine (ih k4 (by have := HK1.out; have := HJ8.out; have := HJ39.out; have := HK4.out; omega) _ _ ((rd_T51 l0 x19_1).f4) _ _ ((rd_T51 l1 x19_1).f4) _ _ x10_4 false _ ?side1 ?side2 ?side3 ?side4 ?side5 ?side6 A73.out).mono ?_); (case side1 => repeat (first | exact (Kd.C_below HR6156_4.out HB.out) | (with_reducible refine Kd.C_alloc ?_ _) | (with_reducible refine Kd.C_drewN ?_ _) | (with_reducible refine Kd.C_drew ?_))); (case side2 => exact HC6156_4.out); (case side3 => repeat (first | exact (Kd.C_below HR6157_4.out HB.out) | (with_reducible refine Kd.C_alloc ?_ _) | (with_reducible refine Kd.C_drewN ?_ _) | (with_reducible refine Kd.C_drew ?_))); (case side4 => exact HC6157_4.out); (case side5 => repeat (first | exact (Kd.G_reads' HO_10.out).2.2 | (with_reducible refine Kd.C_alloc ?_ _) | (with_reducible refine Kd.C_drewN ?_ _) | (with_reducible refine Kd.C_drew ?_))); (case side6 => exact (Kd.G_reads' HO_10.out).2.1); rintro e w84 ⟨rfl, hb⟩; refine ⟨_, rfl, ?_⟩; have n0_ := Aside0.mk (Kd.G_below (by (with_reducible repeat (first | apply Kd.G_alloc | apply Kd.G_drewN | apply Kd.G_drew)); exact HO_10.out) hb); have n1_ := Aside0.mk (blk_below (g := gb6158) (o := .cells #[.int .i64 ((rd_T51 l0 x19_1).f0), .string ((rd_T51 l0 x19_1).f1), .bool ((rd_T51 l0 x19_1).f2), .slice A6156_3 ((rd_T51 l0 x19_1).f3).length c6156_3, .slice A6156_4 ((rd_T51 l0 x19_1).f4).length c6156_4] 51 (0, 0)) (by (with_reducible repeat (first | refine blk_drewN ?_ _ | refine blk_drew ?_ | refine blk_alloc ?_ _)); exact BK6158.out) hb); have n2_ := Aside0.mk (blk_below (g := gb6159) (o := .cells #[.int .i64 ((rd_T51 l1 x19_1).f0), .string ((rd_T51 l1 x19_1).f1), .bool ((rd_T51 l1 x19_1).f2), .slice A6157_3 ((rd_T51 l1 x19_1).f3).length c6157_3, .slice A6157_4 ((rd_T51 l1 x19_1).f4).length c6157_4] 51 (0, 0)) (by (with_reducible repeat (first | refine blk_drewN ?_ _ | refine blk_drew ?_ | refine blk_alloc ?_ _)); exact BK6159.out) hb); have n3_ := Aside0.mk (below_step (by repeat (first | (with_reducible first | exact HB.out | apply below_alloc | apply pw_below_drewN | apply below_drew1 | refine below_set ?_ GE6158.out | refine below_set ?_ GE6159.out) | exact HB.out)) hb); clear HO_10; clear BK6158; clear BK6159; clear HB; have HO_10 := n0_; have BK6158 := n1_; have BK6159 := n2_; have HB := n3_; clear n0_ n1_ n2_ n3_; (try clear hb); (try clear hb2); (try clear hk); (try clear hi)))
                                  go_ret
                                  exact ⟨by first | rfl | (simp [errW_none, errW_some] <;> rfl) | (simp [*, errW_none, errW_some] <;> rfl), by repeat (first | (with_reducible first | exact HB.out | apply below_alloc | apply pw_below_drewN | apply below_drew1 | refine below_set ?_ GE6158.out | refine below_set ?_ GE6159.out) | exact HB.out)⟩
              · rw [if_neg c8] at H
                exact absurd H (by simp)
            · rw [if_neg c7] at H
              exact absurd H (by simp)
          · rw [if_neg c6] at H
            exact absurd H (by simp)
        · rw [if_neg c5] at H
          have c5b0 : decide (x19_1 < (l0.length : Int)) = false := decide_eq_false c5
          clear c5
          obtain rfl := Option.some.inj H
          go_wp2
          go_ret
          exact ⟨by first | rfl | (simp [errW_none, errW_some] <;> rfl) | (simp [*, errW_none, errW_some] <;> rfl), by repeat (first | (with_reducible first | exact HB.out | apply below_alloc | apply pw_below_drewN | apply below_drew1) | exact HB.out)⟩
  · rw [if_neg c4] at H
    have c4b0 : ((l0.length : Int) == (l1.length : Int)) = false := beq_eq_false_iff_ne.mpr c4
    have c4b1 : ((l0.length : Int) != (l1.length : Int)) = true := bne_iff_ne.mpr c4
    have c4b2 : (l0.length == l1.length) = false := by first | simpa using c4 | (simp at c4 ⊢; omega)
    obtain rfl := Option.some.inj H
    go_enter Try.func43, Try.ntmps43
    go_wp2
    go_ret
    exact ⟨by first | rfl | (simp [errW_none, errW_some] <;> rfl) | (simp [*, errW_none, errW_some] <;> rfl), by repeat (first | (with_reducible first | exact HB.out | apply below_alloc | apply pw_below_drewN | apply below_drew1) | exact HB.out)⟩

end Go.Proofs.Ytmdhanegafclmaa.PFnExactExpAlpha
