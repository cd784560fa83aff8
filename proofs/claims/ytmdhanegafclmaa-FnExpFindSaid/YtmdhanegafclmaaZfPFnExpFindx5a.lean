/- PFnExpFindx5 of the seat's texts, its first part, cut down by prune.py. -/
import Derived.Test.YtmdhanegafclmaaZfPFnExpFindx0
import Derived.Test.YtmdhanegafclmaaZfPFnExpFindx1
import Derived.Test.YtmdhanegafclmaaZfPFnExpFindx4
namespace Go.Proofs.Ytmdhanegafclmaa.PFnExpFind
open Go.RowKit Go.Proofs.YtmdhanegafclmaaW.PrintWords Go.Proofs.YtmdhanegafclmaaW.PrintLast Go.Proofs.YtmdhanegafclmaaW.PrintMore
attribute [local go_sem] max2_int min2_int max_two min_two max_three min_three max_four min_four
set_option linter.unusedVariables false
set_option linter.unusedSimpArgs false
def spec_l8Spoil.l0 : Nat → Int → List Int → Int → Int → ByteArray → List Int → Int → List (S35) → Option (Int × ByteArray × List Int × Int × (List (S35)) × Int)
 | 0, _, _, _, _, _, _, _, _ => none
 | k + 1, x6, x1000, x1001, x3239000, x3239001, x3239002, x3239003, x3239004 => if x6 > 0 then (spec_l8Spoil.l0 k (wrap64 (x6 - 1)) x1000 x1001 3 (⟨#[]⟩ : ByteArray) ([] : List Int) 0 (([(⟨x3239000, x3239001, x3239002, x3239003, x3239004⟩ : S35)] : List (S35)))) else (some (x3239000, x3239001, x3239002, x3239003, x3239004, x1001))
def spec_l8Spoil.f (k : Nat) (s0_0 : List Int) (s0_1 : Int) (a1_0 : Int) (a1_1 : ByteArray) (l1_2 : List Int) (a1_3 : Int) (l1_4 : List (S35)) : Option (Int × ByteArray × List Int × Int × (List (S35)) × Int) := (spec_l1Copy.f k a1_0 a1_1 l1_2 a1_3 l1_4).bind fun bt3229 => ((spec_l1Rd_pick.f k s0_0 s0_1 6).bind fun bt3239 => (if bt3239.1 = 0 then ((spec_l1Rd_pick.f k s0_0 bt3239.2 7).bind fun bt3241 => (some (wrap64 (bt3241.1 - 1), bt3229.2.1, bt3229.2.2.1, bt3229.2.2.2.1, bt3229.2.2.2.2, bt3241.2))) else (if bt3239.1 = 1 then ((spec_l1Rd_of.f k s0_0 bt3239.2 (([(⟨#[]⟩ : ByteArray), (⟨#[120]⟩ : ByteArray), (⟨#[49]⟩ : ByteArray), (⟨#[97, 32, 98]⟩ : ByteArray), (⟨#[40]⟩ : ByteArray), (⟨#[46]⟩ : ByteArray)] : List ByteArray))).bind fun bt3246 => (some (bt3229.1, bt3246.1, bt3229.2.2.1, bt3229.2.2.2.1, bt3229.2.2.2.2, bt3246.2))) else (if bt3239.1 = 2 then ((some (([(-1), 0, 7] : List Int) : List Int)).bind fun y3248 => ((spec_l1Rd_pick.f k s0_0 bt3239.2 3).bind fun bt3251 => (if 0 ≤ bt3251.1 then (if bt3251.1 < (y3248.length : Int) then (if bt3229.2.2.1.length < 17592186044416 then (some (bt3229.1, bt3229.2.1, (bt3229.2.2.1 ++ [rd y3248 bt3251.1]), bt3229.2.2.2.1, bt3229.2.2.2.2, bt3251.2)) else (none)) else (none)) else (none)))) else (if bt3239.1 = 3 then ((some (([(-1), 0, 5] : List Int) : List Int)).bind fun y3257 => ((spec_l1Rd_pick.f k s0_0 bt3239.2 3).bind fun bt3260 => (if 0 ≤ bt3260.1 then (if bt3260.1 < (y3257.length : Int) then (some (bt3229.1, bt3229.2.1, bt3229.2.2.1, rd y3257 bt3260.1, bt3229.2.2.2.2, bt3260.2)) else (none)) else (none)))) else (if bt3239.1 = 4 then (if bt3229.2.2.2.2.length < 1759218604441 then (some (bt3229.1, bt3229.2.1, bt3229.2.2.1, bt3229.2.2.2.1, (bt3229.2.2.2.2 ++ [(⟨3, (⟨#[]⟩ : ByteArray), ([] : List Int), 0, ([] : List (S35))⟩ : S35)]), bt3239.2)) else (none)) else ((spec_l1Rd_pick.f k s0_0 bt3239.2 3).bind fun bt3266 => (spec_l8Spoil.l0 k (wrap64 ((wrap64 (60 + bt3266.1)) - 3)) s0_0 bt3266.2 bt3229.1 bt3229.2.1 bt3229.2.2.1 bt3229.2.2.2.1 bt3229.2.2.2.2))))))))
theorem spec_l8Spoil.mono_l : ∀ k, (∀ y0 y1 y2 y3 y4 y5 y6 y7, LeO (spec_l8Spoil.l0 k y0 y1 y2 y3 y4 y5 y6 y7) (spec_l8Spoil.l0 (k + 1) y0 y1 y2 y3 y4 y5 y6 y7))
 | 0 => fun _ _ _ _ _ _ _ _ r h => by simp [spec_l8Spoil.l0] at h
 | k + 1 => by
  have ih0 := spec_l8Spoil.mono_l k
  ·intro y0 y1 y2 y3 y4 y5 y6 y7
   unfold spec_l8Spoil.l0
   repeat' first
   | (with_reducible exact ih0 _ _ _ _ _ _ _ _)
   | (with_reducible exact spec_l1Copy.mono _ _ _ _ _ _)
   | (with_reducible exact spec_l1Rd_of.mono _ _ _ _)
   | (with_reducible exact spec_l1Rd_pick.mono _ _ _ _)
   | (with_reducible exact LeO.refl _)
   | (with_reducible exact LeO.none _)
   | (with_reducible refine LeO.ite ?_ ?_)
   | (with_reducible refine LeO.bind ?_ (fun _ => ?_))
   | exact ih0 _ _ _ _ _ _ _ _
   | exact spec_l1Copy.mono _ _ _ _ _ _
   | exact spec_l1Rd_of.mono _ _ _ _
   | exact spec_l1Rd_pick.mono _ _ _ _
   | exact LeO.none _
   | refine LeO.ite ?_ ?_
   | refine LeO.bind ?_ (fun _ => ?_)
theorem spec_l8Spoil.mono : ∀ a0 a1 a2 a3 a4 a5 a6 k, LeO (spec_l8Spoil.f k a0 a1 a2 a3 a4 a5 a6) (spec_l8Spoil.f (k + 1) a0 a1 a2 a3 a4 a5 a6) := by
 intro a0 a1 a2 a3 a4 a5 a6 k
 have ih0 := spec_l8Spoil.mono_l k
 unfold spec_l8Spoil.f
 repeat' first
   | (with_reducible exact ih0 _ _ _ _ _ _ _ _)
   | (with_reducible exact spec_l1Copy.mono _ _ _ _ _ _)
   | (with_reducible exact spec_l1Rd_of.mono _ _ _ _)
   | (with_reducible exact spec_l1Rd_pick.mono _ _ _ _)
   | (with_reducible exact LeO.refl _)
   | (with_reducible exact LeO.none _)
   | (with_reducible refine LeO.ite ?_ ?_)
   | (with_reducible refine LeO.bind ?_ (fun _ => ?_))
   | exact ih0 _ _ _ _ _ _ _ _
   | exact spec_l1Copy.mono _ _ _ _ _ _
   | exact spec_l1Rd_of.mono _ _ _ _
   | exact spec_l1Rd_pick.mono _ _ _ _
   | exact LeO.none _
   | refine LeO.ite ?_ ?_
   | refine LeO.bind ?_ (fun _ => ?_)
def spec_l8Spoil.T12 : Bool × List (List Nat × List Nat) := (true, [([], []), ([0], [0]), ([], []), ([], []), ([3], [3]), ([2, 4], [2, 4]), ([5], [5]), ([6], [6]), ([1, 7, 4], [1, 7]), ([0, 1, 2, 3, 4, 5, 6, 7, 8], []), ([9, 8, 8, 0, 1, 2, 3, 4, 5, 6, 7, 8], [8, 9])])
def spec_l8Spoil.B12 : List Nat := [0, 1, 0, 0, 8, 28, 60, 124, 255, 511, 1023]
theorem spec_l8Spoil.tab12 : rtab .any (opsOf Try.f81 12) = spec_l8Spoil.T12 := by kernel_rfl
theorem spec_l8Spoil.bits12 : waitsOk spec_l8Spoil.T12.2 spec_l8Spoil.B12 = true := by kernel_rfl
end Go.Proofs.Ytmdhanegafclmaa.PFnExpFind
