/- PFnExactExpShowx8 of the seat's texts, cut down by prune.py to what the theorem comes to. -/
import Derived.Test.YtmdhanegafclmaaDoorZsPFnExactExpShowx0
import Derived.Test.YtmdhanegafclmaaDoorZsPFnExactExpShowx7
namespace Go.Proofs.YtmdhanegafclmaaDoor.PFnExactExpShow
open Go.RowKit Go.Proofs.YtmdhanegafclmaaDoorW.PrintWords Go.Proofs.YtmdhanegafclmaaDoorW.PrintLast Go.Proofs.YtmdhanegafclmaaDoorW.PrintMore
attribute [local go_sem] max2_int min2_int max_two min_two max_three min_three max_four min_four
set_option linter.unusedVariables false
set_option linter.unusedSimpArgs false
mutual
def impl_expCount.j0 : Nat → Int → Bool → Int → ByteArray → List Int → Int → List (S35) → Option (Int)
 | 0, _, _, _, _, _, _, _ => none
 | k + 1, x5, x38, x9177000, x9177001, x9177002, x9177003, x9177004 => if x38 = true then (some (-1)) else (impl_expCount.l0 k x5 x9177002 (x9177002.length : Int) 0 x9177000 x9177001 x9177002 x9177003 x9177004)
def impl_expCount.l0 : Nat → Int → List Int → Int → Int → Int → ByteArray → List Int → Int → List (S35) → Option (Int)
 | 0, _, _, _, _, _, _, _, _, _ => none
 | k + 1, x5, x40, x41, x42, x9177000, x9177001, x9177002, x9177003, x9177004 => if x42 < x41 then (if 0 ≤ x42 then (if x42 < (x40.length : Int) then (if (rd x40 x42) < 0 then (some (-1)) else (if x42 > 0 then (if 0 ≤ (wrap64 (x42 - 1)) then (if (wrap64 (x42 - 1)) < (x9177002.length : Int) then (if (rd x9177002 (wrap64 (x42 - 1))) ≥ (rd x40 x42) then (some (-1)) else (impl_expCount.l0 k x5 x40 x41 (wrap64 (x42 + 1)) x9177000 x9177001 x9177002 x9177003 x9177004)) else (none)) else (none)) else (impl_expCount.l0 k x5 x40 x41 (wrap64 (x42 + 1)) x9177000 x9177001 x9177002 x9177003 x9177004))) else (none)) else (none)) else (some x5)
def impl_expCount.j2 : Nat → Int → Int → Bool → Int → ByteArray → List Int → Int → List (S35) → Option (Int)
 | 0, _, _, _, _, _, _, _, _ => none
 | k + 1, x1, x5, x93, x9177000, x9177001, x9177002, x9177003, x9177004 => if x93 = true then (if x9177001.toList = ([] : List UInt8) then (if x9177003 = 0 then (impl_expCount.j3 k x1 x5 (decide ((x9177002.length : Int) > 0)) x9177000 x9177001 x9177002 x9177003 x9177004) else (impl_expCount.j3 k x1 x5 true x9177000 x9177001 x9177002 x9177003 x9177004)) else (impl_expCount.j3 k x1 x5 true x9177000 x9177001 x9177002 x9177003 x9177004)) else (some (-1))
def impl_expCount.j3 : Nat → Int → Int → Bool → Int → ByteArray → List Int → Int → List (S35) → Option (Int)
 | 0, _, _, _, _, _, _, _, _ => none
 | k + 1, x1, x5, x109, x9177000, x9177001, x9177002, x9177003, x9177004 => if x109 = true then (some (-1)) else (if x9177000 = 4 then (if (x9177004.length : Int) < 2 then (some (-1)) else (if 0 ≤ (wrap64 ((x9177004.length : Int) - 1)) then (if (wrap64 ((x9177004.length : Int) - 1)) < (x9177004.length : Int) then (if ((rd_T35 x9177004 (wrap64 ((x9177004.length : Int) - 1))).f0) = 1 then (impl_expCount.j4 k x1 x5 x9177000 x9177001 x9177002 x9177003 x9177004) else (if ((rd_T35 x9177004 (wrap64 ((x9177004.length : Int) - 1))).f0) = 2 then (impl_expCount.j4 k x1 x5 x9177000 x9177001 x9177002 x9177003 x9177004) else (some (-1)))) else (none)) else (none))) else (impl_expCount.j4 k x1 x5 x9177000 x9177001 x9177002 x9177003 x9177004))
def impl_expCount.j4 : Nat → Int → Int → Int → ByteArray → List Int → Int → List (S35) → Option (Int)
 | 0, _, _, _, _, _, _, _ => none
 | k + 1, x1, x5, x9177000, x9177001, x9177002, x9177003, x9177004 => impl_expCount.l1 k x1 x5 x9177004 (x9177004.length : Int) 0
def impl_expCount.l1 : Nat → Int → Int → List (S35) → Int → Int → Option (Int)
 | 0, _, _, _, _, _ => none
 | k + 1, x1, x5, x139, x140, x141 => if x141 < x140 then (if 0 ≤ x141 then (if x141 < (x139.length : Int) then ((impl_expCount.f k ((rd_T35 x139 x141).f0) ((rd_T35 x139 x141).f1) ((rd_T35 x139 x141).f2) ((rd_T35 x139 x141).f3) ((rd_T35 x139 x141).f4) (wrap64 (x1 + 1))).bind fun t9185 => (if t9185 < 0 then (some (-1)) else (if (wrap64 (x5 + t9185)) > 1500 then (some (-1)) else (impl_expCount.l1 k x1 (wrap64 (x5 + t9185)) x139 x140 (wrap64 (x141 + 1)))))) else (none)) else (none)) else (some x5)
def impl_expCount.f : Nat → Int → ByteArray → List Int → Int → List (S35) → Int → Option (Int)
 | 0, _, _, _, _, _, _ => none
 | k + 1, a0_0, a0_1, l0_2, a0_3, l0_4, a1 => if a1 > 60 then (some (-1)) else (if a0_0 = 1 then ((impl_expId.f k a0_1).bind fun t9177 => (if t9177 = true then (if (a0_1.size : Int) > 40 then (impl_expCount.j0 k 1 true a0_0 a0_1 l0_2 a0_3 l0_4) else (if a0_3 < 0 then (impl_expCount.j0 k 1 true a0_0 a0_1 l0_2 a0_3 l0_4) else (impl_expCount.j0 k 1 (decide ((l0_4.length : Int) > 0)) a0_0 a0_1 l0_2 a0_3 l0_4))) else (impl_expCount.j0 k 1 true a0_0 a0_1 l0_2 a0_3 l0_4))) else (if a0_0 = 2 then ((impl_expAtom.f k a0_1).bind fun t9180 => (if t9180 = true then (if (a0_1.size : Int) > 40 then (some (-1)) else (if a0_3 = 0 then (if (l0_2.length : Int) > 0 then (some (-1)) else (if (l0_4.length : Int) > 0 then (some (-1)) else (some 1))) else (some (-1)))) else (some (-1)))) else (if a0_0 = 3 then (impl_expCount.j2 k a1 1 (a0_0 == 3) a0_0 a0_1 l0_2 a0_3 l0_4) else (impl_expCount.j2 k a1 1 (a0_0 == 4) a0_0 a0_1 l0_2 a0_3 l0_4))))
end
theorem impl_expCount.mono_l : ∀ k, (∀ y0 y1 y2 y3 y4 y5, LeO (impl_expCount.f k y0 y1 y2 y3 y4 y5) (impl_expCount.f (k + 1) y0 y1 y2 y3 y4 y5)) ∧ (∀ y0 y1 y2 y3 y4 y5 y6, LeO (impl_expCount.j0 k y0 y1 y2 y3 y4 y5 y6) (impl_expCount.j0 (k + 1) y0 y1 y2 y3 y4 y5 y6)) ∧ (∀ y0 y1 y2 y3 y4 y5 y6 y7 y8, LeO (impl_expCount.l0 k y0 y1 y2 y3 y4 y5 y6 y7 y8) (impl_expCount.l0 (k + 1) y0 y1 y2 y3 y4 y5 y6 y7 y8)) ∧ (∀ y0 y1 y2 y3 y4 y5 y6 y7, LeO (impl_expCount.j2 k y0 y1 y2 y3 y4 y5 y6 y7) (impl_expCount.j2 (k + 1) y0 y1 y2 y3 y4 y5 y6 y7)) ∧ (∀ y0 y1 y2 y3 y4 y5 y6 y7, LeO (impl_expCount.j3 k y0 y1 y2 y3 y4 y5 y6 y7) (impl_expCount.j3 (k + 1) y0 y1 y2 y3 y4 y5 y6 y7)) ∧ (∀ y0 y1 y2 y3 y4 y5 y6, LeO (impl_expCount.j4 k y0 y1 y2 y3 y4 y5 y6) (impl_expCount.j4 (k + 1) y0 y1 y2 y3 y4 y5 y6)) ∧ (∀ y0 y1 y2 y3 y4, LeO (impl_expCount.l1 k y0 y1 y2 y3 y4) (impl_expCount.l1 (k + 1) y0 y1 y2 y3 y4))
 | 0 => ⟨fun _ _ _ _ _ _ r h => by simp [impl_expCount.f] at h, fun _ _ _ _ _ _ _ r h => by simp [impl_expCount.j0] at h, fun _ _ _ _ _ _ _ _ _ r h => by simp [impl_expCount.l0] at h, fun _ _ _ _ _ _ _ _ r h => by simp [impl_expCount.j2] at h, fun _ _ _ _ _ _ _ _ r h => by simp [impl_expCount.j3] at h, fun _ _ _ _ _ _ _ r h => by simp [impl_expCount.j4] at h, fun _ _ _ _ _ r h => by simp [impl_expCount.l1] at h⟩
 | k + 1 => by
  obtain ⟨ih0, ih1, ih2, ih3, ih4, ih5, ih6⟩ := impl_expCount.mono_l k
  refine ⟨?_, ?_, ?_, ?_, ?_, ?_, ?_⟩
  ·intro y0 y1 y2 y3 y4 y5
   unfold impl_expCount.f
   repeat' first
   | (with_reducible exact ih0 _ _ _ _ _ _)
   | (with_reducible exact ih1 _ _ _ _ _ _ _)
   | (with_reducible exact ih2 _ _ _ _ _ _ _ _ _)
   | (with_reducible exact ih3 _ _ _ _ _ _ _ _)
   | (with_reducible exact ih4 _ _ _ _ _ _ _ _)
   | (with_reducible exact ih5 _ _ _ _ _ _ _)
   | (with_reducible exact ih6 _ _ _ _ _)
   | (with_reducible exact impl_expAtom.mono _ _)
   | (with_reducible exact impl_expId.mono _ _)
   | (with_reducible exact LeO.refl _)
   | (with_reducible exact LeO.none _)
   | (with_reducible refine LeO.ite ?_ ?_)
   | (with_reducible refine LeO.bind ?_ (fun _ => ?_))
   | exact ih0 _ _ _ _ _ _
   | exact ih1 _ _ _ _ _ _ _
   | exact ih2 _ _ _ _ _ _ _ _ _
   | exact ih3 _ _ _ _ _ _ _ _
   | exact ih4 _ _ _ _ _ _ _ _
   | exact ih5 _ _ _ _ _ _ _
   | exact ih6 _ _ _ _ _
   | exact impl_expAtom.mono _ _
   | exact impl_expId.mono _ _
   | exact LeO.none _
   | refine LeO.ite ?_ ?_
   | refine LeO.bind ?_ (fun _ => ?_)
  ·intro y0 y1 y2 y3 y4 y5 y6
   unfold impl_expCount.j0
   repeat' first
   | (with_reducible exact ih0 _ _ _ _ _ _)
   | (with_reducible exact ih1 _ _ _ _ _ _ _)
   | (with_reducible exact ih2 _ _ _ _ _ _ _ _ _)
   | (with_reducible exact ih3 _ _ _ _ _ _ _ _)
   | (with_reducible exact ih4 _ _ _ _ _ _ _ _)
   | (with_reducible exact ih5 _ _ _ _ _ _ _)
   | (with_reducible exact ih6 _ _ _ _ _)
   | (with_reducible exact impl_expAtom.mono _ _)
   | (with_reducible exact impl_expId.mono _ _)
   | (with_reducible exact LeO.refl _)
   | (with_reducible exact LeO.none _)
   | (with_reducible refine LeO.ite ?_ ?_)
   | (with_reducible refine LeO.bind ?_ (fun _ => ?_))
   | exact ih0 _ _ _ _ _ _
   | exact ih1 _ _ _ _ _ _ _
   | exact ih2 _ _ _ _ _ _ _ _ _
   | exact ih3 _ _ _ _ _ _ _ _
   | exact ih4 _ _ _ _ _ _ _ _
   | exact ih5 _ _ _ _ _ _ _
   | exact ih6 _ _ _ _ _
   | exact impl_expAtom.mono _ _
   | exact impl_expId.mono _ _
   | exact LeO.none _
   | refine LeO.ite ?_ ?_
   | refine LeO.bind ?_ (fun _ => ?_)
  ·intro y0 y1 y2 y3 y4 y5 y6 y7 y8
   unfold impl_expCount.l0
   repeat' first
   | (with_reducible exact ih0 _ _ _ _ _ _)
   | (with_reducible exact ih1 _ _ _ _ _ _ _)
   | (with_reducible exact ih2 _ _ _ _ _ _ _ _ _)
   | (with_reducible exact ih3 _ _ _ _ _ _ _ _)
   | (with_reducible exact ih4 _ _ _ _ _ _ _ _)
   | (with_reducible exact ih5 _ _ _ _ _ _ _)
   | (with_reducible exact ih6 _ _ _ _ _)
   | (with_reducible exact impl_expAtom.mono _ _)
   | (with_reducible exact impl_expId.mono _ _)
   | (with_reducible exact LeO.refl _)
   | (with_reducible exact LeO.none _)
   | (with_reducible refine LeO.ite ?_ ?_)
   | (with_reducible refine LeO.bind ?_ (fun _ => ?_))
   | exact ih0 _ _ _ _ _ _
   | exact ih1 _ _ _ _ _ _ _
   | exact ih2 _ _ _ _ _ _ _ _ _
   | exact ih3 _ _ _ _ _ _ _ _
   | exact ih4 _ _ _ _ _ _ _ _
   | exact ih5 _ _ _ _ _ _ _
   | exact ih6 _ _ _ _ _
   | exact impl_expAtom.mono _ _
   | exact impl_expId.mono _ _
   | exact LeO.none _
   | refine LeO.ite ?_ ?_
   | refine LeO.bind ?_ (fun _ => ?_)
  ·intro y0 y1 y2 y3 y4 y5 y6 y7
   unfold impl_expCount.j2
   repeat' first
   | (with_reducible exact ih0 _ _ _ _ _ _)
   | (with_reducible exact ih1 _ _ _ _ _ _ _)
   | (with_reducible exact ih2 _ _ _ _ _ _ _ _ _)
   | (with_reducible exact ih3 _ _ _ _ _ _ _ _)
   | (with_reducible exact ih4 _ _ _ _ _ _ _ _)
   | (with_reducible exact ih5 _ _ _ _ _ _ _)
   | (with_reducible exact ih6 _ _ _ _ _)
   | (with_reducible exact impl_expAtom.mono _ _)
   | (with_reducible exact impl_expId.mono _ _)
   | (with_reducible exact LeO.refl _)
   | (with_reducible exact LeO.none _)
   | (with_reducible refine LeO.ite ?_ ?_)
   | (with_reducible refine LeO.bind ?_ (fun _ => ?_))
   | exact ih0 _ _ _ _ _ _
   | exact ih1 _ _ _ _ _ _ _
   | exact ih2 _ _ _ _ _ _ _ _ _
   | exact ih3 _ _ _ _ _ _ _ _
   | exact ih4 _ _ _ _ _ _ _ _
   | exact ih5 _ _ _ _ _ _ _
   | exact ih6 _ _ _ _ _
   | exact impl_expAtom.mono _ _
   | exact impl_expId.mono _ _
   | exact LeO.none _
   | refine LeO.ite ?_ ?_
   | refine LeO.bind ?_ (fun _ => ?_)
  ·intro y0 y1 y2 y3 y4 y5 y6 y7
   unfold impl_expCount.j3
   repeat' first
   | (with_reducible exact ih0 _ _ _ _ _ _)
   | (with_reducible exact ih1 _ _ _ _ _ _ _)
   | (with_reducible exact ih2 _ _ _ _ _ _ _ _ _)
   | (with_reducible exact ih3 _ _ _ _ _ _ _ _)
   | (with_reducible exact ih4 _ _ _ _ _ _ _ _)
   | (with_reducible exact ih5 _ _ _ _ _ _ _)
   | (with_reducible exact ih6 _ _ _ _ _)
   | (with_reducible exact impl_expAtom.mono _ _)
   | (with_reducible exact impl_expId.mono _ _)
   | (with_reducible exact LeO.refl _)
   | (with_reducible exact LeO.none _)
   | (with_reducible refine LeO.ite ?_ ?_)
   | (with_reducible refine LeO.bind ?_ (fun _ => ?_))
   | exact ih0 _ _ _ _ _ _
   | exact ih1 _ _ _ _ _ _ _
   | exact ih2 _ _ _ _ _ _ _ _ _
   | exact ih3 _ _ _ _ _ _ _ _
   | exact ih4 _ _ _ _ _ _ _ _
   | exact ih5 _ _ _ _ _ _ _
   | exact ih6 _ _ _ _ _
   | exact impl_expAtom.mono _ _
   | exact impl_expId.mono _ _
   | exact LeO.none _
   | refine LeO.ite ?_ ?_
   | refine LeO.bind ?_ (fun _ => ?_)
  ·intro y0 y1 y2 y3 y4 y5 y6
   unfold impl_expCount.j4
   repeat' first
   | (with_reducible exact ih0 _ _ _ _ _ _)
   | (with_reducible exact ih1 _ _ _ _ _ _ _)
   | (with_reducible exact ih2 _ _ _ _ _ _ _ _ _)
   | (with_reducible exact ih3 _ _ _ _ _ _ _ _)
   | (with_reducible exact ih4 _ _ _ _ _ _ _ _)
   | (with_reducible exact ih5 _ _ _ _ _ _ _)
   | (with_reducible exact ih6 _ _ _ _ _)
   | (with_reducible exact impl_expAtom.mono _ _)
   | (with_reducible exact impl_expId.mono _ _)
   | (with_reducible exact LeO.refl _)
   | (with_reducible exact LeO.none _)
   | (with_reducible refine LeO.ite ?_ ?_)
   | (with_reducible refine LeO.bind ?_ (fun _ => ?_))
   | exact ih0 _ _ _ _ _ _
   | exact ih1 _ _ _ _ _ _ _
   | exact ih2 _ _ _ _ _ _ _ _ _
   | exact ih3 _ _ _ _ _ _ _ _
   | exact ih4 _ _ _ _ _ _ _ _
   | exact ih5 _ _ _ _ _ _ _
   | exact ih6 _ _ _ _ _
   | exact impl_expAtom.mono _ _
   | exact impl_expId.mono _ _
   | exact LeO.none _
   | refine LeO.ite ?_ ?_
   | refine LeO.bind ?_ (fun _ => ?_)
  ·intro y0 y1 y2 y3 y4
   unfold impl_expCount.l1
   repeat' first
   | (with_reducible exact ih0 _ _ _ _ _ _)
   | (with_reducible exact ih1 _ _ _ _ _ _ _)
   | (with_reducible exact ih2 _ _ _ _ _ _ _ _ _)
   | (with_reducible exact ih3 _ _ _ _ _ _ _ _)
   | (with_reducible exact ih4 _ _ _ _ _ _ _ _)
   | (with_reducible exact ih5 _ _ _ _ _ _ _)
   | (with_reducible exact ih6 _ _ _ _ _)
   | (with_reducible exact impl_expAtom.mono _ _)
   | (with_reducible exact impl_expId.mono _ _)
   | (with_reducible exact LeO.refl _)
   | (with_reducible exact LeO.none _)
   | (with_reducible refine LeO.ite ?_ ?_)
   | (with_reducible refine LeO.bind ?_ (fun _ => ?_))
   | exact ih0 _ _ _ _ _ _
   | exact ih1 _ _ _ _ _ _ _
   | exact ih2 _ _ _ _ _ _ _ _ _
   | exact ih3 _ _ _ _ _ _ _ _
   | exact ih4 _ _ _ _ _ _ _ _
   | exact ih5 _ _ _ _ _ _ _
   | exact ih6 _ _ _ _ _
   | exact impl_expAtom.mono _ _
   | exact impl_expId.mono _ _
   | exact LeO.none _
   | refine LeO.ite ?_ ?_
   | refine LeO.bind ?_ (fun _ => ?_)
theorem impl_expCount.mono : ∀ a0 a1 a2 a3 a4 a5 k, LeO (impl_expCount.f k a0 a1 a2 a3 a4 a5) (impl_expCount.f (k + 1) a0 a1 a2 a3 a4 a5) := by
 intro a0 a1 a2 a3 a4 a5 k
 obtain ⟨ih0, ih1, ih2, ih3, ih4, ih5, ih6⟩ := impl_expCount.mono_l k
 exact ih0 a0 a1 a2 a3 a4 a5
set_option maxHeartbeats 8000000 in
set_option maxRecDepth 100000 in
theorem impl_expCount.calls (k : Nat) : ∀ (a0_0 : Int) (a0_1 : ByteArray) (A0_2 : Option Addr) (c0_2 : Nat) (l0_2 : List Int) (a0_3 : Int) (A0_4 : Option Addr) (c0_4 : Nat) (l0_4 : List (S35)) (a1 : Int) (r : Int) (w : World) (hr0_2 : Kd.C (Kd.int .i64) w A0_2 l0_2.length l0_2) (hc0_2 : l0_2.length ≤ c0_2) (hr0_4 : Kd.C k35 w A0_4 l0_4.length l0_4) (hc0_4 : l0_4.length ≤ c0_4) (h : impl_expCount.f k a0_0 a0_1 l0_2 a0_3 l0_4 a1 = some r),
  Calls Tryd.prog 34 #[.agg #[.int .i64 a0_0, .string a0_1, .slice A0_2 l0_2.length c0_2, .int .i64 a0_3, .slice A0_4 l0_4.length c0_4], .int .i64 a1] w fun e w' => e = .returned (.int .i64 r) ∧ Below w.heap.size w w' := by
 induction k using Nat.strongRecOn with
 | _ k ih =>
 intro a0_0 a0_1 A0_2 c0_2 l0_2 a0_3 A0_4 c0_4 l0_4 a1 r w hr0_2 hc0_2 hr0_4 hc0_4 h
 cases k with
 | zero => exact absurd h (by simp [impl_expCount.f])
 | succ k =>
 simp only [impl_expCount.f] at h
 have hu35 := Tryd.underlying35
 have HR0_2 := Aq hr0_2
 have HC0_2 := Aq hc0_2
 clear hr0_2 hc0_2
 have HR0_4 := Aq hr0_4
 have HC0_4 := Aq hc0_4
 clear hr0_4 hc0_4
 have HB := Aq (Below.refl w.heap.size w)
 have H : (if a1 > 60 then (some (-1)) else (if a0_0 = 1 then ((impl_expId.f k a0_1).bind fun t9177 => (if t9177 = true then (if (a0_1.size : Int) > 40 then (impl_expCount.j0 k 1 true a0_0 a0_1 l0_2 a0_3 l0_4) else (if a0_3 < 0 then (impl_expCount.j0 k 1 true a0_0 a0_1 l0_2 a0_3 l0_4) else (impl_expCount.j0 k 1 (decide ((l0_4.length : Int) > 0)) a0_0 a0_1 l0_2 a0_3 l0_4))) else (impl_expCount.j0 k 1 true a0_0 a0_1 l0_2 a0_3 l0_4))) else (if a0_0 = 2 then ((impl_expAtom.f k a0_1).bind fun t9180 => (if t9180 = true then (if (a0_1.size : Int) > 40 then (some (-1)) else (if a0_3 = 0 then (if (l0_2.length : Int) > 0 then (some (-1)) else (if (l0_4.length : Int) > 0 then (some (-1)) else (some 1))) else (some (-1)))) else (some (-1)))) else (if a0_0 = 3 then (impl_expCount.j2 k a1 1 (a0_0 == 3) a0_0 a0_1 l0_2 a0_3 l0_4) else (impl_expCount.j2 k a1 1 (a0_0 == 4) a0_0 a0_1 l0_2 a0_3 l0_4))))) = some r := h
 clear h
 by_cases c3 : a1 > 60
 ·rw [if_pos c3] at H
  have c3b0 : decide (60 < a1) = true := decide_eq_true c3
  clear c3
  obtain rfl := Option.some.inj H
  go_enter Tryd.func34, Tryd.ntmps34
  go_wp2_with (first | ((with_reducible refine gate_dst (N := 2) rfl ?_); (try (refine gate_guard (by rfl) ?_; dsimp only)); refine box_event ?hg (N := 2) ?hd (cs := #[.int .i64 a0_0, .string a0_1, .slice A0_2 l0_2.length c0_2, .int .i64 a0_3, .slice A0_4 l0_4.length c0_4]) (t := 35) ?hr ?_; (case hd => rfl); (case hg => rfl); (case hr => first | (go_simp; done) | (go_simp; rfl)); intro gb9176 hg w4 hbox hb; have n0_ := Aq (below_step (by repeat (first | (with_reducible first | exact HB.out | apply zB | apply zC | apply zE) | exact HB.out)) hb); have n1_ := Aq (hbox); have n2_ := Aq ((by rw [hg]; exact (below_size (by repeat (first | (with_reducible first | exact HB.out | apply zB | apply zC | apply zE) | exact HB.out))) : w.heap.size ≤ gb9176)); have n3_ := Aq ((by rw [hg]; exact (below_size (by repeat (first | (with_reducible first | exact HB.out | apply zB | apply zC | apply zE) | exact HB.out))) : w.heap.size ≤ gb9176)); clear HB; have HB := n0_; have BK9176 := n1_; have GW9176 := n2_; have GE9176 := n3_; clear n0_ n1_ n2_ n3_ hb hbox hg))
  go_ret
  exact ⟨by first | rfl | (simp [errW_none, errW_some] <;> rfl) | (simp [*, errW_none, errW_some] <;> rfl), by repeat (first | (with_reducible first | exact HB.out | apply zB | apply zC | apply zE | refine below_set ?_ GE9176.out) | exact HB.out)⟩
 ·rw [if_neg c3] at H
  have c3b0 : decide (60 < a1) = false := decide_eq_false c3
  clear c3
  by_cases c5 : a0_0 = 1
  ·rw [if_pos c5] at H
   have c5b0 : (a0_0 == 1) = true := beq_iff_eq.mpr c5
   have c5b1 : (a0_0 != 1) = false := bne_eq_false_iff_eq.mpr c5
   clear c5
   have HC6 := Aq H
   clear H
   go_enter Tryd.func34, Tryd.ntmps34
   go_upto_region 7 with (first | ((with_reducible refine gate_dst (N := 2) rfl ?_); (try (refine gate_guard (by rfl) ?_; dsimp only)); refine box_event ?hg (N := 2) ?hd (cs := #[.int .i64 a0_0, .string a0_1, .slice A0_2 l0_2.length c0_2, .int .i64 a0_3, .slice A0_4 l0_4.length c0_4]) (t := 35) ?hr ?_; (case hd => rfl); (case hg => rfl); (case hr => first | (go_simp; done) | (go_simp; rfl)); intro gb9176 hg w7 hbox hb; have n0_ := Aq (below_step (by repeat (first | (with_reducible first | exact HB.out | apply zB | apply zC | apply zE) | exact HB.out)) hb); have n1_ := Aq (hbox); have n2_ := Aq ((by rw [hg]; exact (below_size (by repeat (first | (with_reducible first | exact HB.out | apply zB | apply zC | apply zE) | exact HB.out))) : w.heap.size ≤ gb9176)); have n3_ := Aq ((by rw [hg]; exact (below_size (by repeat (first | (with_reducible first | exact HB.out | apply zB | apply zC | apply zE) | exact HB.out))) : w.heap.size ≤ gb9176)); clear HB; have HB := n0_; have BK9176 := n1_; have GW9176 := n2_; have GE9176 := n3_; clear n0_ n1_ n2_ n3_ hb hbox hg; have hcz8_0 : w7.cell? ⟨gb9176, 0, none⟩ = some (.int .i64 a0_0) := (blk_cell BK9176.out 0).trans rfl; have hcz8_1 : w7.cell? ⟨gb9176, 1, none⟩ = some (.string a0_1) := (blk_cell BK9176.out 1).trans rfl; have hcz8_2 : w7.cell? ⟨gb9176, 2, none⟩ = some (.slice A0_2 l0_2.length c0_2) := (blk_cell BK9176.out 2).trans rfl; have hcz8_3 : w7.cell? ⟨gb9176, 3, none⟩ = some (.int .i64 a0_3) := (blk_cell BK9176.out 3).trans rfl; have hcz8_4 : w7.cell? ⟨gb9176, 4, none⟩ = some (.slice A0_4 l0_4.length c0_4) := (blk_cell BK9176.out 4).trans rfl; have hfz8_0 := blk_frozen BK9176.out 0; have hfz8_1 := blk_frozen BK9176.out 1; have hfz8_2 := blk_frozen BK9176.out 2; have hfz8_3 := blk_frozen BK9176.out 3; have hfz8_4 := blk_frozen BK9176.out 4))
   (try simp only [Act.put, sA, sB, sC])
   go_cut [38] (fun v38 wc => ∃ (kq : Nat) (x38_5 : Bool), v38 = .bool x38_5 ∧ Aside0 (impl_expCount.j0 kq 1 x38_5 a0_0 a0_1 l0_2 a0_3 l0_4 = some r) ∧ Aside0 (kq ≤ k) ∧ Aside0 (wc.heap[gb9176]? = some (.cells #[.int .i64 a0_0, .string a0_1, (.slice A0_2 l0_2.length c0_2), .int .i64 a0_3, (.slice A0_4 l0_4.length c0_4)] 35 (0, 0))) ∧ Aside0 (Below w.heap.size w wc))
   case first =>
    have H := HC6.out
    clear HC6
    replace H := Option.bind_eq_some_iff.mp H
    obtain ⟨t9177, A90, H⟩ := H
    replace H : (if t9177 = true then (if (a0_1.size : Int) > 40 then (impl_expCount.j0 k 1 true a0_0 a0_1 l0_2 a0_3 l0_4) else (if a0_3 < 0 then (impl_expCount.j0 k 1 true a0_0 a0_1 l0_2 a0_3 l0_4) else (impl_expCount.j0 k 1 (decide ((l0_4.length : Int) > 0)) a0_0 a0_1 l0_2 a0_3 l0_4))) else (impl_expCount.j0 k 1 true a0_0 a0_1 l0_2 a0_3 l0_4)) = some r := H
    have A9 := Aq A90
    clear A90
    by_cases c10 : t9177 = true
    ·subst c10
     have H1 : (if (a0_1.size : Int) > 40 then (impl_expCount.j0 k 1 true a0_0 a0_1 l0_2 a0_3 l0_4) else (if a0_3 < 0 then (impl_expCount.j0 k 1 true a0_0 a0_1 l0_2 a0_3 l0_4) else (impl_expCount.j0 k 1 (decide ((l0_4.length : Int) > 0)) a0_0 a0_1 l0_2 a0_3 l0_4))) = some r := by rw [if_pos rfl] at H; exact H
     clear H
     have H := H1
     clear H1
     by_cases c11 : (a0_1.size : Int) > 40
     ·rw [if_pos c11] at H
      have c11b0 : decide (40 < (a0_1.size : Int)) = true := decide_eq_true c11
      have c11b1 : decide (40 < a0_1.size) = true := decide_eq_true (by omega)
      clear c11
      (first | rw [c11b0] | (simp only [i64_w, i32_w]; rw [c11b0]) | skip)
      have H' := Aq H
      clear H
      have hcz12_0 : w7.cell? ⟨gb9176, 0, none⟩ = some (.int .i64 a0_0) := (blk_cell BK9176.out 0).trans rfl
      have hcz12_1 : w7.cell? ⟨gb9176, 1, none⟩ = some (.string a0_1) := (blk_cell BK9176.out 1).trans rfl
      have hcz12_2 : w7.cell? ⟨gb9176, 2, none⟩ = some (.slice A0_2 l0_2.length c0_2) := (blk_cell BK9176.out 2).trans rfl
      have hcz12_3 : w7.cell? ⟨gb9176, 3, none⟩ = some (.int .i64 a0_3) := (blk_cell BK9176.out 3).trans rfl
      have hcz12_4 : w7.cell? ⟨gb9176, 4, none⟩ = some (.slice A0_4 l0_4.length c0_4) := (blk_cell BK9176.out 4).trans rfl
      have hfz12_0 := blk_frozen BK9176.out 0
      have hfz12_1 := blk_frozen BK9176.out 1
      have hfz12_2 := blk_frozen BK9176.out 2
      have hfz12_3 := blk_frozen BK9176.out 3
      have hfz12_4 := blk_frozen BK9176.out 4
      go_wp2_with (first | ((with_reducible refine gate_callee (f := 57) rfl ?_); refine goesL_ (some 20) rfl rfl Tryd.func57 (by kernel_rfl) rfl #[.string a0_1] rfl (by (try simp only [List.map_toArray, List.map_cons, List.map_nil]); first | done | rfl | (simp only [List.length_drop, List.length_take]; rfl)) ?_; (with_reducible refine (impl_expId.calls k a0_1 true _ A9.out).mono ?_); rintro e w13 ⟨rfl, hb⟩; refine ⟨_, rfl, ?_⟩; have n0_ := Aq (blk_below (g := gb9176) (o := .cells #[.int .i64 a0_0, .string a0_1, .slice A0_2 l0_2.length c0_2, .int .i64 a0_3, .slice A0_4 l0_4.length c0_4] 35 (0, 0)) (by (with_reducible repeat (first | refine zN ?_ _ | refine zD ?_ | refine zA ?_ _)); exact BK9176.out) hb); have n1_ := Aq (below_step (by repeat (first | (with_reducible first | exact HB.out | apply zB | apply zC | apply zE | refine below_set ?_ GE9176.out) | exact HB.out)) hb); clear BK9176 HB; have BK9176 := n0_; have HB := n1_; clear n0_ n1_; (try clear hb); (try clear hb2); (try clear hk); (try clear hi); have hcz14_0 : w13.cell? ⟨gb9176, 0, none⟩ = some (.int .i64 a0_0) := (blk_cell BK9176.out 0).trans rfl; have hcz14_1 : w13.cell? ⟨gb9176, 1, none⟩ = some (.string a0_1) := (blk_cell BK9176.out 1).trans rfl; have hcz14_2 : w13.cell? ⟨gb9176, 2, none⟩ = some (.slice A0_2 l0_2.length c0_2) := (blk_cell BK9176.out 2).trans rfl; have hcz14_3 : w13.cell? ⟨gb9176, 3, none⟩ = some (.int .i64 a0_3) := (blk_cell BK9176.out 3).trans rfl; have hcz14_4 : w13.cell? ⟨gb9176, 4, none⟩ = some (.slice A0_4 l0_4.length c0_4) := (blk_cell BK9176.out 4).trans rfl; have hfz14_0 := blk_frozen BK9176.out 0; have hfz14_1 := blk_frozen BK9176.out 1; have hfz14_2 := blk_frozen BK9176.out 2; have hfz14_3 := blk_frozen BK9176.out 3; have hfz14_4 := blk_frozen BK9176.out 4))
      go_meet
      case rel => exact ⟨_, (true), (by first | rfl | (simp; done) | (simp [*]; done)), H', ⟨by first | omega | exact Nat.le_refl _⟩, ⟨by (with_reducible repeat (first | refine zN ?_ _ | refine zD ?_ | refine zA ?_ _)); exact BK9176.out⟩, ⟨by repeat (first | (with_reducible first | exact HB.out | apply zB | apply zC | apply zE | refine below_set ?_ GE9176.out) | exact HB.out)⟩⟩
     ·rw [if_neg c11] at H
      have c11b0 : decide (40 < (a0_1.size : Int)) = false := decide_eq_false c11
      have c11b1 : decide (40 < a0_1.size) = false := decide_eq_false (by omega)
      clear c11
      (first | rw [c11b0] | (simp only [i64_w, i32_w]; rw [c11b0]) | skip)
      by_cases c15 : a0_3 < 0
      ·rw [if_pos c15] at H
       have c15b0 : decide (a0_3 < 0) = true := decide_eq_true c15
       clear c15
       have H' := Aq H
       clear H
       have hcz16_0 : w7.cell? ⟨gb9176, 0, none⟩ = some (.int .i64 a0_0) := (blk_cell BK9176.out 0).trans rfl
       have hcz16_1 : w7.cell? ⟨gb9176, 1, none⟩ = some (.string a0_1) := (blk_cell BK9176.out 1).trans rfl
       have hcz16_2 : w7.cell? ⟨gb9176, 2, none⟩ = some (.slice A0_2 l0_2.length c0_2) := (blk_cell BK9176.out 2).trans rfl
       have hcz16_3 : w7.cell? ⟨gb9176, 3, none⟩ = some (.int .i64 a0_3) := (blk_cell BK9176.out 3).trans rfl
       have hcz16_4 : w7.cell? ⟨gb9176, 4, none⟩ = some (.slice A0_4 l0_4.length c0_4) := (blk_cell BK9176.out 4).trans rfl
       have hfz16_0 := blk_frozen BK9176.out 0
       have hfz16_1 := blk_frozen BK9176.out 1
       have hfz16_2 := blk_frozen BK9176.out 2
       have hfz16_3 := blk_frozen BK9176.out 3
       have hfz16_4 := blk_frozen BK9176.out 4
       go_wp2_with (first | ((with_reducible refine gate_callee (f := 57) rfl ?_); refine goesL_ (some 20) rfl rfl Tryd.func57 (by kernel_rfl) rfl #[.string a0_1] rfl (by (try simp only [List.map_toArray, List.map_cons, List.map_nil]); first | done | rfl | (simp only [List.length_drop, List.length_take]; rfl)) ?_; (with_reducible refine (impl_expId.calls k a0_1 true _ A9.out).mono ?_); rintro e w17 ⟨rfl, hb⟩; refine ⟨_, rfl, ?_⟩; have n0_ := Aq (blk_below (g := gb9176) (o := .cells #[.int .i64 a0_0, .string a0_1, .slice A0_2 l0_2.length c0_2, .int .i64 a0_3, .slice A0_4 l0_4.length c0_4] 35 (0, 0)) (by (with_reducible repeat (first | refine zN ?_ _ | refine zD ?_ | refine zA ?_ _)); exact BK9176.out) hb); have n1_ := Aq (below_step (by repeat (first | (with_reducible first | exact HB.out | apply zB | apply zC | apply zE | refine below_set ?_ GE9176.out) | exact HB.out)) hb); clear BK9176 HB; have BK9176 := n0_; have HB := n1_; clear n0_ n1_; (try clear hb); (try clear hb2); (try clear hk); (try clear hi); have hcz18_0 : w17.cell? ⟨gb9176, 0, none⟩ = some (.int .i64 a0_0) := (blk_cell BK9176.out 0).trans rfl; have hcz18_1 : w17.cell? ⟨gb9176, 1, none⟩ = some (.string a0_1) := (blk_cell BK9176.out 1).trans rfl; have hcz18_2 : w17.cell? ⟨gb9176, 2, none⟩ = some (.slice A0_2 l0_2.length c0_2) := (blk_cell BK9176.out 2).trans rfl; have hcz18_3 : w17.cell? ⟨gb9176, 3, none⟩ = some (.int .i64 a0_3) := (blk_cell BK9176.out 3).trans rfl; have hcz18_4 : w17.cell? ⟨gb9176, 4, none⟩ = some (.slice A0_4 l0_4.length c0_4) := (blk_cell BK9176.out 4).trans rfl; have hfz18_0 := blk_frozen BK9176.out 0; have hfz18_1 := blk_frozen BK9176.out 1; have hfz18_2 := blk_frozen BK9176.out 2; have hfz18_3 := blk_frozen BK9176.out 3; have hfz18_4 := blk_frozen BK9176.out 4))
       go_meet
       case rel => exact ⟨_, (true), (by first | rfl | (simp; done) | (simp [*]; done)), H', ⟨by first | omega | exact Nat.le_refl _⟩, ⟨by (with_reducible repeat (first | refine zN ?_ _ | refine zD ?_ | refine zA ?_ _)); exact BK9176.out⟩, ⟨by repeat (first | (with_reducible first | exact HB.out | apply zB | apply zC | apply zE | refine below_set ?_ GE9176.out) | exact HB.out)⟩⟩
      ·rw [if_neg c15] at H
       have c15b0 : decide (a0_3 < 0) = false := decide_eq_false c15
       clear c15
       have H' := Aq H
       clear H
       have hcz19_0 : w7.cell? ⟨gb9176, 0, none⟩ = some (.int .i64 a0_0) := (blk_cell BK9176.out 0).trans rfl
       have hcz19_1 : w7.cell? ⟨gb9176, 1, none⟩ = some (.string a0_1) := (blk_cell BK9176.out 1).trans rfl
       have hcz19_2 : w7.cell? ⟨gb9176, 2, none⟩ = some (.slice A0_2 l0_2.length c0_2) := (blk_cell BK9176.out 2).trans rfl
       have hcz19_3 : w7.cell? ⟨gb9176, 3, none⟩ = some (.int .i64 a0_3) := (blk_cell BK9176.out 3).trans rfl
       have hcz19_4 : w7.cell? ⟨gb9176, 4, none⟩ = some (.slice A0_4 l0_4.length c0_4) := (blk_cell BK9176.out 4).trans rfl
       have hfz19_0 := blk_frozen BK9176.out 0
       have hfz19_1 := blk_frozen BK9176.out 1
       have hfz19_2 := blk_frozen BK9176.out 2
       have hfz19_3 := blk_frozen BK9176.out 3
       have hfz19_4 := blk_frozen BK9176.out 4
       go_wp2_with (first | ((with_reducible refine gate_callee (f := 57) rfl ?_); refine goesL_ (some 20) rfl rfl Tryd.func57 (by kernel_rfl) rfl #[.string a0_1] rfl (by (try simp only [List.map_toArray, List.map_cons, List.map_nil]); first | done | rfl | (simp only [List.length_drop, List.length_take]; rfl)) ?_; (with_reducible refine (impl_expId.calls k a0_1 true _ A9.out).mono ?_); rintro e w20 ⟨rfl, hb⟩; refine ⟨_, rfl, ?_⟩; have n0_ := Aq (blk_below (g := gb9176) (o := .cells #[.int .i64 a0_0, .string a0_1, .slice A0_2 l0_2.length c0_2, .int .i64 a0_3, .slice A0_4 l0_4.length c0_4] 35 (0, 0)) (by (with_reducible repeat (first | refine zN ?_ _ | refine zD ?_ | refine zA ?_ _)); exact BK9176.out) hb); have n1_ := Aq (below_step (by repeat (first | (with_reducible first | exact HB.out | apply zB | apply zC | apply zE | refine below_set ?_ GE9176.out) | exact HB.out)) hb); clear BK9176 HB; have BK9176 := n0_; have HB := n1_; clear n0_ n1_; (try clear hb); (try clear hb2); (try clear hk); (try clear hi); have hcz21_0 : w20.cell? ⟨gb9176, 0, none⟩ = some (.int .i64 a0_0) := (blk_cell BK9176.out 0).trans rfl; have hcz21_1 : w20.cell? ⟨gb9176, 1, none⟩ = some (.string a0_1) := (blk_cell BK9176.out 1).trans rfl; have hcz21_2 : w20.cell? ⟨gb9176, 2, none⟩ = some (.slice A0_2 l0_2.length c0_2) := (blk_cell BK9176.out 2).trans rfl; have hcz21_3 : w20.cell? ⟨gb9176, 3, none⟩ = some (.int .i64 a0_3) := (blk_cell BK9176.out 3).trans rfl; have hcz21_4 : w20.cell? ⟨gb9176, 4, none⟩ = some (.slice A0_4 l0_4.length c0_4) := (blk_cell BK9176.out 4).trans rfl; have hfz21_0 := blk_frozen BK9176.out 0; have hfz21_1 := blk_frozen BK9176.out 1; have hfz21_2 := blk_frozen BK9176.out 2; have hfz21_3 := blk_frozen BK9176.out 3; have hfz21_4 := blk_frozen BK9176.out 4))
       go_meet
       case rel => exact ⟨_, (decide ((l0_4.length : Int) > 0)), (by first | rfl | (simp; done) | (simp [*]; done)), H', ⟨by first | omega | exact Nat.le_refl _⟩, ⟨by (with_reducible repeat (first | refine zN ?_ _ | refine zD ?_ | refine zA ?_ _)); exact BK9176.out⟩, ⟨by repeat (first | (with_reducible first | exact HB.out | apply zB | apply zC | apply zE | refine below_set ?_ GE9176.out) | exact HB.out)⟩⟩
    ·replace c10 := Bool.eq_false_iff.mpr c10
     subst c10
     have H1 : (impl_expCount.j0 k 1 true a0_0 a0_1 l0_2 a0_3 l0_4) = some r := by rw [if_neg (show ¬ (false = true) by decide)] at H; exact H
     clear H
     have H := H1
     clear H1
     have H' := Aq H
     clear H
     have hcz22_0 : w7.cell? ⟨gb9176, 0, none⟩ = some (.int .i64 a0_0) := (blk_cell BK9176.out 0).trans rfl
     have hcz22_1 : w7.cell? ⟨gb9176, 1, none⟩ = some (.string a0_1) := (blk_cell BK9176.out 1).trans rfl
     have hcz22_2 : w7.cell? ⟨gb9176, 2, none⟩ = some (.slice A0_2 l0_2.length c0_2) := (blk_cell BK9176.out 2).trans rfl
     have hcz22_3 : w7.cell? ⟨gb9176, 3, none⟩ = some (.int .i64 a0_3) := (blk_cell BK9176.out 3).trans rfl
     have hcz22_4 : w7.cell? ⟨gb9176, 4, none⟩ = some (.slice A0_4 l0_4.length c0_4) := (blk_cell BK9176.out 4).trans rfl
     have hfz22_0 := blk_frozen BK9176.out 0
     have hfz22_1 := blk_frozen BK9176.out 1
     have hfz22_2 := blk_frozen BK9176.out 2
     have hfz22_3 := blk_frozen BK9176.out 3
     have hfz22_4 := blk_frozen BK9176.out 4
     go_wp2_with (first | ((with_reducible refine gate_callee (f := 57) rfl ?_); refine goesL_ (some 20) rfl rfl Tryd.func57 (by kernel_rfl) rfl #[.string a0_1] rfl (by (try simp only [List.map_toArray, List.map_cons, List.map_nil]); first | done | rfl | (simp only [List.length_drop, List.length_take]; rfl)) ?_; (with_reducible refine (impl_expId.calls k a0_1 false _ A9.out).mono ?_); rintro e w23 ⟨rfl, hb⟩; refine ⟨_, rfl, ?_⟩; have n0_ := Aq (blk_below (g := gb9176) (o := .cells #[.int .i64 a0_0, .string a0_1, .slice A0_2 l0_2.length c0_2, .int .i64 a0_3, .slice A0_4 l0_4.length c0_4] 35 (0, 0)) (by (with_reducible repeat (first | refine zN ?_ _ | refine zD ?_ | refine zA ?_ _)); exact BK9176.out) hb); have n1_ := Aq (below_step (by repeat (first | (with_reducible first | exact HB.out | apply zB | apply zC | apply zE | refine below_set ?_ GE9176.out) | exact HB.out)) hb); clear BK9176 HB; have BK9176 := n0_; have HB := n1_; clear n0_ n1_; (try clear hb); (try clear hb2); (try clear hk); (try clear hi)))
     go_meet
     case rel => exact ⟨_, (true), (by first | rfl | (simp; done) | (simp [*]; done)), H', ⟨by first | omega | exact Nat.le_refl _⟩, ⟨by (with_reducible repeat (first | refine zN ?_ _ | refine zD ?_ | refine zA ?_ _)); exact BK9176.out⟩, ⟨by repeat (first | (with_reducible first | exact HB.out | apply zB | apply zC | apply zE | refine below_set ?_ GE9176.out) | exact HB.out)⟩⟩
   case rest =>
    clear HC6
    try clear c1
    try clear p2
    try clear c3
    try clear c3b0
    try clear c5
    try clear c5b0
    try clear c5b1
    try clear c10
    try clear c11
    try clear c11b0
    try clear c11b1
    try clear c15
    try clear c15b0
    try clear hcz12_0
    try clear hcz12_1
    try clear hcz12_2
    try clear hcz12_3
    try clear hcz12_4
    try clear hcz14_0
    try clear hcz14_1
    try clear hcz14_2
    try clear hcz14_3
    try clear hcz14_4
    try clear hcz16_0
    try clear hcz16_1
    try clear hcz16_2
    try clear hcz16_3
    try clear hcz16_4
    try clear hcz18_0
    try clear hcz18_1
    try clear hcz18_2
    try clear hcz18_3
    try clear hcz18_4
    try clear hcz19_0
    try clear hcz19_1
    try clear hcz19_2
    try clear hcz19_3
    try clear hcz19_4
    try clear hcz21_0
    try clear hcz21_1
    try clear hcz21_2
    try clear hcz21_3
    try clear hcz21_4
    try clear hcz22_0
    try clear hcz22_1
    try clear hcz22_2
    try clear hcz22_3
    try clear hcz22_4
    try clear hcz8_0
    try clear hcz8_1
    try clear hcz8_2
    try clear hcz8_3
    try clear hcz8_4
    try clear hfz12_0
    try clear hfz12_1
    try clear hfz12_2
    try clear hfz12_3
    try clear hfz12_4
    try clear hfz14_0
    try clear hfz14_1
    try clear hfz14_2
    try clear hfz14_3
    try clear hfz14_4
    try clear hfz16_0
    try clear hfz16_1
    try clear hfz16_2
    try clear hfz16_3
    try clear hfz16_4
    try clear hfz18_0
    try clear hfz18_1
    try clear hfz18_2
    try clear hfz18_3
    try clear hfz18_4
    try clear hfz19_0
    try clear hfz19_1
    try clear hfz19_2
    try clear hfz19_3
    try clear hfz19_4
    try clear hfz21_0
    try clear hfz21_1
    try clear hfz21_2
    try clear hfz21_3
    try clear hfz21_4
    try clear hfz22_0
    try clear hfz22_1
    try clear hfz22_2
    try clear hfz22_3
    try clear hfz22_4
    try clear hfz8_0
    try clear hfz8_1
    try clear hfz8_2
    try clear hfz8_3
    try clear hfz8_4
    obtain ⟨kq, x38_5, rfl, HA, HJ5, BK9176, HB⟩ := hcut
    cases kq with
    | zero => exact absurd HA.out (by simp [impl_expCount.j0])
    | succ kj5 =>
     have H := HA.out
     clear HA
     simp only [impl_expCount.j0] at H
     by_cases c24 : x38_5 = true
     ·subst c24
      have H1 : (some (-1)) = some r := by rw [if_pos rfl] at H; exact H
      clear H
      have H := H1
      clear H1
      obtain rfl := Option.some.inj H
      go_wp2
      go_ret
      exact ⟨by first | rfl | (simp [errW_none, errW_some] <;> rfl) | (simp [*, errW_none, errW_some] <;> rfl), by repeat (first | (with_reducible first | exact HB.out | apply zB | apply zC | apply zE | refine below_set ?_ GE9176.out) | exact HB.out)⟩
     ·replace c24 := Bool.eq_false_iff.mpr c24
      subst c24
      have H1 : (impl_expCount.l0 kj5 1 l0_2 (l0_2.length : Int) 0 a0_0 a0_1 l0_2 a0_3 l0_4) = some r := by rw [if_neg (show ¬ (false = true) by decide)] at H; exact H
      clear H
      have H := H1
      clear H1
      have H' := Aq H
      clear H
      have hcz25_0 : wc.cell? ⟨gb9176, 0, none⟩ = some (.int .i64 a0_0) := (blk_cell BK9176.out 0).trans rfl
      have hcz25_1 : wc.cell? ⟨gb9176, 1, none⟩ = some (.string a0_1) := (blk_cell BK9176.out 1).trans rfl
      have hcz25_2 : wc.cell? ⟨gb9176, 2, none⟩ = some (.slice A0_2 l0_2.length c0_2) := (blk_cell BK9176.out 2).trans rfl
      have hcz25_3 : wc.cell? ⟨gb9176, 3, none⟩ = some (.int .i64 a0_3) := (blk_cell BK9176.out 3).trans rfl
      have hcz25_4 : wc.cell? ⟨gb9176, 4, none⟩ = some (.slice A0_4 l0_4.length c0_4) := (blk_cell BK9176.out 4).trans rfl
      have hfz25_0 := blk_frozen BK9176.out 0
      have hfz25_1 := blk_frozen BK9176.out 1
      have hfz25_2 := blk_frozen BK9176.out 2
      have hfz25_3 := blk_frozen BK9176.out 3
      have hfz25_4 := blk_frozen BK9176.out 4
      go_wp2
      go_loopg [42] kj5 (fun kq v42 w' => ∃ (x42_2 : Int), v42 = .int .i64 x42_2 ∧ Aside0 (impl_expCount.l0 kq 1 l0_2 (l0_2.length : Int) x42_2 a0_0 a0_1 l0_2 a0_3 l0_4 = some r) ∧ Aside0 (kq ≤ kj5) ∧ Aside0 (w'.heap[gb9176]? = some (.cells #[.int .i64 a0_0, .string a0_1, (.slice A0_2 l0_2.length c0_2), .int .i64 a0_3, (.slice A0_4 l0_4.length c0_4)] 35 (0, 0))) ∧ Aside0 (Below w.heap.size w w'))
      case atStart => exact ⟨(0), (by first | rfl | (simp; done) | (simp [*]; done)), H', ⟨Nat.le_refl _⟩, ⟨by (with_reducible repeat (first | refine zN ?_ _ | refine zD ?_ | refine zA ?_ _)); exact BK9176.out⟩, ⟨by repeat (first | (with_reducible first | exact HB.out | apply zB | apply zC | apply zE | refine below_set ?_ GE9176.out) | exact HB.out)⟩⟩
      case round =>
       clear H'
       try clear c1
       try clear c2
       try clear p2
       try clear c3
       try clear c3b0
       try clear c5
       try clear c5b0
       try clear c5b1
       try clear c10
       try clear c11
       try clear c11b0
       try clear c11b1
       try clear c15
       try clear c15b0
       try clear c24
       try clear hcz12_0
       try clear hcz12_1
       try clear hcz12_2
       try clear hcz12_3
       try clear hcz12_4
       try clear hcz14_0
       try clear hcz14_1
       try clear hcz14_2
       try clear hcz14_3
       try clear hcz14_4
       try clear hcz16_0
       try clear hcz16_1
       try clear hcz16_2
       try clear hcz16_3
       try clear hcz16_4
       try clear hcz18_0
       try clear hcz18_1
       try clear hcz18_2
       try clear hcz18_3
       try clear hcz18_4
       try clear hcz19_0
       try clear hcz19_1
       try clear hcz19_2
       try clear hcz19_3
       try clear hcz19_4
       try clear hcz21_0
       try clear hcz21_1
       try clear hcz21_2
       try clear hcz21_3
       try clear hcz21_4
       try clear hcz22_0
       try clear hcz22_1
       try clear hcz22_2
       try clear hcz22_3
       try clear hcz22_4
       try clear hcz25_0
       try clear hcz25_1
       try clear hcz25_2
       try clear hcz25_3
       try clear hcz25_4
       try clear hcz8_0
       try clear hcz8_1
       try clear hcz8_2
       try clear hcz8_3
       try clear hcz8_4
       try clear hfz12_0
       try clear hfz12_1
       try clear hfz12_2
       try clear hfz12_3
       try clear hfz12_4
       try clear hfz14_0
       try clear hfz14_1
       try clear hfz14_2
       try clear hfz14_3
       try clear hfz14_4
       try clear hfz16_0
       try clear hfz16_1
       try clear hfz16_2
       try clear hfz16_3
       try clear hfz16_4
       try clear hfz18_0
       try clear hfz18_1
       try clear hfz18_2
       try clear hfz18_3
       try clear hfz18_4
       try clear hfz19_0
       try clear hfz19_1
       try clear hfz19_2
       try clear hfz19_3
       try clear hfz19_4
       try clear hfz21_0
       try clear hfz21_1
       try clear hfz21_2
       try clear hfz21_3
       try clear hfz21_4
       try clear hfz22_0
       try clear hfz22_1
       try clear hfz22_2
       try clear hfz22_3
       try clear hfz22_4
       try clear hfz25_0
       try clear hfz25_1
       try clear hfz25_2
       try clear hfz25_3
       try clear hfz25_4
       try clear hfz8_0
       try clear hfz8_1
       try clear hfz8_2
       try clear hfz8_3
       try clear hfz8_4
       try clear p2
       obtain ⟨x42_2, rfl, HA, HK2, BK9176, HB⟩ := hrel
       cases gk with
       | zero => exact absurd HA.out (by simp [impl_expCount.l0])
       | succ k2 =>
        have H := HA.out
        clear HA
        simp only [impl_expCount.l0] at H
        by_cases c26 : x42_2 < (l0_2.length : Int)
        ·rw [if_pos c26] at H
         have c26b0 : decide (x42_2 < (l0_2.length : Int)) = true := decide_eq_true c26
         clear c26
         by_cases c27 : 0 ≤ x42_2
         ·rw [if_pos c27] at H
          have c27b0 : decide (0 ≤ x42_2) = true := decide_eq_true c27
          clear c27
          by_cases c28 : x42_2 < (l0_2.length : Int)
          ·rw [if_pos c28] at H
           have c28b0 : decide (x42_2 < (l0_2.length : Int)) = true := decide_eq_true c28
           clear c28
           by_cases c29 : (rd l0_2 x42_2) < 0
           ·rw [if_pos c29] at H
            have c29b0 : decide ((rd l0_2 x42_2) < 0) = true := decide_eq_true c29
            clear c29
            obtain rfl := Option.some.inj H
            have p9178 : 0 ≤ (x42_2 : Int) := of_decide_eq_true (by first | (with_reducible assumption) | assumption)
            have q9178 : x42_2 < (l0_2.length : Int) := of_decide_eq_true (by first | (with_reducible assumption) | assumption)
            obtain ⟨ad9178, e9178, hx9178_0⟩ := Kd.at_int HR0_2.out x42_2 p9178 q9178
            cases e9178
            replace hx9178_0 := (HB.out.cell (World.block_lt_of_cell? w _ hx9178_0)).trans hx9178_0
            replace p9178 := eq_true p9178
            replace q9178 := eq_true q9178
            go_wp2
            go_ret
            exact ⟨by first | rfl | (simp [errW_none, errW_some] <;> rfl) | (simp [*, errW_none, errW_some] <;> rfl), by repeat (first | (with_reducible first | exact HB.out | apply zB | apply zC | apply zE | refine below_set ?_ GE9176.out) | exact HB.out)⟩
           ·rw [if_neg c29] at H
            have c29b0 : decide ((rd l0_2 x42_2) < 0) = false := decide_eq_false c29
            clear c29
            by_cases c30 : x42_2 > 0
            ·rw [if_pos c30] at H
             have c30b0 : decide (0 < x42_2) = true := decide_eq_true c30
             clear c30
             obtain ⟨ji31, hji31⟩ : ∃ j_ : Int, (wrap64 (x42_2 - 1)) = j_ := ⟨_, rfl⟩
             replace H : (if 0 ≤ (ji31) then (if (ji31) < (l0_2.length : Int) then (if (rd l0_2 (ji31)) ≥ (rd l0_2 x42_2) then (some (-1)) else (impl_expCount.l0 k2 1 l0_2 (l0_2.length : Int) (wrap64 (x42_2 + 1)) a0_0 a0_1 l0_2 a0_3 l0_4)) else (none)) else (none)) = some r := by first | (rw [hji31] at H; exact H) | (simp only [hji31] at H ⊢; exact H)
             have hji31w : (IntKind.i64.wrap (x42_2 - 1)) = ji31 := (i64_w _).trans hji31
             by_cases c32 : 0 ≤ (ji31)
             ·rw [if_pos c32] at H
              have c32b0 : decide (0 ≤ (ji31)) = true := decide_eq_true c32
              clear c32
              by_cases c33 : (ji31) < (l0_2.length : Int)
              ·rw [if_pos c33] at H
               have c33b0 : decide ((ji31) < (l0_2.length : Int)) = true := decide_eq_true c33
               clear c33
               by_cases c34 : (rd l0_2 (ji31)) ≥ (rd l0_2 x42_2)
               ·rw [if_pos c34] at H
                have c34b0 : decide ((rd l0_2 x42_2) ≤ (rd l0_2 (ji31))) = true := decide_eq_true c34
                clear c34
                obtain rfl := Option.some.inj H
                have p9178 : 0 ≤ (x42_2 : Int) := of_decide_eq_true (by first | (with_reducible assumption) | assumption)
                have q9178 : x42_2 < (l0_2.length : Int) := of_decide_eq_true (by first | (with_reducible assumption) | assumption)
                obtain ⟨ad9178, e9178, hx9178_0⟩ := Kd.at_int HR0_2.out x42_2 p9178 q9178
                cases e9178
                replace hx9178_0 := (HB.out.cell (World.block_lt_of_cell? w _ hx9178_0)).trans hx9178_0
                replace p9178 := eq_true p9178
                replace q9178 := eq_true q9178
                have hcz35_0 : wr.cell? ⟨gb9176, 0, none⟩ = some (.int .i64 a0_0) := (blk_cell BK9176.out 0).trans rfl
                have hcz35_1 : wr.cell? ⟨gb9176, 1, none⟩ = some (.string a0_1) := (blk_cell BK9176.out 1).trans rfl
                have hcz35_2 : wr.cell? ⟨gb9176, 2, none⟩ = some (.slice (some ad9178) l0_2.length c0_2) := (blk_cell BK9176.out 2).trans rfl
                have hcz35_3 : wr.cell? ⟨gb9176, 3, none⟩ = some (.int .i64 a0_3) := (blk_cell BK9176.out 3).trans rfl
                have hcz35_4 : wr.cell? ⟨gb9176, 4, none⟩ = some (.slice A0_4 l0_4.length c0_4) := (blk_cell BK9176.out 4).trans rfl
                have hfz35_0 := blk_frozen BK9176.out 0
                have hfz35_1 := blk_frozen BK9176.out 1
                have hfz35_2 := blk_frozen BK9176.out 2
                have hfz35_3 := blk_frozen BK9176.out 3
                have hfz35_4 := blk_frozen BK9176.out 4
                have p9179 : 0 ≤ ((ji31) : Int) := of_decide_eq_true (by first | (with_reducible assumption) | assumption)
                have q9179 : (ji31) < (l0_2.length : Int) := of_decide_eq_true (by first | (with_reducible assumption) | assumption)
                obtain ⟨ad9179, e9179, hx9179_0⟩ := Kd.at_int HR0_2.out (ji31) p9179 q9179
                obtain rfl : ad9178 = ad9179 := (by injection e9179)
                replace hx9179_0 := (HB.out.cell (World.block_lt_of_cell? w _ hx9179_0)).trans hx9179_0
                replace p9179 := eq_true p9179
                replace q9179 := eq_true q9179
                go_wp2
                go_ret
                exact ⟨by first | rfl | (simp [errW_none, errW_some] <;> rfl) | (simp only [← hji31]; first | rfl | (simp [errW_none, errW_some] <;> rfl)) | (simp [*, errW_none, errW_some] <;> rfl), by repeat (first | (with_reducible first | exact HB.out | apply zB | apply zC | apply zE | refine below_set ?_ GE9176.out) | exact HB.out)⟩
               ·rw [if_neg c34] at H
                have c34b0 : decide ((rd l0_2 x42_2) ≤ (rd l0_2 (ji31))) = false := decide_eq_false c34
                clear c34
                have H' := Aq H
                clear H
                have p9178 : 0 ≤ (x42_2 : Int) := of_decide_eq_true (by first | (with_reducible assumption) | assumption)
                have q9178 : x42_2 < (l0_2.length : Int) := of_decide_eq_true (by first | (with_reducible assumption) | assumption)
                obtain ⟨ad9178, e9178, hx9178_0⟩ := Kd.at_int HR0_2.out x42_2 p9178 q9178
                cases e9178
                replace hx9178_0 := (HB.out.cell (World.block_lt_of_cell? w _ hx9178_0)).trans hx9178_0
                replace p9178 := eq_true p9178
                replace q9178 := eq_true q9178
                have hcz36_0 : wr.cell? ⟨gb9176, 0, none⟩ = some (.int .i64 a0_0) := (blk_cell BK9176.out 0).trans rfl
                have hcz36_1 : wr.cell? ⟨gb9176, 1, none⟩ = some (.string a0_1) := (blk_cell BK9176.out 1).trans rfl
                have hcz36_2 : wr.cell? ⟨gb9176, 2, none⟩ = some (.slice (some ad9178) l0_2.length c0_2) := (blk_cell BK9176.out 2).trans rfl
                have hcz36_3 : wr.cell? ⟨gb9176, 3, none⟩ = some (.int .i64 a0_3) := (blk_cell BK9176.out 3).trans rfl
                have hcz36_4 : wr.cell? ⟨gb9176, 4, none⟩ = some (.slice A0_4 l0_4.length c0_4) := (blk_cell BK9176.out 4).trans rfl
                have hfz36_0 := blk_frozen BK9176.out 0
                have hfz36_1 := blk_frozen BK9176.out 1
                have hfz36_2 := blk_frozen BK9176.out 2
                have hfz36_3 := blk_frozen BK9176.out 3
                have hfz36_4 := blk_frozen BK9176.out 4
                have p9179 : 0 ≤ ((ji31) : Int) := of_decide_eq_true (by first | (with_reducible assumption) | assumption)
                have q9179 : (ji31) < (l0_2.length : Int) := of_decide_eq_true (by first | (with_reducible assumption) | assumption)
                obtain ⟨ad9179, e9179, hx9179_0⟩ := Kd.at_int HR0_2.out (ji31) p9179 q9179
                obtain rfl : ad9178 = ad9179 := (by injection e9179)
                replace hx9179_0 := (HB.out.cell (World.block_lt_of_cell? w _ hx9179_0)).trans hx9179_0
                replace p9179 := eq_true p9179
                replace q9179 := eq_true q9179
                go_wp2
                go_roundg k2
                case measure => have := HJ5.out; have := HK2.out; omega
                case rel => exact ⟨(wrap64 (x42_2 + 1)), (by first | rfl | (simp; done) | (simp [*]; done)), H', ⟨by have := HJ5.out; have := HK2.out; omega⟩, ⟨by (with_reducible repeat (first | refine zN ?_ _ | refine zD ?_ | refine zA ?_ _)); exact BK9176.out⟩, ⟨by repeat (first | (with_reducible first | exact HB.out | apply zB | apply zC | apply zE | refine below_set ?_ GE9176.out) | exact HB.out)⟩⟩
              ·rw [if_neg c33] at H
               exact absurd H (by simp)
             ·rw [if_neg c32] at H
              exact absurd H (by simp)
            ·rw [if_neg c30] at H
             have c30b0 : decide (0 < x42_2) = false := decide_eq_false c30
             clear c30
             have H' := Aq H
             clear H
             have p9178 : 0 ≤ (x42_2 : Int) := of_decide_eq_true (by first | (with_reducible assumption) | assumption)
             have q9178 : x42_2 < (l0_2.length : Int) := of_decide_eq_true (by first | (with_reducible assumption) | assumption)
             obtain ⟨ad9178, e9178, hx9178_0⟩ := Kd.at_int HR0_2.out x42_2 p9178 q9178
             cases e9178
             replace hx9178_0 := (HB.out.cell (World.block_lt_of_cell? w _ hx9178_0)).trans hx9178_0
             replace p9178 := eq_true p9178
             replace q9178 := eq_true q9178
             go_wp2
             go_roundg k2
             case measure => have := HJ5.out; have := HK2.out; omega
             case rel => exact ⟨(wrap64 (x42_2 + 1)), (by first | rfl | (simp; done) | (simp [*]; done)), H', ⟨by have := HJ5.out; have := HK2.out; omega⟩, ⟨by (with_reducible repeat (first | refine zN ?_ _ | refine zD ?_ | refine zA ?_ _)); exact BK9176.out⟩, ⟨by repeat (first | (with_reducible first | exact HB.out | apply zB | apply zC | apply zE | refine below_set ?_ GE9176.out) | exact HB.out)⟩⟩
          ·rw [if_neg c28] at H
           exact absurd H (by simp)
         ·rw [if_neg c27] at H
          exact absurd H (by simp)
        ·rw [if_neg c26] at H
         have c26b0 : decide (x42_2 < (l0_2.length : Int)) = false := decide_eq_false c26
         clear c26
         obtain rfl := Option.some.inj H
         go_wp2
         go_ret
         exact ⟨by first | rfl | (simp [errW_none, errW_some] <;> rfl) | (simp [*, errW_none, errW_some] <;> rfl), by repeat (first | (with_reducible first | exact HB.out | apply zB | apply zC | apply zE | refine below_set ?_ GE9176.out) | exact HB.out)⟩
  ·rw [if_neg c5] at H
   have c5b0 : (a0_0 == 1) = false := beq_eq_false_iff_ne.mpr c5
   have c5b1 : (a0_0 != 1) = true := bne_iff_ne.mpr c5
   by_cases c37 : a0_0 = 2
   ·rw [if_pos c37] at H
    have c37b0 : (a0_0 == 2) = true := beq_iff_eq.mpr c37
    have c37b1 : (a0_0 != 2) = false := bne_eq_false_iff_eq.mpr c37
    clear c37
    replace H := Option.bind_eq_some_iff.mp H
    obtain ⟨t9180, A380, H⟩ := H
    replace H : (if t9180 = true then (if (a0_1.size : Int) > 40 then (some (-1)) else (if a0_3 = 0 then (if (l0_2.length : Int) > 0 then (some (-1)) else (if (l0_4.length : Int) > 0 then (some (-1)) else (some 1))) else (some (-1)))) else (some (-1))) = some r := H
    have A38 := Aq A380
    clear A380
    by_cases c39 : t9180 = true
    ·subst c39
     have H1 : (if (a0_1.size : Int) > 40 then (some (-1)) else (if a0_3 = 0 then (if (l0_2.length : Int) > 0 then (some (-1)) else (if (l0_4.length : Int) > 0 then (some (-1)) else (some 1))) else (some (-1)))) = some r := by rw [if_pos rfl] at H; exact H
     clear H
     have H := H1
     clear H1
     by_cases c40 : (a0_1.size : Int) > 40
     ·rw [if_pos c40] at H
      have c40b0 : decide (40 < (a0_1.size : Int)) = true := decide_eq_true c40
      have c40b1 : decide (40 < a0_1.size) = true := decide_eq_true (by omega)
      clear c40
      obtain rfl := Option.some.inj H
      go_enter Tryd.func34, Tryd.ntmps34
      go_wp2_with (first | ((with_reducible refine gate_dst (N := 2) rfl ?_); (try (refine gate_guard (by rfl) ?_; dsimp only)); refine box_event ?hg (N := 2) ?hd (cs := #[.int .i64 a0_0, .string a0_1, .slice A0_2 l0_2.length c0_2, .int .i64 a0_3, .slice A0_4 l0_4.length c0_4]) (t := 35) ?hr ?_; (case hd => rfl); (case hg => rfl); (case hr => first | (go_simp; done) | (go_simp; rfl)); intro gb9176 hg w41 hbox hb; have n0_ := Aq (below_step (by repeat (first | (with_reducible first | exact HB.out | apply zB | apply zC | apply zE) | exact HB.out)) hb); have n1_ := Aq (hbox); have n2_ := Aq ((by rw [hg]; exact (below_size (by repeat (first | (with_reducible first | exact HB.out | apply zB | apply zC | apply zE) | exact HB.out))) : w.heap.size ≤ gb9176)); have n3_ := Aq ((by rw [hg]; exact (below_size (by repeat (first | (with_reducible first | exact HB.out | apply zB | apply zC | apply zE) | exact HB.out))) : w.heap.size ≤ gb9176)); clear HB; have HB := n0_; have BK9176 := n1_; have GW9176 := n2_; have GE9176 := n3_; clear n0_ n1_ n2_ n3_ hb hbox hg; have hcz42_0 : w41.cell? ⟨gb9176, 0, none⟩ = some (.int .i64 a0_0) := (blk_cell BK9176.out 0).trans rfl; have hcz42_1 : w41.cell? ⟨gb9176, 1, none⟩ = some (.string a0_1) := (blk_cell BK9176.out 1).trans rfl; have hcz42_2 : w41.cell? ⟨gb9176, 2, none⟩ = some (.slice A0_2 l0_2.length c0_2) := (blk_cell BK9176.out 2).trans rfl; have hcz42_3 : w41.cell? ⟨gb9176, 3, none⟩ = some (.int .i64 a0_3) := (blk_cell BK9176.out 3).trans rfl; have hcz42_4 : w41.cell? ⟨gb9176, 4, none⟩ = some (.slice A0_4 l0_4.length c0_4) := (blk_cell BK9176.out 4).trans rfl; have hfz42_0 := blk_frozen BK9176.out 0; have hfz42_1 := blk_frozen BK9176.out 1; have hfz42_2 := blk_frozen BK9176.out 2; have hfz42_3 := blk_frozen BK9176.out 3; have hfz42_4 := blk_frozen BK9176.out 4) | ((with_reducible refine gate_callee (f := 58) rfl ?_); refine goesL_ (some 68) rfl rfl Tryd.func58 (by kernel_rfl) rfl #[.string a0_1] rfl (by (try simp only [List.map_toArray, List.map_cons, List.map_nil]); first | done | rfl | (simp only [List.length_drop, List.length_take]; rfl)) ?_; (with_reducible refine (impl_expAtom.calls k a0_1 true _ A38.out).mono ?_); rintro e w43 ⟨rfl, hb⟩; refine ⟨_, rfl, ?_⟩; have n0_ := Aq (blk_below (g := gb9176) (o := .cells #[.int .i64 a0_0, .string a0_1, .slice A0_2 l0_2.length c0_2, .int .i64 a0_3, .slice A0_4 l0_4.length c0_4] 35 (0, 0)) (by (with_reducible repeat (first | refine zN ?_ _ | refine zD ?_ | refine zA ?_ _)); exact BK9176.out) hb); have n1_ := Aq (below_step (by repeat (first | (with_reducible first | exact HB.out | apply zB | apply zC | apply zE | refine below_set ?_ GE9176.out) | exact HB.out)) hb); clear BK9176 HB; have BK9176 := n0_; have HB := n1_; clear n0_ n1_; (try clear hb); (try clear hb2); (try clear hk); (try clear hi); have hcz44_0 : w43.cell? ⟨gb9176, 0, none⟩ = some (.int .i64 a0_0) := (blk_cell BK9176.out 0).trans rfl; have hcz44_1 : w43.cell? ⟨gb9176, 1, none⟩ = some (.string a0_1) := (blk_cell BK9176.out 1).trans rfl; have hcz44_2 : w43.cell? ⟨gb9176, 2, none⟩ = some (.slice A0_2 l0_2.length c0_2) := (blk_cell BK9176.out 2).trans rfl; have hcz44_3 : w43.cell? ⟨gb9176, 3, none⟩ = some (.int .i64 a0_3) := (blk_cell BK9176.out 3).trans rfl; have hcz44_4 : w43.cell? ⟨gb9176, 4, none⟩ = some (.slice A0_4 l0_4.length c0_4) := (blk_cell BK9176.out 4).trans rfl; have hfz44_0 := blk_frozen BK9176.out 0; have hfz44_1 := blk_frozen BK9176.out 1; have hfz44_2 := blk_frozen BK9176.out 2; have hfz44_3 := blk_frozen BK9176.out 3; have hfz44_4 := blk_frozen BK9176.out 4))
      go_ret
      exact ⟨by first | rfl | (simp [errW_none, errW_some] <;> rfl) | (simp [*, errW_none, errW_some] <;> rfl), by repeat (first | (with_reducible first | exact HB.out | apply zB | apply zC | apply zE | refine below_set ?_ GE9176.out) | exact HB.out)⟩
     ·rw [if_neg c40] at H
      have c40b0 : decide (40 < (a0_1.size : Int)) = false := decide_eq_false c40
      have c40b1 : decide (40 < a0_1.size) = false := decide_eq_false (by omega)
      clear c40
      by_cases c45 : a0_3 = 0
      ·rw [if_pos c45] at H
       have c45b0 : (a0_3 == 0) = true := beq_iff_eq.mpr c45
       have c45b1 : (a0_3 != 0) = false := bne_eq_false_iff_eq.mpr c45
       clear c45
       by_cases c46 : (l0_2.length : Int) > 0
       ·rw [if_pos c46] at H
        have c46b0 : decide (0 < (l0_2.length : Int)) = true := decide_eq_true c46
        have c46b1 : decide (0 < l0_2.length) = true := decide_eq_true (by omega)
        clear c46
        obtain rfl := Option.some.inj H
        go_enter Tryd.func34, Tryd.ntmps34
        go_wp2_with (first | ((with_reducible refine gate_dst (N := 2) rfl ?_); (try (refine gate_guard (by rfl) ?_; dsimp only)); refine box_event ?hg (N := 2) ?hd (cs := #[.int .i64 a0_0, .string a0_1, .slice A0_2 l0_2.length c0_2, .int .i64 a0_3, .slice A0_4 l0_4.length c0_4]) (t := 35) ?hr ?_; (case hd => rfl); (case hg => rfl); (case hr => first | (go_simp; done) | (go_simp; rfl)); intro gb9176 hg w47 hbox hb; have n0_ := Aq (below_step (by repeat (first | (with_reducible first | exact HB.out | apply zB | apply zC | apply zE) | exact HB.out)) hb); have n1_ := Aq (hbox); have n2_ := Aq ((by rw [hg]; exact (below_size (by repeat (first | (with_reducible first | exact HB.out | apply zB | apply zC | apply zE) | exact HB.out))) : w.heap.size ≤ gb9176)); have n3_ := Aq ((by rw [hg]; exact (below_size (by repeat (first | (with_reducible first | exact HB.out | apply zB | apply zC | apply zE) | exact HB.out))) : w.heap.size ≤ gb9176)); clear HB; have HB := n0_; have BK9176 := n1_; have GW9176 := n2_; have GE9176 := n3_; clear n0_ n1_ n2_ n3_ hb hbox hg; have hcz48_0 : w47.cell? ⟨gb9176, 0, none⟩ = some (.int .i64 a0_0) := (blk_cell BK9176.out 0).trans rfl; have hcz48_1 : w47.cell? ⟨gb9176, 1, none⟩ = some (.string a0_1) := (blk_cell BK9176.out 1).trans rfl; have hcz48_2 : w47.cell? ⟨gb9176, 2, none⟩ = some (.slice A0_2 l0_2.length c0_2) := (blk_cell BK9176.out 2).trans rfl; have hcz48_3 : w47.cell? ⟨gb9176, 3, none⟩ = some (.int .i64 a0_3) := (blk_cell BK9176.out 3).trans rfl; have hcz48_4 : w47.cell? ⟨gb9176, 4, none⟩ = some (.slice A0_4 l0_4.length c0_4) := (blk_cell BK9176.out 4).trans rfl; have hfz48_0 := blk_frozen BK9176.out 0; have hfz48_1 := blk_frozen BK9176.out 1; have hfz48_2 := blk_frozen BK9176.out 2; have hfz48_3 := blk_frozen BK9176.out 3; have hfz48_4 := blk_frozen BK9176.out 4) | ((with_reducible refine gate_callee (f := 58) rfl ?_); refine goesL_ (some 68) rfl rfl Tryd.func58 (by kernel_rfl) rfl #[.string a0_1] rfl (by (try simp only [List.map_toArray, List.map_cons, List.map_nil]); first | done | rfl | (simp only [List.length_drop, List.length_take]; rfl)) ?_; (with_reducible refine (impl_expAtom.calls k a0_1 true _ A38.out).mono ?_); rintro e w49 ⟨rfl, hb⟩; refine ⟨_, rfl, ?_⟩; have n0_ := Aq (blk_below (g := gb9176) (o := .cells #[.int .i64 a0_0, .string a0_1, .slice A0_2 l0_2.length c0_2, .int .i64 a0_3, .slice A0_4 l0_4.length c0_4] 35 (0, 0)) (by (with_reducible repeat (first | refine zN ?_ _ | refine zD ?_ | refine zA ?_ _)); exact BK9176.out) hb); have n1_ := Aq (below_step (by repeat (first | (with_reducible first | exact HB.out | apply zB | apply zC | apply zE | refine below_set ?_ GE9176.out) | exact HB.out)) hb); clear BK9176 HB; have BK9176 := n0_; have HB := n1_; clear n0_ n1_; (try clear hb); (try clear hb2); (try clear hk); (try clear hi); have hcz50_0 : w49.cell? ⟨gb9176, 0, none⟩ = some (.int .i64 a0_0) := (blk_cell BK9176.out 0).trans rfl; have hcz50_1 : w49.cell? ⟨gb9176, 1, none⟩ = some (.string a0_1) := (blk_cell BK9176.out 1).trans rfl; have hcz50_2 : w49.cell? ⟨gb9176, 2, none⟩ = some (.slice A0_2 l0_2.length c0_2) := (blk_cell BK9176.out 2).trans rfl; have hcz50_3 : w49.cell? ⟨gb9176, 3, none⟩ = some (.int .i64 a0_3) := (blk_cell BK9176.out 3).trans rfl; have hcz50_4 : w49.cell? ⟨gb9176, 4, none⟩ = some (.slice A0_4 l0_4.length c0_4) := (blk_cell BK9176.out 4).trans rfl; have hfz50_0 := blk_frozen BK9176.out 0; have hfz50_1 := blk_frozen BK9176.out 1; have hfz50_2 := blk_frozen BK9176.out 2; have hfz50_3 := blk_frozen BK9176.out 3; have hfz50_4 := blk_frozen BK9176.out 4))
        go_ret
        exact ⟨by first | rfl | (simp [errW_none, errW_some] <;> rfl) | (simp [*, errW_none, errW_some] <;> rfl), by repeat (first | (with_reducible first | exact HB.out | apply zB | apply zC | apply zE | refine below_set ?_ GE9176.out) | exact HB.out)⟩
       ·rw [if_neg c46] at H
        have c46b0 : decide (0 < (l0_2.length : Int)) = false := decide_eq_false c46
        have c46b1 : decide (0 < l0_2.length) = false := decide_eq_false (by omega)
        clear c46
        by_cases c51 : (l0_4.length : Int) > 0
        ·rw [if_pos c51] at H
         have c51b0 : decide (0 < (l0_4.length : Int)) = true := decide_eq_true c51
         have c51b1 : decide (0 < l0_4.length) = true := decide_eq_true (by omega)
         clear c51
         obtain rfl := Option.some.inj H
         go_enter Tryd.func34, Tryd.ntmps34
         go_wp2_with (first | ((with_reducible refine gate_dst (N := 2) rfl ?_); (try (refine gate_guard (by rfl) ?_; dsimp only)); refine box_event ?hg (N := 2) ?hd (cs := #[.int .i64 a0_0, .string a0_1, .slice A0_2 l0_2.length c0_2, .int .i64 a0_3, .slice A0_4 l0_4.length c0_4]) (t := 35) ?hr ?_; (case hd => rfl); (case hg => rfl); (case hr => first | (go_simp; done) | (go_simp; rfl)); intro gb9176 hg w52 hbox hb; have n0_ := Aq (below_step (by repeat (first | (with_reducible first | exact HB.out | apply zB | apply zC | apply zE) | exact HB.out)) hb); have n1_ := Aq (hbox); have n2_ := Aq ((by rw [hg]; exact (below_size (by repeat (first | (with_reducible first | exact HB.out | apply zB | apply zC | apply zE) | exact HB.out))) : w.heap.size ≤ gb9176)); have n3_ := Aq ((by rw [hg]; exact (below_size (by repeat (first | (with_reducible first | exact HB.out | apply zB | apply zC | apply zE) | exact HB.out))) : w.heap.size ≤ gb9176)); clear HB; have HB := n0_; have BK9176 := n1_; have GW9176 := n2_; have GE9176 := n3_; clear n0_ n1_ n2_ n3_ hb hbox hg; have hcz53_0 : w52.cell? ⟨gb9176, 0, none⟩ = some (.int .i64 a0_0) := (blk_cell BK9176.out 0).trans rfl; have hcz53_1 : w52.cell? ⟨gb9176, 1, none⟩ = some (.string a0_1) := (blk_cell BK9176.out 1).trans rfl; have hcz53_2 : w52.cell? ⟨gb9176, 2, none⟩ = some (.slice A0_2 l0_2.length c0_2) := (blk_cell BK9176.out 2).trans rfl; have hcz53_3 : w52.cell? ⟨gb9176, 3, none⟩ = some (.int .i64 a0_3) := (blk_cell BK9176.out 3).trans rfl; have hcz53_4 : w52.cell? ⟨gb9176, 4, none⟩ = some (.slice A0_4 l0_4.length c0_4) := (blk_cell BK9176.out 4).trans rfl; have hfz53_0 := blk_frozen BK9176.out 0; have hfz53_1 := blk_frozen BK9176.out 1; have hfz53_2 := blk_frozen BK9176.out 2; have hfz53_3 := blk_frozen BK9176.out 3; have hfz53_4 := blk_frozen BK9176.out 4) | ((with_reducible refine gate_callee (f := 58) rfl ?_); refine goesL_ (some 68) rfl rfl Tryd.func58 (by kernel_rfl) rfl #[.string a0_1] rfl (by (try simp only [List.map_toArray, List.map_cons, List.map_nil]); first | done | rfl | (simp only [List.length_drop, List.length_take]; rfl)) ?_; (with_reducible refine (impl_expAtom.calls k a0_1 true _ A38.out).mono ?_); rintro e w54 ⟨rfl, hb⟩; refine ⟨_, rfl, ?_⟩; have n0_ := Aq (blk_below (g := gb9176) (o := .cells #[.int .i64 a0_0, .string a0_1, .slice A0_2 l0_2.length c0_2, .int .i64 a0_3, .slice A0_4 l0_4.length c0_4] 35 (0, 0)) (by (with_reducible repeat (first | refine zN ?_ _ | refine zD ?_ | refine zA ?_ _)); exact BK9176.out) hb); have n1_ := Aq (below_step (by repeat (first | (with_reducible first | exact HB.out | apply zB | apply zC | apply zE | refine below_set ?_ GE9176.out) | exact HB.out)) hb); clear BK9176 HB; have BK9176 := n0_; have HB := n1_; clear n0_ n1_; (try clear hb); (try clear hb2); (try clear hk); (try clear hi); have hcz55_0 : w54.cell? ⟨gb9176, 0, none⟩ = some (.int .i64 a0_0) := (blk_cell BK9176.out 0).trans rfl; have hcz55_1 : w54.cell? ⟨gb9176, 1, none⟩ = some (.string a0_1) := (blk_cell BK9176.out 1).trans rfl; have hcz55_2 : w54.cell? ⟨gb9176, 2, none⟩ = some (.slice A0_2 l0_2.length c0_2) := (blk_cell BK9176.out 2).trans rfl; have hcz55_3 : w54.cell? ⟨gb9176, 3, none⟩ = some (.int .i64 a0_3) := (blk_cell BK9176.out 3).trans rfl; have hcz55_4 : w54.cell? ⟨gb9176, 4, none⟩ = some (.slice A0_4 l0_4.length c0_4) := (blk_cell BK9176.out 4).trans rfl; have hfz55_0 := blk_frozen BK9176.out 0; have hfz55_1 := blk_frozen BK9176.out 1; have hfz55_2 := blk_frozen BK9176.out 2; have hfz55_3 := blk_frozen BK9176.out 3; have hfz55_4 := blk_frozen BK9176.out 4))
         go_ret
         exact ⟨by first | rfl | (simp [errW_none, errW_some] <;> rfl) | (simp [*, errW_none, errW_some] <;> rfl), by repeat (first | (with_reducible first | exact HB.out | apply zB | apply zC | apply zE | refine below_set ?_ GE9176.out) | exact HB.out)⟩
        ·rw [if_neg c51] at H
         have c51b0 : decide (0 < (l0_4.length : Int)) = false := decide_eq_false c51
         have c51b1 : decide (0 < l0_4.length) = false := decide_eq_false (by omega)
         clear c51
         obtain rfl := Option.some.inj H
         go_enter Tryd.func34, Tryd.ntmps34
         go_wp2_with (first | ((with_reducible refine gate_dst (N := 2) rfl ?_); (try (refine gate_guard (by rfl) ?_; dsimp only)); refine box_event ?hg (N := 2) ?hd (cs := #[.int .i64 a0_0, .string a0_1, .slice A0_2 l0_2.length c0_2, .int .i64 a0_3, .slice A0_4 l0_4.length c0_4]) (t := 35) ?hr ?_; (case hd => rfl); (case hg => rfl); (case hr => first | (go_simp; done) | (go_simp; rfl)); intro gb9176 hg w56 hbox hb; have n0_ := Aq (below_step (by repeat (first | (with_reducible first | exact HB.out | apply zB | apply zC | apply zE) | exact HB.out)) hb); have n1_ := Aq (hbox); have n2_ := Aq ((by rw [hg]; exact (below_size (by repeat (first | (with_reducible first | exact HB.out | apply zB | apply zC | apply zE) | exact HB.out))) : w.heap.size ≤ gb9176)); have n3_ := Aq ((by rw [hg]; exact (below_size (by repeat (first | (with_reducible first | exact HB.out | apply zB | apply zC | apply zE) | exact HB.out))) : w.heap.size ≤ gb9176)); clear HB; have HB := n0_; have BK9176 := n1_; have GW9176 := n2_; have GE9176 := n3_; clear n0_ n1_ n2_ n3_ hb hbox hg; have hcz57_0 : w56.cell? ⟨gb9176, 0, none⟩ = some (.int .i64 a0_0) := (blk_cell BK9176.out 0).trans rfl; have hcz57_1 : w56.cell? ⟨gb9176, 1, none⟩ = some (.string a0_1) := (blk_cell BK9176.out 1).trans rfl; have hcz57_2 : w56.cell? ⟨gb9176, 2, none⟩ = some (.slice A0_2 l0_2.length c0_2) := (blk_cell BK9176.out 2).trans rfl; have hcz57_3 : w56.cell? ⟨gb9176, 3, none⟩ = some (.int .i64 a0_3) := (blk_cell BK9176.out 3).trans rfl; have hcz57_4 : w56.cell? ⟨gb9176, 4, none⟩ = some (.slice A0_4 l0_4.length c0_4) := (blk_cell BK9176.out 4).trans rfl; have hfz57_0 := blk_frozen BK9176.out 0; have hfz57_1 := blk_frozen BK9176.out 1; have hfz57_2 := blk_frozen BK9176.out 2; have hfz57_3 := blk_frozen BK9176.out 3; have hfz57_4 := blk_frozen BK9176.out 4) | ((with_reducible refine gate_callee (f := 58) rfl ?_); refine goesL_ (some 68) rfl rfl Tryd.func58 (by kernel_rfl) rfl #[.string a0_1] rfl (by (try simp only [List.map_toArray, List.map_cons, List.map_nil]); first | done | rfl | (simp only [List.length_drop, List.length_take]; rfl)) ?_; (with_reducible refine (impl_expAtom.calls k a0_1 true _ A38.out).mono ?_); rintro e w58 ⟨rfl, hb⟩; refine ⟨_, rfl, ?_⟩; have n0_ := Aq (blk_below (g := gb9176) (o := .cells #[.int .i64 a0_0, .string a0_1, .slice A0_2 l0_2.length c0_2, .int .i64 a0_3, .slice A0_4 l0_4.length c0_4] 35 (0, 0)) (by (with_reducible repeat (first | refine zN ?_ _ | refine zD ?_ | refine zA ?_ _)); exact BK9176.out) hb); have n1_ := Aq (below_step (by repeat (first | (with_reducible first | exact HB.out | apply zB | apply zC | apply zE | refine below_set ?_ GE9176.out) | exact HB.out)) hb); clear BK9176 HB; have BK9176 := n0_; have HB := n1_; clear n0_ n1_; (try clear hb); (try clear hb2); (try clear hk); (try clear hi); have hcz59_0 : w58.cell? ⟨gb9176, 0, none⟩ = some (.int .i64 a0_0) := (blk_cell BK9176.out 0).trans rfl; have hcz59_1 : w58.cell? ⟨gb9176, 1, none⟩ = some (.string a0_1) := (blk_cell BK9176.out 1).trans rfl; have hcz59_2 : w58.cell? ⟨gb9176, 2, none⟩ = some (.slice A0_2 l0_2.length c0_2) := (blk_cell BK9176.out 2).trans rfl; have hcz59_3 : w58.cell? ⟨gb9176, 3, none⟩ = some (.int .i64 a0_3) := (blk_cell BK9176.out 3).trans rfl; have hcz59_4 : w58.cell? ⟨gb9176, 4, none⟩ = some (.slice A0_4 l0_4.length c0_4) := (blk_cell BK9176.out 4).trans rfl; have hfz59_0 := blk_frozen BK9176.out 0; have hfz59_1 := blk_frozen BK9176.out 1; have hfz59_2 := blk_frozen BK9176.out 2; have hfz59_3 := blk_frozen BK9176.out 3; have hfz59_4 := blk_frozen BK9176.out 4))
         go_ret
         exact ⟨by first | rfl | (simp [errW_none, errW_some] <;> rfl) | (simp [*, errW_none, errW_some] <;> rfl), by repeat (first | (with_reducible first | exact HB.out | apply zB | apply zC | apply zE | refine below_set ?_ GE9176.out) | exact HB.out)⟩
      ·rw [if_neg c45] at H
       have c45b0 : (a0_3 == 0) = false := beq_eq_false_iff_ne.mpr c45
       have c45b1 : (a0_3 != 0) = true := bne_iff_ne.mpr c45
       obtain rfl := Option.some.inj H
       go_enter Tryd.func34, Tryd.ntmps34
       go_wp2_with (first | ((with_reducible refine gate_dst (N := 2) rfl ?_); (try (refine gate_guard (by rfl) ?_; dsimp only)); refine box_event ?hg (N := 2) ?hd (cs := #[.int .i64 a0_0, .string a0_1, .slice A0_2 l0_2.length c0_2, .int .i64 a0_3, .slice A0_4 l0_4.length c0_4]) (t := 35) ?hr ?_; (case hd => rfl); (case hg => rfl); (case hr => first | (go_simp; done) | (go_simp; rfl)); intro gb9176 hg w60 hbox hb; have n0_ := Aq (below_step (by repeat (first | (with_reducible first | exact HB.out | apply zB | apply zC | apply zE) | exact HB.out)) hb); have n1_ := Aq (hbox); have n2_ := Aq ((by rw [hg]; exact (below_size (by repeat (first | (with_reducible first | exact HB.out | apply zB | apply zC | apply zE) | exact HB.out))) : w.heap.size ≤ gb9176)); have n3_ := Aq ((by rw [hg]; exact (below_size (by repeat (first | (with_reducible first | exact HB.out | apply zB | apply zC | apply zE) | exact HB.out))) : w.heap.size ≤ gb9176)); clear HB; have HB := n0_; have BK9176 := n1_; have GW9176 := n2_; have GE9176 := n3_; clear n0_ n1_ n2_ n3_ hb hbox hg; have hcz61_0 : w60.cell? ⟨gb9176, 0, none⟩ = some (.int .i64 a0_0) := (blk_cell BK9176.out 0).trans rfl; have hcz61_1 : w60.cell? ⟨gb9176, 1, none⟩ = some (.string a0_1) := (blk_cell BK9176.out 1).trans rfl; have hcz61_2 : w60.cell? ⟨gb9176, 2, none⟩ = some (.slice A0_2 l0_2.length c0_2) := (blk_cell BK9176.out 2).trans rfl; have hcz61_3 : w60.cell? ⟨gb9176, 3, none⟩ = some (.int .i64 a0_3) := (blk_cell BK9176.out 3).trans rfl; have hcz61_4 : w60.cell? ⟨gb9176, 4, none⟩ = some (.slice A0_4 l0_4.length c0_4) := (blk_cell BK9176.out 4).trans rfl; have hfz61_0 := blk_frozen BK9176.out 0; have hfz61_1 := blk_frozen BK9176.out 1; have hfz61_2 := blk_frozen BK9176.out 2; have hfz61_3 := blk_frozen BK9176.out 3; have hfz61_4 := blk_frozen BK9176.out 4) | ((with_reducible refine gate_callee (f := 58) rfl ?_); refine goesL_ (some 68) rfl rfl Tryd.func58 (by kernel_rfl) rfl #[.string a0_1] rfl (by (try simp only [List.map_toArray, List.map_cons, List.map_nil]); first | done | rfl | (simp only [List.length_drop, List.length_take]; rfl)) ?_; (with_reducible refine (impl_expAtom.calls k a0_1 true _ A38.out).mono ?_); rintro e w62 ⟨rfl, hb⟩; refine ⟨_, rfl, ?_⟩; have n0_ := Aq (blk_below (g := gb9176) (o := .cells #[.int .i64 a0_0, .string a0_1, .slice A0_2 l0_2.length c0_2, .int .i64 a0_3, .slice A0_4 l0_4.length c0_4] 35 (0, 0)) (by (with_reducible repeat (first | refine zN ?_ _ | refine zD ?_ | refine zA ?_ _)); exact BK9176.out) hb); have n1_ := Aq (below_step (by repeat (first | (with_reducible first | exact HB.out | apply zB | apply zC | apply zE | refine below_set ?_ GE9176.out) | exact HB.out)) hb); clear BK9176 HB; have BK9176 := n0_; have HB := n1_; clear n0_ n1_; (try clear hb); (try clear hb2); (try clear hk); (try clear hi); have hcz63_0 : w62.cell? ⟨gb9176, 0, none⟩ = some (.int .i64 a0_0) := (blk_cell BK9176.out 0).trans rfl; have hcz63_1 : w62.cell? ⟨gb9176, 1, none⟩ = some (.string a0_1) := (blk_cell BK9176.out 1).trans rfl; have hcz63_2 : w62.cell? ⟨gb9176, 2, none⟩ = some (.slice A0_2 l0_2.length c0_2) := (blk_cell BK9176.out 2).trans rfl; have hcz63_3 : w62.cell? ⟨gb9176, 3, none⟩ = some (.int .i64 a0_3) := (blk_cell BK9176.out 3).trans rfl; have hcz63_4 : w62.cell? ⟨gb9176, 4, none⟩ = some (.slice A0_4 l0_4.length c0_4) := (blk_cell BK9176.out 4).trans rfl; have hfz63_0 := blk_frozen BK9176.out 0; have hfz63_1 := blk_frozen BK9176.out 1; have hfz63_2 := blk_frozen BK9176.out 2; have hfz63_3 := blk_frozen BK9176.out 3; have hfz63_4 := blk_frozen BK9176.out 4))
       go_ret
       exact ⟨by first | rfl | (simp [errW_none, errW_some] <;> rfl) | (simp [*, errW_none, errW_some] <;> rfl), by repeat (first | (with_reducible first | exact HB.out | apply zB | apply zC | apply zE | refine below_set ?_ GE9176.out) | exact HB.out)⟩
    ·replace c39 := Bool.eq_false_iff.mpr c39
     subst c39
     have H1 : (some (-1)) = some r := by rw [if_neg (show ¬ (false = true) by decide)] at H; exact H
     clear H
     have H := H1
     clear H1
     obtain rfl := Option.some.inj H
     go_enter Tryd.func34, Tryd.ntmps34
     go_wp2_with (first | ((with_reducible refine gate_dst (N := 2) rfl ?_); (try (refine gate_guard (by rfl) ?_; dsimp only)); refine box_event ?hg (N := 2) ?hd (cs := #[.int .i64 a0_0, .string a0_1, .slice A0_2 l0_2.length c0_2, .int .i64 a0_3, .slice A0_4 l0_4.length c0_4]) (t := 35) ?hr ?_; (case hd => rfl); (case hg => rfl); (case hr => first | (go_simp; done) | (go_simp; rfl)); intro gb9176 hg w64 hbox hb; have n0_ := Aq (below_step (by repeat (first | (with_reducible first | exact HB.out | apply zB | apply zC | apply zE) | exact HB.out)) hb); have n1_ := Aq (hbox); have n2_ := Aq ((by rw [hg]; exact (below_size (by repeat (first | (with_reducible first | exact HB.out | apply zB | apply zC | apply zE) | exact HB.out))) : w.heap.size ≤ gb9176)); have n3_ := Aq ((by rw [hg]; exact (below_size (by repeat (first | (with_reducible first | exact HB.out | apply zB | apply zC | apply zE) | exact HB.out))) : w.heap.size ≤ gb9176)); clear HB; have HB := n0_; have BK9176 := n1_; have GW9176 := n2_; have GE9176 := n3_; clear n0_ n1_ n2_ n3_ hb hbox hg; have hcz65_0 : w64.cell? ⟨gb9176, 0, none⟩ = some (.int .i64 a0_0) := (blk_cell BK9176.out 0).trans rfl; have hcz65_1 : w64.cell? ⟨gb9176, 1, none⟩ = some (.string a0_1) := (blk_cell BK9176.out 1).trans rfl; have hcz65_2 : w64.cell? ⟨gb9176, 2, none⟩ = some (.slice A0_2 l0_2.length c0_2) := (blk_cell BK9176.out 2).trans rfl; have hcz65_3 : w64.cell? ⟨gb9176, 3, none⟩ = some (.int .i64 a0_3) := (blk_cell BK9176.out 3).trans rfl; have hcz65_4 : w64.cell? ⟨gb9176, 4, none⟩ = some (.slice A0_4 l0_4.length c0_4) := (blk_cell BK9176.out 4).trans rfl; have hfz65_0 := blk_frozen BK9176.out 0; have hfz65_1 := blk_frozen BK9176.out 1; have hfz65_2 := blk_frozen BK9176.out 2; have hfz65_3 := blk_frozen BK9176.out 3; have hfz65_4 := blk_frozen BK9176.out 4) | ((with_reducible refine gate_callee (f := 58) rfl ?_); refine goesL_ (some 68) rfl rfl Tryd.func58 (by kernel_rfl) rfl #[.string a0_1] rfl (by (try simp only [List.map_toArray, List.map_cons, List.map_nil]); first | done | rfl | (simp only [List.length_drop, List.length_take]; rfl)) ?_; (with_reducible refine (impl_expAtom.calls k a0_1 false _ A38.out).mono ?_); rintro e w66 ⟨rfl, hb⟩; refine ⟨_, rfl, ?_⟩; have n0_ := Aq (blk_below (g := gb9176) (o := .cells #[.int .i64 a0_0, .string a0_1, .slice A0_2 l0_2.length c0_2, .int .i64 a0_3, .slice A0_4 l0_4.length c0_4] 35 (0, 0)) (by (with_reducible repeat (first | refine zN ?_ _ | refine zD ?_ | refine zA ?_ _)); exact BK9176.out) hb); have n1_ := Aq (below_step (by repeat (first | (with_reducible first | exact HB.out | apply zB | apply zC | apply zE | refine below_set ?_ GE9176.out) | exact HB.out)) hb); clear BK9176 HB; have BK9176 := n0_; have HB := n1_; clear n0_ n1_; (try clear hb); (try clear hb2); (try clear hk); (try clear hi)))
     go_ret
     exact ⟨by first | rfl | (simp [errW_none, errW_some] <;> rfl) | (simp [*, errW_none, errW_some] <;> rfl), by repeat (first | (with_reducible first | exact HB.out | apply zB | apply zC | apply zE | refine below_set ?_ GE9176.out) | exact HB.out)⟩
   ·rw [if_neg c37] at H
    have c37b0 : (a0_0 == 2) = false := beq_eq_false_iff_ne.mpr c37
    have c37b1 : (a0_0 != 2) = true := bne_iff_ne.mpr c37
    have HC67 := Aq H
    clear H
    go_enter Tryd.func34, Tryd.ntmps34
    go_upto_if 93 with (first | ((with_reducible refine gate_dst (N := 2) rfl ?_); (try (refine gate_guard (by rfl) ?_; dsimp only)); refine box_event ?hg (N := 2) ?hd (cs := #[.int .i64 a0_0, .string a0_1, .slice A0_2 l0_2.length c0_2, .int .i64 a0_3, .slice A0_4 l0_4.length c0_4]) (t := 35) ?hr ?_; (case hd => rfl); (case hg => rfl); (case hr => first | (go_simp; done) | (go_simp; rfl)); intro gb9176 hg w68 hbox hb; have n0_ := Aq (below_step (by repeat (first | (with_reducible first | exact HB.out | apply zB | apply zC | apply zE) | exact HB.out)) hb); have n1_ := Aq (hbox); have n2_ := Aq ((by rw [hg]; exact (below_size (by repeat (first | (with_reducible first | exact HB.out | apply zB | apply zC | apply zE) | exact HB.out))) : w.heap.size ≤ gb9176)); have n3_ := Aq ((by rw [hg]; exact (below_size (by repeat (first | (with_reducible first | exact HB.out | apply zB | apply zC | apply zE) | exact HB.out))) : w.heap.size ≤ gb9176)); clear HB; have HB := n0_; have BK9176 := n1_; have GW9176 := n2_; have GE9176 := n3_; clear n0_ n1_ n2_ n3_ hb hbox hg; have hcz69_0 : w68.cell? ⟨gb9176, 0, none⟩ = some (.int .i64 a0_0) := (blk_cell BK9176.out 0).trans rfl; have hcz69_1 : w68.cell? ⟨gb9176, 1, none⟩ = some (.string a0_1) := (blk_cell BK9176.out 1).trans rfl; have hcz69_2 : w68.cell? ⟨gb9176, 2, none⟩ = some (.slice A0_2 l0_2.length c0_2) := (blk_cell BK9176.out 2).trans rfl; have hcz69_3 : w68.cell? ⟨gb9176, 3, none⟩ = some (.int .i64 a0_3) := (blk_cell BK9176.out 3).trans rfl; have hcz69_4 : w68.cell? ⟨gb9176, 4, none⟩ = some (.slice A0_4 l0_4.length c0_4) := (blk_cell BK9176.out 4).trans rfl; have hfz69_0 := blk_frozen BK9176.out 0; have hfz69_1 := blk_frozen BK9176.out 1; have hfz69_2 := blk_frozen BK9176.out 2; have hfz69_3 := blk_frozen BK9176.out 3; have hfz69_4 := blk_frozen BK9176.out 4))
    (try simp only [Act.put, sA, sB, sC])
    go_cut [93] (fun v93 wc => ∃ (kq : Nat) (x93_66 : Bool), v93 = .bool x93_66 ∧ Aside0 (impl_expCount.j2 kq a1 1 x93_66 a0_0 a0_1 l0_2 a0_3 l0_4 = some r) ∧ Aside0 (kq ≤ k) ∧ Aside0 (wc.heap[gb9176]? = some (.cells #[.int .i64 a0_0, .string a0_1, (.slice A0_2 l0_2.length c0_2), .int .i64 a0_3, (.slice A0_4 l0_4.length c0_4)] 35 (0, 0))) ∧ Aside0 (Below w.heap.size w wc))
    case first =>
     have H := HC67.out
     clear HC67
     by_cases c70 : a0_0 = 3
     ·rw [if_pos c70] at H
      have c70b0 : (a0_0 == 3) = true := beq_iff_eq.mpr c70
      have c70b1 : (a0_0 != 3) = false := bne_eq_false_iff_eq.mpr c70
      clear c70
      (first | rw [c70b0] | (simp only [i64_w, i32_w]; rw [c70b0]) | skip)
      have H' := Aq H
      clear H
      go_wp2
      go_meet
      case rel => exact ⟨_, ((a0_0 == 3)), (by first | rfl | (simp; done) | (simp [*]; done)), H', ⟨by first | omega | exact Nat.le_refl _⟩, ⟨by (with_reducible repeat (first | refine zN ?_ _ | refine zD ?_ | refine zA ?_ _)); exact BK9176.out⟩, ⟨by repeat (first | (with_reducible first | exact HB.out | apply zB | apply zC | apply zE | refine below_set ?_ GE9176.out) | exact HB.out)⟩⟩
     ·rw [if_neg c70] at H
      have c70b0 : (a0_0 == 3) = false := beq_eq_false_iff_ne.mpr c70
      have c70b1 : (a0_0 != 3) = true := bne_iff_ne.mpr c70
      (first | rw [c70b0] | (simp only [i64_w, i32_w]; rw [c70b0]) | skip)
      have H' := Aq H
      clear H
      go_wp2
      go_meet
      case rel => exact ⟨_, ((a0_0 == 4)), (by first | rfl | (simp; done) | (simp [*]; done)), H', ⟨by first | omega | exact Nat.le_refl _⟩, ⟨by (with_reducible repeat (first | refine zN ?_ _ | refine zD ?_ | refine zA ?_ _)); exact BK9176.out⟩, ⟨by repeat (first | (with_reducible first | exact HB.out | apply zB | apply zC | apply zE | refine below_set ?_ GE9176.out) | exact HB.out)⟩⟩
    case rest =>
     clear HC67
     try clear c1
     try clear c2
     try clear p2
     try clear c3
     try clear c3b0
     try clear c4
     try clear c5
     try clear c5b0
     try clear c5b1
     try clear p6
     try clear c7
     try clear p9
     try clear q9
     try clear hx9
     try clear c10
     try clear c11
     try clear c11b0
     try clear c11b1
     try clear c15
     try clear c15b0
     try clear c24
     try clear c26
     try clear c26b0
     try clear c27
     try clear c27b0
     try clear c28
     try clear c28b0
     try clear c29
     try clear c29b0
     try clear c30
     try clear c30b0
     try clear c32
     try clear c32b0
     try clear c33
     try clear c33b0
     try clear c34
     try clear c34b0
     try clear c37
     try clear c37b0
     try clear c37b1
     try clear c39
     try clear c40
     try clear c40b0
     try clear c40b1
     try clear c45
     try clear c45b0
     try clear c45b1
     try clear c46
     try clear c46b0
     try clear c46b1
     try clear c51
     try clear c51b0
     try clear c51b1
     try clear c57
     try clear c58
     try clear p64
     try clear c70
     try clear c70b0
     try clear c70b1
     try clear hcz12_0
     try clear hcz12_1
     try clear hcz12_2
     try clear hcz12_3
     try clear hcz12_4
     try clear hcz14_0
     try clear hcz14_1
     try clear hcz14_2
     try clear hcz14_3
     try clear hcz14_4
     try clear hcz16_0
     try clear hcz16_1
     try clear hcz16_2
     try clear hcz16_3
     try clear hcz16_4
     try clear hcz18_0
     try clear hcz18_1
     try clear hcz18_2
     try clear hcz18_3
     try clear hcz18_4
     try clear hcz19_0
     try clear hcz19_1
     try clear hcz19_2
     try clear hcz19_3
     try clear hcz19_4
     try clear hcz21_0
     try clear hcz21_1
     try clear hcz21_2
     try clear hcz21_3
     try clear hcz21_4
     try clear hcz22_0
     try clear hcz22_1
     try clear hcz22_2
     try clear hcz22_3
     try clear hcz22_4
     try clear hcz25_0
     try clear hcz25_1
     try clear hcz25_2
     try clear hcz25_3
     try clear hcz25_4
     try clear hcz35_0
     try clear hcz35_1
     try clear hcz35_2
     try clear hcz35_3
     try clear hcz35_4
     try clear hcz36_0
     try clear hcz36_1
     try clear hcz36_2
     try clear hcz36_3
     try clear hcz36_4
     try clear hcz42_0
     try clear hcz42_1
     try clear hcz42_2
     try clear hcz42_3
     try clear hcz42_4
     try clear hcz44_0
     try clear hcz44_1
     try clear hcz44_2
     try clear hcz44_3
     try clear hcz44_4
     try clear hcz48_0
     try clear hcz48_1
     try clear hcz48_2
     try clear hcz48_3
     try clear hcz48_4
     try clear hcz50_0
     try clear hcz50_1
     try clear hcz50_2
     try clear hcz50_3
     try clear hcz50_4
     try clear hcz53_0
     try clear hcz53_1
     try clear hcz53_2
     try clear hcz53_3
     try clear hcz53_4
     try clear hcz55_0
     try clear hcz55_1
     try clear hcz55_2
     try clear hcz55_3
     try clear hcz55_4
     try clear hcz57_0
     try clear hcz57_1
     try clear hcz57_2
     try clear hcz57_3
     try clear hcz57_4
     try clear hcz59_0
     try clear hcz59_1
     try clear hcz59_2
     try clear hcz59_3
     try clear hcz59_4
     try clear hcz61_0
     try clear hcz61_1
     try clear hcz61_2
     try clear hcz61_3
     try clear hcz61_4
     try clear hcz63_0
     try clear hcz63_1
     try clear hcz63_2
     try clear hcz63_3
     try clear hcz63_4
     try clear hcz65_0
     try clear hcz65_1
     try clear hcz65_2
     try clear hcz65_3
     try clear hcz65_4
     try clear hcz69_0
     try clear hcz69_1
     try clear hcz69_2
     try clear hcz69_3
     try clear hcz69_4
     try clear hcz8_0
     try clear hcz8_1
     try clear hcz8_2
     try clear hcz8_3
     try clear hcz8_4
     try clear hfz12_0
     try clear hfz12_1
     try clear hfz12_2
     try clear hfz12_3
     try clear hfz12_4
     try clear hfz14_0
     try clear hfz14_1
     try clear hfz14_2
     try clear hfz14_3
     try clear hfz14_4
     try clear hfz16_0
     try clear hfz16_1
     try clear hfz16_2
     try clear hfz16_3
     try clear hfz16_4
     try clear hfz18_0
     try clear hfz18_1
     try clear hfz18_2
     try clear hfz18_3
     try clear hfz18_4
     try clear hfz19_0
     try clear hfz19_1
     try clear hfz19_2
     try clear hfz19_3
     try clear hfz19_4
     try clear hfz21_0
     try clear hfz21_1
     try clear hfz21_2
     try clear hfz21_3
     try clear hfz21_4
     try clear hfz22_0
     try clear hfz22_1
     try clear hfz22_2
     try clear hfz22_3
     try clear hfz22_4
     try clear hfz25_0
     try clear hfz25_1
     try clear hfz25_2
     try clear hfz25_3
     try clear hfz25_4
     try clear hfz35_0
     try clear hfz35_1
     try clear hfz35_2
     try clear hfz35_3
     try clear hfz35_4
     try clear hfz36_0
     try clear hfz36_1
     try clear hfz36_2
     try clear hfz36_3
     try clear hfz36_4
     try clear hfz42_0
     try clear hfz42_1
     try clear hfz42_2
     try clear hfz42_3
     try clear hfz42_4
     try clear hfz44_0
     try clear hfz44_1
     try clear hfz44_2
     try clear hfz44_3
     try clear hfz44_4
     try clear hfz48_0
     try clear hfz48_1
     try clear hfz48_2
     try clear hfz48_3
     try clear hfz48_4
     try clear hfz50_0
     try clear hfz50_1
     try clear hfz50_2
     try clear hfz50_3
     try clear hfz50_4
     try clear hfz53_0
     try clear hfz53_1
     try clear hfz53_2
     try clear hfz53_3
     try clear hfz53_4
     try clear hfz55_0
     try clear hfz55_1
     try clear hfz55_2
     try clear hfz55_3
     try clear hfz55_4
     try clear hfz57_0
     try clear hfz57_1
     try clear hfz57_2
     try clear hfz57_3
     try clear hfz57_4
     try clear hfz59_0
     try clear hfz59_1
     try clear hfz59_2
     try clear hfz59_3
     try clear hfz59_4
     try clear hfz61_0
     try clear hfz61_1
     try clear hfz61_2
     try clear hfz61_3
     try clear hfz61_4
     try clear hfz63_0
     try clear hfz63_1
     try clear hfz63_2
     try clear hfz63_3
     try clear hfz63_4
     try clear hfz65_0
     try clear hfz65_1
     try clear hfz65_2
     try clear hfz65_3
     try clear hfz65_4
     try clear hfz69_0
     try clear hfz69_1
     try clear hfz69_2
     try clear hfz69_3
     try clear hfz69_4
     try clear hfz8_0
     try clear hfz8_1
     try clear hfz8_2
     try clear hfz8_3
     try clear hfz8_4
     try clear hx9178_0
     try clear hx9179_0
     try clear p2
     try clear p9178
     try clear p9179
     try clear q9178
     try clear q9179
     obtain ⟨kq, x93_66, rfl, HA, HJ66, BK9176, HB⟩ := hcut
     cases kq with
     | zero => exact absurd HA.out (by simp [impl_expCount.j2])
     | succ kj66 =>
      have H := HA.out
      clear HA
      simp only [impl_expCount.j2] at H
      by_cases c71 : x93_66 = true
      ·subst c71
       have H1 : (if a0_1.toList = ([] : List UInt8) then (if a0_3 = 0 then (impl_expCount.j3 kj66 a1 1 (decide ((l0_2.length : Int) > 0)) a0_0 a0_1 l0_2 a0_3 l0_4) else (impl_expCount.j3 kj66 a1 1 true a0_0 a0_1 l0_2 a0_3 l0_4)) else (impl_expCount.j3 kj66 a1 1 true a0_0 a0_1 l0_2 a0_3 l0_4)) = some r := by rw [if_pos rfl] at H; exact H
       clear H
       have H := H1
       clear H1
       have HC72 := Aq H
       clear H
       go_upto_region 20 with (fail)
       go_cut [109] (fun v109 wc => ∃ (kq : Nat) (x109_71 : Bool), v109 = .bool x109_71 ∧ Aside0 (impl_expCount.j3 kq a1 1 x109_71 a0_0 a0_1 l0_2 a0_3 l0_4 = some r) ∧ Aside0 (kq ≤ kj66) ∧ Aside0 (wc.heap[gb9176]? = some (.cells #[.int .i64 a0_0, .string a0_1, (.slice A0_2 l0_2.length c0_2), .int .i64 a0_3, (.slice A0_4 l0_4.length c0_4)] 35 (0, 0))) ∧ Aside0 (Below w.heap.size w wc))
       case first =>
        have H := HC72.out
        clear HC72
        by_cases c73 : a0_1.toList = ([] : List UInt8)
        ·rw [if_pos c73] at H
         have c73b0 : (a0_1.toList == ([] : List UInt8)) = true := beq_iff_eq.mpr c73
         have c73b1 : (a0_1.toList != ([] : List UInt8)) = false := bne_eq_false_iff_eq.mpr c73
         clear c73
         (first | rw [c73b0] | (simp only [i64_w, i32_w]; rw [c73b0]) | skip)
         by_cases c74 : a0_3 = 0
         ·rw [if_pos c74] at H
          have c74b0 : (a0_3 == 0) = true := beq_iff_eq.mpr c74
          have c74b1 : (a0_3 != 0) = false := bne_eq_false_iff_eq.mpr c74
          clear c74
          have H' := Aq H
          clear H
          have hcz75_0 : wc.cell? ⟨gb9176, 0, none⟩ = some (.int .i64 a0_0) := (blk_cell BK9176.out 0).trans rfl
          have hcz75_1 : wc.cell? ⟨gb9176, 1, none⟩ = some (.string a0_1) := (blk_cell BK9176.out 1).trans rfl
          have hcz75_2 : wc.cell? ⟨gb9176, 2, none⟩ = some (.slice A0_2 l0_2.length c0_2) := (blk_cell BK9176.out 2).trans rfl
          have hcz75_3 : wc.cell? ⟨gb9176, 3, none⟩ = some (.int .i64 a0_3) := (blk_cell BK9176.out 3).trans rfl
          have hcz75_4 : wc.cell? ⟨gb9176, 4, none⟩ = some (.slice A0_4 l0_4.length c0_4) := (blk_cell BK9176.out 4).trans rfl
          have hfz75_0 := blk_frozen BK9176.out 0
          have hfz75_1 := blk_frozen BK9176.out 1
          have hfz75_2 := blk_frozen BK9176.out 2
          have hfz75_3 := blk_frozen BK9176.out 3
          have hfz75_4 := blk_frozen BK9176.out 4
          go_wp2
          go_meet
          case rel => exact ⟨_, (decide ((l0_2.length : Int) > 0)), (by first | rfl | (simp; done) | (simp [*]; done)), H', ⟨by have := HJ66.out; first | omega | exact Nat.le_refl _⟩, ⟨by (with_reducible repeat (first | refine zN ?_ _ | refine zD ?_ | refine zA ?_ _)); exact BK9176.out⟩, ⟨by repeat (first | (with_reducible first | exact HB.out | apply zB | apply zC | apply zE | refine below_set ?_ GE9176.out) | exact HB.out)⟩⟩
         ·rw [if_neg c74] at H
          have c74b0 : (a0_3 == 0) = false := beq_eq_false_iff_ne.mpr c74
          have c74b1 : (a0_3 != 0) = true := bne_iff_ne.mpr c74
          have H' := Aq H
          clear H
          have hcz76_0 : wc.cell? ⟨gb9176, 0, none⟩ = some (.int .i64 a0_0) := (blk_cell BK9176.out 0).trans rfl
          have hcz76_1 : wc.cell? ⟨gb9176, 1, none⟩ = some (.string a0_1) := (blk_cell BK9176.out 1).trans rfl
          have hcz76_2 : wc.cell? ⟨gb9176, 2, none⟩ = some (.slice A0_2 l0_2.length c0_2) := (blk_cell BK9176.out 2).trans rfl
          have hcz76_3 : wc.cell? ⟨gb9176, 3, none⟩ = some (.int .i64 a0_3) := (blk_cell BK9176.out 3).trans rfl
          have hcz76_4 : wc.cell? ⟨gb9176, 4, none⟩ = some (.slice A0_4 l0_4.length c0_4) := (blk_cell BK9176.out 4).trans rfl
          have hfz76_0 := blk_frozen BK9176.out 0
          have hfz76_1 := blk_frozen BK9176.out 1
          have hfz76_2 := blk_frozen BK9176.out 2
          have hfz76_3 := blk_frozen BK9176.out 3
          have hfz76_4 := blk_frozen BK9176.out 4
          go_wp2
          go_meet
          case rel => exact ⟨_, (true), (by first | rfl | (simp; done) | (simp [*]; done)), H', ⟨by have := HJ66.out; first | omega | exact Nat.le_refl _⟩, ⟨by (with_reducible repeat (first | refine zN ?_ _ | refine zD ?_ | refine zA ?_ _)); exact BK9176.out⟩, ⟨by repeat (first | (with_reducible first | exact HB.out | apply zB | apply zC | apply zE | refine below_set ?_ GE9176.out) | exact HB.out)⟩⟩
        ·rw [if_neg c73] at H
         have c73b0 : (a0_1.toList == ([] : List UInt8)) = false := beq_eq_false_iff_ne.mpr c73
         have c73b1 : (a0_1.toList != ([] : List UInt8)) = true := bne_iff_ne.mpr c73
         (first | rw [c73b0] | (simp only [i64_w, i32_w]; rw [c73b0]) | skip)
         have H' := Aq H
         clear H
         have hcz77_0 : wc.cell? ⟨gb9176, 0, none⟩ = some (.int .i64 a0_0) := (blk_cell BK9176.out 0).trans rfl
         have hcz77_1 : wc.cell? ⟨gb9176, 1, none⟩ = some (.string a0_1) := (blk_cell BK9176.out 1).trans rfl
         have hcz77_2 : wc.cell? ⟨gb9176, 2, none⟩ = some (.slice A0_2 l0_2.length c0_2) := (blk_cell BK9176.out 2).trans rfl
         have hcz77_3 : wc.cell? ⟨gb9176, 3, none⟩ = some (.int .i64 a0_3) := (blk_cell BK9176.out 3).trans rfl
         have hcz77_4 : wc.cell? ⟨gb9176, 4, none⟩ = some (.slice A0_4 l0_4.length c0_4) := (blk_cell BK9176.out 4).trans rfl
         have hfz77_0 := blk_frozen BK9176.out 0
         have hfz77_1 := blk_frozen BK9176.out 1
         have hfz77_2 := blk_frozen BK9176.out 2
         have hfz77_3 := blk_frozen BK9176.out 3
         have hfz77_4 := blk_frozen BK9176.out 4
         go_wp2
         go_meet
         case rel => exact ⟨_, (true), (by first | rfl | (simp; done) | (simp [*]; done)), H', ⟨by have := HJ66.out; first | omega | exact Nat.le_refl _⟩, ⟨by (with_reducible repeat (first | refine zN ?_ _ | refine zD ?_ | refine zA ?_ _)); exact BK9176.out⟩, ⟨by repeat (first | (with_reducible first | exact HB.out | apply zB | apply zC | apply zE | refine below_set ?_ GE9176.out) | exact HB.out)⟩⟩
       case rest =>
        clear HC72
        try clear c1
        try clear c2
        try clear p2
        try clear c3
        try clear c3b0
        try clear c4
        try clear c5
        try clear c5b0
        try clear c5b1
        try clear p6
        try clear c7
        try clear p9
        try clear q9
        try clear hx9
        try clear c10
        try clear c11
        try clear c11b0
        try clear c11b1
        try clear c15
        try clear c15b0
        try clear c24
        try clear c26
        try clear c26b0
        try clear c27
        try clear c27b0
        try clear c28
        try clear c28b0
        try clear c29
        try clear c29b0
        try clear c30
        try clear c30b0
        try clear c32
        try clear c32b0
        try clear c33
        try clear c33b0
        try clear c34
        try clear c34b0
        try clear c37
        try clear c37b0
        try clear c37b1
        try clear c39
        try clear c40
        try clear c40b0
        try clear c40b1
        try clear c45
        try clear c45b0
        try clear c45b1
        try clear c46
        try clear c46b0
        try clear c46b1
        try clear c51
        try clear c51b0
        try clear c51b1
        try clear c57
        try clear c58
        try clear p64
        try clear c70
        try clear c70b0
        try clear c70b1
        try clear c71
        try clear c73
        try clear c73b0
        try clear c73b1
        try clear c74
        try clear c74b0
        try clear c74b1
        try clear hcz12_0
        try clear hcz12_1
        try clear hcz12_2
        try clear hcz12_3
        try clear hcz12_4
        try clear hcz14_0
        try clear hcz14_1
        try clear hcz14_2
        try clear hcz14_3
        try clear hcz14_4
        try clear hcz16_0
        try clear hcz16_1
        try clear hcz16_2
        try clear hcz16_3
        try clear hcz16_4
        try clear hcz18_0
        try clear hcz18_1
        try clear hcz18_2
        try clear hcz18_3
        try clear hcz18_4
        try clear hcz19_0
        try clear hcz19_1
        try clear hcz19_2
        try clear hcz19_3
        try clear hcz19_4
        try clear hcz21_0
        try clear hcz21_1
        try clear hcz21_2
        try clear hcz21_3
        try clear hcz21_4
        try clear hcz22_0
        try clear hcz22_1
        try clear hcz22_2
        try clear hcz22_3
        try clear hcz22_4
        try clear hcz25_0
        try clear hcz25_1
        try clear hcz25_2
        try clear hcz25_3
        try clear hcz25_4
        try clear hcz35_0
        try clear hcz35_1
        try clear hcz35_2
        try clear hcz35_3
        try clear hcz35_4
        try clear hcz36_0
        try clear hcz36_1
        try clear hcz36_2
        try clear hcz36_3
        try clear hcz36_4
        try clear hcz42_0
        try clear hcz42_1
        try clear hcz42_2
        try clear hcz42_3
        try clear hcz42_4
        try clear hcz44_0
        try clear hcz44_1
        try clear hcz44_2
        try clear hcz44_3
        try clear hcz44_4
        try clear hcz48_0
        try clear hcz48_1
        try clear hcz48_2
        try clear hcz48_3
        try clear hcz48_4
        try clear hcz50_0
        try clear hcz50_1
        try clear hcz50_2
        try clear hcz50_3
        try clear hcz50_4
        try clear hcz53_0
        try clear hcz53_1
        try clear hcz53_2
        try clear hcz53_3
        try clear hcz53_4
        try clear hcz55_0
        try clear hcz55_1
        try clear hcz55_2
        try clear hcz55_3
        try clear hcz55_4
        try clear hcz57_0
        try clear hcz57_1
        try clear hcz57_2
        try clear hcz57_3
        try clear hcz57_4
        try clear hcz59_0
        try clear hcz59_1
        try clear hcz59_2
        try clear hcz59_3
        try clear hcz59_4
        try clear hcz61_0
        try clear hcz61_1
        try clear hcz61_2
        try clear hcz61_3
        try clear hcz61_4
        try clear hcz63_0
        try clear hcz63_1
        try clear hcz63_2
        try clear hcz63_3
        try clear hcz63_4
        try clear hcz65_0
        try clear hcz65_1
        try clear hcz65_2
        try clear hcz65_3
        try clear hcz65_4
        try clear hcz69_0
        try clear hcz69_1
        try clear hcz69_2
        try clear hcz69_3
        try clear hcz69_4
        try clear hcz75_0
        try clear hcz75_1
        try clear hcz75_2
        try clear hcz75_3
        try clear hcz75_4
        try clear hcz76_0
        try clear hcz76_1
        try clear hcz76_2
        try clear hcz76_3
        try clear hcz76_4
        try clear hcz77_0
        try clear hcz77_1
        try clear hcz77_2
        try clear hcz77_3
        try clear hcz77_4
        try clear hcz8_0
        try clear hcz8_1
        try clear hcz8_2
        try clear hcz8_3
        try clear hcz8_4
        try clear hfz12_0
        try clear hfz12_1
        try clear hfz12_2
        try clear hfz12_3
        try clear hfz12_4
        try clear hfz14_0
        try clear hfz14_1
        try clear hfz14_2
        try clear hfz14_3
        try clear hfz14_4
        try clear hfz16_0
        try clear hfz16_1
        try clear hfz16_2
        try clear hfz16_3
        try clear hfz16_4
        try clear hfz18_0
        try clear hfz18_1
        try clear hfz18_2
        try clear hfz18_3
        try clear hfz18_4
        try clear hfz19_0
        try clear hfz19_1
        try clear hfz19_2
        try clear hfz19_3
        try clear hfz19_4
        try clear hfz21_0
        try clear hfz21_1
        try clear hfz21_2
        try clear hfz21_3
        try clear hfz21_4
        try clear hfz22_0
        try clear hfz22_1
        try clear hfz22_2
        try clear hfz22_3
        try clear hfz22_4
        try clear hfz25_0
        try clear hfz25_1
        try clear hfz25_2
        try clear hfz25_3
        try clear hfz25_4
        try clear hfz35_0
        try clear hfz35_1
        try clear hfz35_2
        try clear hfz35_3
        try clear hfz35_4
        try clear hfz36_0
        try clear hfz36_1
        try clear hfz36_2
        try clear hfz36_3
        try clear hfz36_4
        try clear hfz42_0
        try clear hfz42_1
        try clear hfz42_2
        try clear hfz42_3
        try clear hfz42_4
        try clear hfz44_0
        try clear hfz44_1
        try clear hfz44_2
        try clear hfz44_3
        try clear hfz44_4
        try clear hfz48_0
        try clear hfz48_1
        try clear hfz48_2
        try clear hfz48_3
        try clear hfz48_4
        try clear hfz50_0
        try clear hfz50_1
        try clear hfz50_2
        try clear hfz50_3
        try clear hfz50_4
        try clear hfz53_0
        try clear hfz53_1
        try clear hfz53_2
        try clear hfz53_3
        try clear hfz53_4
        try clear hfz55_0
        try clear hfz55_1
        try clear hfz55_2
        try clear hfz55_3
        try clear hfz55_4
        try clear hfz57_0
        try clear hfz57_1
        try clear hfz57_2
        try clear hfz57_3
        try clear hfz57_4
        try clear hfz59_0
        try clear hfz59_1
        try clear hfz59_2
        try clear hfz59_3
        try clear hfz59_4
        try clear hfz61_0
        try clear hfz61_1
        try clear hfz61_2
        try clear hfz61_3
        try clear hfz61_4
        try clear hfz63_0
        try clear hfz63_1
        try clear hfz63_2
        try clear hfz63_3
        try clear hfz63_4
        try clear hfz65_0
        try clear hfz65_1
        try clear hfz65_2
        try clear hfz65_3
        try clear hfz65_4
        try clear hfz69_0
        try clear hfz69_1
        try clear hfz69_2
        try clear hfz69_3
        try clear hfz69_4
        try clear hfz75_0
        try clear hfz75_1
        try clear hfz75_2
        try clear hfz75_3
        try clear hfz75_4
        try clear hfz76_0
        try clear hfz76_1
        try clear hfz76_2
        try clear hfz76_3
        try clear hfz76_4
        try clear hfz77_0
        try clear hfz77_1
        try clear hfz77_2
        try clear hfz77_3
        try clear hfz77_4
        try clear hfz8_0
        try clear hfz8_1
        try clear hfz8_2
        try clear hfz8_3
        try clear hfz8_4
        try clear hx9178_0
        try clear hx9179_0
        try clear p2
        try clear p6
        try clear p64
        try clear p9
        try clear p9178
        try clear p9179
        try clear q9
        try clear q9178
        try clear q9179
        obtain ⟨kq, x109_71, rfl, HA, HJ71, BK9176, HB⟩ := hcut
        cases kq with
        | zero => exact absurd HA.out (by simp [impl_expCount.j3])
        | succ kj71 =>
         have H := HA.out
         clear HA
         simp only [impl_expCount.j3] at H
         by_cases c78 : x109_71 = true
         ·subst c78
          have H1 : (some (-1)) = some r := by rw [if_pos rfl] at H; exact H
          clear H
          have H := H1
          clear H1
          obtain rfl := Option.some.inj H
          go_wp2
          go_ret
          exact ⟨by first | rfl | (simp [errW_none, errW_some] <;> rfl) | (simp [*, errW_none, errW_some] <;> rfl), by repeat (first | (with_reducible first | exact HB.out | apply zB | apply zC | apply zE | refine below_set ?_ GE9176.out) | exact HB.out)⟩
         ·replace c78 := Bool.eq_false_iff.mpr c78
          subst c78
          have H1 : (if a0_0 = 4 then (if (l0_4.length : Int) < 2 then (some (-1)) else (if 0 ≤ (wrap64 ((l0_4.length : Int) - 1)) then (if (wrap64 ((l0_4.length : Int) - 1)) < (l0_4.length : Int) then (if ((rd_T35 l0_4 (wrap64 ((l0_4.length : Int) - 1))).f0) = 1 then (impl_expCount.j4 kj71 a1 1 a0_0 a0_1 l0_2 a0_3 l0_4) else (if ((rd_T35 l0_4 (wrap64 ((l0_4.length : Int) - 1))).f0) = 2 then (impl_expCount.j4 kj71 a1 1 a0_0 a0_1 l0_2 a0_3 l0_4) else (some (-1)))) else (none)) else (none))) else (impl_expCount.j4 kj71 a1 1 a0_0 a0_1 l0_2 a0_3 l0_4)) = some r := by rw [if_neg (show ¬ (false = true) by decide)] at H; exact H
          clear H
          have H := H1
          clear H1
          have HC79 := Aq H
          clear H
          have hcz80_0 : wc.cell? ⟨gb9176, 0, none⟩ = some (.int .i64 a0_0) := (blk_cell BK9176.out 0).trans rfl
          have hcz80_1 : wc.cell? ⟨gb9176, 1, none⟩ = some (.string a0_1) := (blk_cell BK9176.out 1).trans rfl
          have hcz80_2 : wc.cell? ⟨gb9176, 2, none⟩ = some (.slice A0_2 l0_2.length c0_2) := (blk_cell BK9176.out 2).trans rfl
          have hcz80_3 : wc.cell? ⟨gb9176, 3, none⟩ = some (.int .i64 a0_3) := (blk_cell BK9176.out 3).trans rfl
          have hcz80_4 : wc.cell? ⟨gb9176, 4, none⟩ = some (.slice A0_4 l0_4.length c0_4) := (blk_cell BK9176.out 4).trans rfl
          have hfz80_0 := blk_frozen BK9176.out 0
          have hfz80_1 := blk_frozen BK9176.out 1
          have hfz80_2 := blk_frozen BK9176.out 2
          have hfz80_3 := blk_frozen BK9176.out 3
          have hfz80_4 := blk_frozen BK9176.out 4
          go_upto_if 112 with (fail)
          go_cut [] (fun wc => ∃ (kq : Nat), Aside0 (impl_expCount.j4 kq a1 1 a0_0 a0_1 l0_2 a0_3 l0_4 = some r) ∧ Aside0 (kq ≤ kj71) ∧ Aside0 (wc.heap[gb9176]? = some (.cells #[.int .i64 a0_0, .string a0_1, (.slice A0_2 l0_2.length c0_2), .int .i64 a0_3, (.slice A0_4 l0_4.length c0_4)] 35 (0, 0))) ∧ Aside0 (Below w.heap.size w wc))
          case first =>
           have H := HC79.out
           clear HC79
           by_cases c81 : a0_0 = 4
           ·rw [if_pos c81] at H
            have c81b0 : (a0_0 == 4) = true := beq_iff_eq.mpr c81
            have c81b1 : (a0_0 != 4) = false := bne_eq_false_iff_eq.mpr c81
            clear c81
            (first | rw [c81b0] | (simp only [i64_w, i32_w]; rw [c81b0]) | skip)
            by_cases c82 : (l0_4.length : Int) < 2
            ·rw [if_pos c82] at H
             have c82b0 : decide ((l0_4.length : Int) < 2) = true := decide_eq_true c82
             have c82b1 : decide (l0_4.length < 2) = true := decide_eq_true (by omega)
             clear c82
             obtain rfl := Option.some.inj H
             have hcz83_0 : wc.cell? ⟨gb9176, 0, none⟩ = some (.int .i64 a0_0) := (blk_cell BK9176.out 0).trans rfl
             have hcz83_1 : wc.cell? ⟨gb9176, 1, none⟩ = some (.string a0_1) := (blk_cell BK9176.out 1).trans rfl
             have hcz83_2 : wc.cell? ⟨gb9176, 2, none⟩ = some (.slice A0_2 l0_2.length c0_2) := (blk_cell BK9176.out 2).trans rfl
             have hcz83_3 : wc.cell? ⟨gb9176, 3, none⟩ = some (.int .i64 a0_3) := (blk_cell BK9176.out 3).trans rfl
             have hcz83_4 : wc.cell? ⟨gb9176, 4, none⟩ = some (.slice A0_4 l0_4.length c0_4) := (blk_cell BK9176.out 4).trans rfl
             have hfz83_0 := blk_frozen BK9176.out 0
             have hfz83_1 := blk_frozen BK9176.out 1
             have hfz83_2 := blk_frozen BK9176.out 2
             have hfz83_3 := blk_frozen BK9176.out 3
             have hfz83_4 := blk_frozen BK9176.out 4
             go_wp2
             go_ret
             exact ⟨by first | rfl | (simp [errW_none, errW_some] <;> rfl) | (simp [*, errW_none, errW_some] <;> rfl), by repeat (first | (with_reducible first | exact HB.out | apply zB | apply zC | apply zE | refine below_set ?_ GE9176.out) | exact HB.out)⟩
            ·rw [if_neg c82] at H
             have c82b0 : decide ((l0_4.length : Int) < 2) = false := decide_eq_false c82
             have c82b1 : decide (l0_4.length < 2) = false := decide_eq_false (by omega)
             clear c82
             obtain ⟨ji84, hji84⟩ : ∃ j_ : Int, (wrap64 ((l0_4.length : Int) - 1)) = j_ := ⟨_, rfl⟩
             replace H : (if 0 ≤ (ji84) then (if (ji84) < (l0_4.length : Int) then (if ((rd_T35 l0_4 (ji84)).f0) = 1 then (impl_expCount.j4 kj71 a1 1 a0_0 a0_1 l0_2 a0_3 l0_4) else (if ((rd_T35 l0_4 (ji84)).f0) = 2 then (impl_expCount.j4 kj71 a1 1 a0_0 a0_1 l0_2 a0_3 l0_4) else (some (-1)))) else (none)) else (none)) = some r := by first | (rw [hji84] at H; exact H) | (simp only [hji84] at H ⊢; exact H)
             have hji84w : (IntKind.i64.wrap ((l0_4.length : Int) - 1)) = ji84 := (i64_w _).trans hji84
             by_cases c85 : 0 ≤ (ji84)
             ·rw [if_pos c85] at H
              have c85b0 : decide (0 ≤ (ji84)) = true := decide_eq_true c85
              clear c85
              by_cases c86 : (ji84) < (l0_4.length : Int)
              ·rw [if_pos c86] at H
               have c86b0 : decide ((ji84) < (l0_4.length : Int)) = true := decide_eq_true c86
               clear c86
               by_cases c87 : ((rd_T35 l0_4 (ji84)).f0) = 1
               ·rw [if_pos c87] at H
                have c87b0 : (((rd_T35 l0_4 (ji84)).f0) == 1) = true := beq_iff_eq.mpr c87
                have c87b1 : (((rd_T35 l0_4 (ji84)).f0) != 1) = false := bne_eq_false_iff_eq.mpr c87
                clear c87
                have H' := Aq H
                clear H
                have hcz88_0 : wc.cell? ⟨gb9176, 0, none⟩ = some (.int .i64 a0_0) := (blk_cell BK9176.out 0).trans rfl
                have hcz88_1 : wc.cell? ⟨gb9176, 1, none⟩ = some (.string a0_1) := (blk_cell BK9176.out 1).trans rfl
                have hcz88_2 : wc.cell? ⟨gb9176, 2, none⟩ = some (.slice A0_2 l0_2.length c0_2) := (blk_cell BK9176.out 2).trans rfl
                have hcz88_3 : wc.cell? ⟨gb9176, 3, none⟩ = some (.int .i64 a0_3) := (blk_cell BK9176.out 3).trans rfl
                have hcz88_4 : wc.cell? ⟨gb9176, 4, none⟩ = some (.slice A0_4 l0_4.length c0_4) := (blk_cell BK9176.out 4).trans rfl
                have hfz88_0 := blk_frozen BK9176.out 0
                have hfz88_1 := blk_frozen BK9176.out 1
                have hfz88_2 := blk_frozen BK9176.out 2
                have hfz88_3 := blk_frozen BK9176.out 3
                have hfz88_4 := blk_frozen BK9176.out 4
                have p9181 : 0 ≤ ((ji84) : Int) := of_decide_eq_true (by first | (with_reducible assumption) | assumption)
                have q9181 : (ji84) < (l0_4.length : Int) := of_decide_eq_true (by first | (with_reducible assumption) | assumption)
                obtain ⟨ad9181, A9181_2, c9181_2, A9181_4, c9181_4, e9181, hx9181_0, hx9181_1, hx9181_2, hx9181_3, hx9181_4, hl9181_2, hi9181_2, hl9181_4, hi9181_4⟩ := at_T35 HR0_4.out (ji84) p9181 q9181
                cases e9181
                replace hx9181_0 := (HB.out.cell (World.block_lt_of_cell? w _ hx9181_0)).trans hx9181_0
                replace hx9181_1 := (HB.out.cell (World.block_lt_of_cell? w _ hx9181_1)).trans hx9181_1
                replace hx9181_2 := (HB.out.cell (World.block_lt_of_cell? w _ hx9181_2)).trans hx9181_2
                replace hx9181_3 := (HB.out.cell (World.block_lt_of_cell? w _ hx9181_3)).trans hx9181_3
                replace hx9181_4 := (HB.out.cell (World.block_lt_of_cell? w _ hx9181_4)).trans hx9181_4
                have HR9181_2 := Aq hi9181_2
                have HC9181_2 := Aq hl9181_2
                clear hi9181_2 hl9181_2
                have HR9181_4 := Aq hi9181_4
                have HC9181_4 := Aq hl9181_4
                clear hi9181_4 hl9181_4
                replace p9181 := eq_true p9181
                replace q9181 := eq_true q9181
                go_wp2
                go_meet
                case rel => exact ⟨_, H', ⟨by have := HJ66.out; have := HJ71.out; first | omega | exact Nat.le_refl _⟩, ⟨by (with_reducible repeat (first | refine zN ?_ _ | refine zD ?_ | refine zA ?_ _)); exact BK9176.out⟩, ⟨by repeat (first | (with_reducible first | exact HB.out | apply zB | apply zC | apply zE | refine below_set ?_ GE9176.out) | exact HB.out)⟩⟩
               ·rw [if_neg c87] at H
                have c87b0 : (((rd_T35 l0_4 (ji84)).f0) == 1) = false := beq_eq_false_iff_ne.mpr c87
                have c87b1 : (((rd_T35 l0_4 (ji84)).f0) != 1) = true := bne_iff_ne.mpr c87
                by_cases c89 : ((rd_T35 l0_4 (ji84)).f0) = 2
                ·rw [if_pos c89] at H
                 have c89b0 : (((rd_T35 l0_4 (ji84)).f0) == 2) = true := beq_iff_eq.mpr c89
                 have c89b1 : (((rd_T35 l0_4 (ji84)).f0) != 2) = false := bne_eq_false_iff_eq.mpr c89
                 clear c89
                 have H' := Aq H
                 clear H
                 have hcz90_0 : wc.cell? ⟨gb9176, 0, none⟩ = some (.int .i64 a0_0) := (blk_cell BK9176.out 0).trans rfl
                 have hcz90_1 : wc.cell? ⟨gb9176, 1, none⟩ = some (.string a0_1) := (blk_cell BK9176.out 1).trans rfl
                 have hcz90_2 : wc.cell? ⟨gb9176, 2, none⟩ = some (.slice A0_2 l0_2.length c0_2) := (blk_cell BK9176.out 2).trans rfl
                 have hcz90_3 : wc.cell? ⟨gb9176, 3, none⟩ = some (.int .i64 a0_3) := (blk_cell BK9176.out 3).trans rfl
                 have hcz90_4 : wc.cell? ⟨gb9176, 4, none⟩ = some (.slice A0_4 l0_4.length c0_4) := (blk_cell BK9176.out 4).trans rfl
                 have hfz90_0 := blk_frozen BK9176.out 0
                 have hfz90_1 := blk_frozen BK9176.out 1
                 have hfz90_2 := blk_frozen BK9176.out 2
                 have hfz90_3 := blk_frozen BK9176.out 3
                 have hfz90_4 := blk_frozen BK9176.out 4
                 have p9181 : 0 ≤ ((ji84) : Int) := of_decide_eq_true (by first | (with_reducible assumption) | assumption)
                 have q9181 : (ji84) < (l0_4.length : Int) := of_decide_eq_true (by first | (with_reducible assumption) | assumption)
                 obtain ⟨ad9181, A9181_2, c9181_2, A9181_4, c9181_4, e9181, hx9181_0, hx9181_1, hx9181_2, hx9181_3, hx9181_4, hl9181_2, hi9181_2, hl9181_4, hi9181_4⟩ := at_T35 HR0_4.out (ji84) p9181 q9181
                 cases e9181
                 replace hx9181_0 := (HB.out.cell (World.block_lt_of_cell? w _ hx9181_0)).trans hx9181_0
                 replace hx9181_1 := (HB.out.cell (World.block_lt_of_cell? w _ hx9181_1)).trans hx9181_1
                 replace hx9181_2 := (HB.out.cell (World.block_lt_of_cell? w _ hx9181_2)).trans hx9181_2
                 replace hx9181_3 := (HB.out.cell (World.block_lt_of_cell? w _ hx9181_3)).trans hx9181_3
                 replace hx9181_4 := (HB.out.cell (World.block_lt_of_cell? w _ hx9181_4)).trans hx9181_4
                 have HR9181_2 := Aq hi9181_2
                 have HC9181_2 := Aq hl9181_2
                 clear hi9181_2 hl9181_2
                 have HR9181_4 := Aq hi9181_4
                 have HC9181_4 := Aq hl9181_4
                 clear hi9181_4 hl9181_4
                 replace p9181 := eq_true p9181
                 replace q9181 := eq_true q9181
                 have p9182 : 0 ≤ ((ji84) : Int) := of_decide_eq_true (by first | (with_reducible assumption) | assumption)
                 have q9182 : (ji84) < (l0_4.length : Int) := of_decide_eq_true (by first | (with_reducible assumption) | assumption)
                 obtain ⟨ad9182, A9182_2, c9182_2, A9182_4, c9182_4, e9182, hx9182_0, hx9182_1, hx9182_2, hx9182_3, hx9182_4, hl9182_2, hi9182_2, hl9182_4, hi9182_4⟩ := at_T35 HR0_4.out (ji84) p9182 q9182
                 obtain rfl : ad9181 = ad9182 := (by injection e9182)
                 replace hx9182_0 := (HB.out.cell (World.block_lt_of_cell? w _ hx9182_0)).trans hx9182_0
                 replace hx9182_1 := (HB.out.cell (World.block_lt_of_cell? w _ hx9182_1)).trans hx9182_1
                 replace hx9182_2 := (HB.out.cell (World.block_lt_of_cell? w _ hx9182_2)).trans hx9182_2
                 replace hx9182_3 := (HB.out.cell (World.block_lt_of_cell? w _ hx9182_3)).trans hx9182_3
                 replace hx9182_4 := (HB.out.cell (World.block_lt_of_cell? w _ hx9182_4)).trans hx9182_4
                 have HR9182_2 := Aq hi9182_2
                 have HC9182_2 := Aq hl9182_2
                 clear hi9182_2 hl9182_2
                 have HR9182_4 := Aq hi9182_4
                 have HC9182_4 := Aq hl9182_4
                 clear hi9182_4 hl9182_4
                 replace p9182 := eq_true p9182
                 replace q9182 := eq_true q9182
                 have ea_ := Option.some.inj (hx9181_2.symm.trans hx9182_2)
                 injection ea_ with ea_ en_ ec_
                 subst ea_
                 subst ec_
                 clear en_
                 have ea_ := Option.some.inj (hx9181_4.symm.trans hx9182_4)
                 injection ea_ with ea_ en_ ec_
                 subst ea_
                 subst ec_
                 clear en_
                 go_wp2
                 go_meet
                 case rel => exact ⟨_, H', ⟨by have := HJ66.out; have := HJ71.out; first | omega | exact Nat.le_refl _⟩, ⟨by (with_reducible repeat (first | refine zN ?_ _ | refine zD ?_ | refine zA ?_ _)); exact BK9176.out⟩, ⟨by repeat (first | (with_reducible first | exact HB.out | apply zB | apply zC | apply zE | refine below_set ?_ GE9176.out) | exact HB.out)⟩⟩
                ·rw [if_neg c89] at H
                 have c89b0 : (((rd_T35 l0_4 (ji84)).f0) == 2) = false := beq_eq_false_iff_ne.mpr c89
                 have c89b1 : (((rd_T35 l0_4 (ji84)).f0) != 2) = true := bne_iff_ne.mpr c89
                 obtain rfl := Option.some.inj H
                 have hcz91_0 : wc.cell? ⟨gb9176, 0, none⟩ = some (.int .i64 a0_0) := (blk_cell BK9176.out 0).trans rfl
                 have hcz91_1 : wc.cell? ⟨gb9176, 1, none⟩ = some (.string a0_1) := (blk_cell BK9176.out 1).trans rfl
                 have hcz91_2 : wc.cell? ⟨gb9176, 2, none⟩ = some (.slice A0_2 l0_2.length c0_2) := (blk_cell BK9176.out 2).trans rfl
                 have hcz91_3 : wc.cell? ⟨gb9176, 3, none⟩ = some (.int .i64 a0_3) := (blk_cell BK9176.out 3).trans rfl
                 have hcz91_4 : wc.cell? ⟨gb9176, 4, none⟩ = some (.slice A0_4 l0_4.length c0_4) := (blk_cell BK9176.out 4).trans rfl
                 have hfz91_0 := blk_frozen BK9176.out 0
                 have hfz91_1 := blk_frozen BK9176.out 1
                 have hfz91_2 := blk_frozen BK9176.out 2
                 have hfz91_3 := blk_frozen BK9176.out 3
                 have hfz91_4 := blk_frozen BK9176.out 4
                 have p9181 : 0 ≤ ((ji84) : Int) := of_decide_eq_true (by first | (with_reducible assumption) | assumption)
                 have q9181 : (ji84) < (l0_4.length : Int) := of_decide_eq_true (by first | (with_reducible assumption) | assumption)
                 obtain ⟨ad9181, A9181_2, c9181_2, A9181_4, c9181_4, e9181, hx9181_0, hx9181_1, hx9181_2, hx9181_3, hx9181_4, hl9181_2, hi9181_2, hl9181_4, hi9181_4⟩ := at_T35 HR0_4.out (ji84) p9181 q9181
                 cases e9181
                 replace hx9181_0 := (HB.out.cell (World.block_lt_of_cell? w _ hx9181_0)).trans hx9181_0
                 replace hx9181_1 := (HB.out.cell (World.block_lt_of_cell? w _ hx9181_1)).trans hx9181_1
                 replace hx9181_2 := (HB.out.cell (World.block_lt_of_cell? w _ hx9181_2)).trans hx9181_2
                 replace hx9181_3 := (HB.out.cell (World.block_lt_of_cell? w _ hx9181_3)).trans hx9181_3
                 replace hx9181_4 := (HB.out.cell (World.block_lt_of_cell? w _ hx9181_4)).trans hx9181_4
                 have HR9181_2 := Aq hi9181_2
                 have HC9181_2 := Aq hl9181_2
                 clear hi9181_2 hl9181_2
                 have HR9181_4 := Aq hi9181_4
                 have HC9181_4 := Aq hl9181_4
                 clear hi9181_4 hl9181_4
                 replace p9181 := eq_true p9181
                 replace q9181 := eq_true q9181
                 have p9182 : 0 ≤ ((ji84) : Int) := of_decide_eq_true (by first | (with_reducible assumption) | assumption)
                 have q9182 : (ji84) < (l0_4.length : Int) := of_decide_eq_true (by first | (with_reducible assumption) | assumption)
                 obtain ⟨ad9182, A9182_2, c9182_2, A9182_4, c9182_4, e9182, hx9182_0, hx9182_1, hx9182_2, hx9182_3, hx9182_4, hl9182_2, hi9182_2, hl9182_4, hi9182_4⟩ := at_T35 HR0_4.out (ji84) p9182 q9182
                 obtain rfl : ad9181 = ad9182 := (by injection e9182)
                 replace hx9182_0 := (HB.out.cell (World.block_lt_of_cell? w _ hx9182_0)).trans hx9182_0
                 replace hx9182_1 := (HB.out.cell (World.block_lt_of_cell? w _ hx9182_1)).trans hx9182_1
                 replace hx9182_2 := (HB.out.cell (World.block_lt_of_cell? w _ hx9182_2)).trans hx9182_2
                 replace hx9182_3 := (HB.out.cell (World.block_lt_of_cell? w _ hx9182_3)).trans hx9182_3
                 replace hx9182_4 := (HB.out.cell (World.block_lt_of_cell? w _ hx9182_4)).trans hx9182_4
                 have HR9182_2 := Aq hi9182_2
                 have HC9182_2 := Aq hl9182_2
                 clear hi9182_2 hl9182_2
                 have HR9182_4 := Aq hi9182_4
                 have HC9182_4 := Aq hl9182_4
                 clear hi9182_4 hl9182_4
                 replace p9182 := eq_true p9182
                 replace q9182 := eq_true q9182
                 have ea_ := Option.some.inj (hx9181_2.symm.trans hx9182_2)
                 injection ea_ with ea_ en_ ec_
                 subst ea_
                 subst ec_
                 clear en_
                 have ea_ := Option.some.inj (hx9181_4.symm.trans hx9182_4)
                 injection ea_ with ea_ en_ ec_
                 subst ea_
                 subst ec_
                 clear en_
                 go_wp2
                 go_ret
                 exact ⟨by first | rfl | (simp [errW_none, errW_some] <;> rfl) | (simp only [← hji84]; first | rfl | (simp [errW_none, errW_some] <;> rfl)) | (simp [*, errW_none, errW_some] <;> rfl), by repeat (first | (with_reducible first | exact HB.out | apply zB | apply zC | apply zE | refine below_set ?_ GE9176.out) | exact HB.out)⟩
              ·rw [if_neg c86] at H
               exact absurd H (by simp)
             ·rw [if_neg c85] at H
              exact absurd H (by simp)
           ·rw [if_neg c81] at H
            have c81b0 : (a0_0 == 4) = false := beq_eq_false_iff_ne.mpr c81
            have c81b1 : (a0_0 != 4) = true := bne_iff_ne.mpr c81
            (first | rw [c81b0] | (simp only [i64_w, i32_w]; rw [c81b0]) | skip)
            have H' := Aq H
            clear H
            go_wp2
            go_meet
            case rel => exact ⟨_, H', ⟨by have := HJ66.out; have := HJ71.out; first | omega | exact Nat.le_refl _⟩, ⟨by (with_reducible repeat (first | refine zN ?_ _ | refine zD ?_ | refine zA ?_ _)); exact BK9176.out⟩, ⟨by repeat (first | (with_reducible first | exact HB.out | apply zB | apply zC | apply zE | refine below_set ?_ GE9176.out) | exact HB.out)⟩⟩
          case rest =>
           clear HC79
           try clear c1
           try clear c2
           try clear p2
           try clear c3
           try clear c3b0
           try clear c4
           try clear c5
           try clear c5b0
           try clear c5b1
           try clear p6
           try clear c7
           try clear c8
           try clear c9
           try clear p9
           try clear q9
           try clear hx9
           try clear c10
           try clear c11
           try clear c11b0
           try clear c11b1
           try clear c15
           try clear c15b0
           try clear c24
           try clear c26
           try clear c26b0
           try clear c27
           try clear c27b0
           try clear c28
           try clear c28b0
           try clear c29
           try clear c29b0
           try clear c30
           try clear c30b0
           try clear c32
           try clear c32b0
           try clear c33
           try clear c33b0
           try clear c34
           try clear c34b0
           try clear c37
           try clear c37b0
           try clear c37b1
           try clear c39
           try clear c40
           try clear c40b0
           try clear c40b1
           try clear c45
           try clear c45b0
           try clear c45b1
           try clear c46
           try clear c46b0
           try clear c46b1
           try clear c51
           try clear c51b0
           try clear c51b1
           try clear c57
           try clear c58
           try clear p64
           try clear c70
           try clear c70b0
           try clear c70b1
           try clear c71
           try clear c73
           try clear c73b0
           try clear c73b1
           try clear c74
           try clear c74b0
           try clear c74b1
           try clear c78
           try clear c81
           try clear c81b0
           try clear c81b1
           try clear c82
           try clear c82b0
           try clear c82b1
           try clear c85
           try clear c85b0
           try clear c86
           try clear c86b0
           try clear c87
           try clear c87b0
           try clear c87b1
           try clear c89
           try clear c89b0
           try clear c89b1
           try clear c91
           try clear p91
           try clear q91
           try clear hx91
           try clear hcz12_0
           try clear hcz12_1
           try clear hcz12_2
           try clear hcz12_3
           try clear hcz12_4
           try clear hcz14_0
           try clear hcz14_1
           try clear hcz14_2
           try clear hcz14_3
           try clear hcz14_4
           try clear hcz16_0
           try clear hcz16_1
           try clear hcz16_2
           try clear hcz16_3
           try clear hcz16_4
           try clear hcz18_0
           try clear hcz18_1
           try clear hcz18_2
           try clear hcz18_3
           try clear hcz18_4
           try clear hcz19_0
           try clear hcz19_1
           try clear hcz19_2
           try clear hcz19_3
           try clear hcz19_4
           try clear hcz21_0
           try clear hcz21_1
           try clear hcz21_2
           try clear hcz21_3
           try clear hcz21_4
           try clear hcz22_0
           try clear hcz22_1
           try clear hcz22_2
           try clear hcz22_3
           try clear hcz22_4
           try clear hcz25_0
           try clear hcz25_1
           try clear hcz25_2
           try clear hcz25_3
           try clear hcz25_4
           try clear hcz35_0
           try clear hcz35_1
           try clear hcz35_2
           try clear hcz35_3
           try clear hcz35_4
           try clear hcz36_0
           try clear hcz36_1
           try clear hcz36_2
           try clear hcz36_3
           try clear hcz36_4
           try clear hcz42_0
           try clear hcz42_1
           try clear hcz42_2
           try clear hcz42_3
           try clear hcz42_4
           try clear hcz44_0
           try clear hcz44_1
           try clear hcz44_2
           try clear hcz44_3
           try clear hcz44_4
           try clear hcz48_0
           try clear hcz48_1
           try clear hcz48_2
           try clear hcz48_3
           try clear hcz48_4
           try clear hcz50_0
           try clear hcz50_1
           try clear hcz50_2
           try clear hcz50_3
           try clear hcz50_4
           try clear hcz53_0
           try clear hcz53_1
           try clear hcz53_2
           try clear hcz53_3
           try clear hcz53_4
           try clear hcz55_0
           try clear hcz55_1
           try clear hcz55_2
           try clear hcz55_3
           try clear hcz55_4
           try clear hcz57_0
           try clear hcz57_1
           try clear hcz57_2
           try clear hcz57_3
           try clear hcz57_4
           try clear hcz59_0
           try clear hcz59_1
           try clear hcz59_2
           try clear hcz59_3
           try clear hcz59_4
           try clear hcz61_0
           try clear hcz61_1
           try clear hcz61_2
           try clear hcz61_3
           try clear hcz61_4
           try clear hcz63_0
           try clear hcz63_1
           try clear hcz63_2
           try clear hcz63_3
           try clear hcz63_4
           try clear hcz65_0
           try clear hcz65_1
           try clear hcz65_2
           try clear hcz65_3
           try clear hcz65_4
           try clear hcz69_0
           try clear hcz69_1
           try clear hcz69_2
           try clear hcz69_3
           try clear hcz69_4
           try clear hcz75_0
           try clear hcz75_1
           try clear hcz75_2
           try clear hcz75_3
           try clear hcz75_4
           try clear hcz76_0
           try clear hcz76_1
           try clear hcz76_2
           try clear hcz76_3
           try clear hcz76_4
           try clear hcz77_0
           try clear hcz77_1
           try clear hcz77_2
           try clear hcz77_3
           try clear hcz77_4
           try clear hcz80_0
           try clear hcz80_1
           try clear hcz80_2
           try clear hcz80_3
           try clear hcz80_4
           try clear hcz83_0
           try clear hcz83_1
           try clear hcz83_2
           try clear hcz83_3
           try clear hcz83_4
           try clear hcz88_0
           try clear hcz88_1
           try clear hcz88_2
           try clear hcz88_3
           try clear hcz88_4
           try clear hcz8_0
           try clear hcz8_1
           try clear hcz8_2
           try clear hcz8_3
           try clear hcz8_4
           try clear hcz90_0
           try clear hcz90_1
           try clear hcz90_2
           try clear hcz90_3
           try clear hcz90_4
           try clear hcz91_0
           try clear hcz91_1
           try clear hcz91_2
           try clear hcz91_3
           try clear hcz91_4
           try clear hfz12_0
           try clear hfz12_1
           try clear hfz12_2
           try clear hfz12_3
           try clear hfz12_4
           try clear hfz14_0
           try clear hfz14_1
           try clear hfz14_2
           try clear hfz14_3
           try clear hfz14_4
           try clear hfz16_0
           try clear hfz16_1
           try clear hfz16_2
           try clear hfz16_3
           try clear hfz16_4
           try clear hfz18_0
           try clear hfz18_1
           try clear hfz18_2
           try clear hfz18_3
           try clear hfz18_4
           try clear hfz19_0
           try clear hfz19_1
           try clear hfz19_2
           try clear hfz19_3
           try clear hfz19_4
           try clear hfz21_0
           try clear hfz21_1
           try clear hfz21_2
           try clear hfz21_3
           try clear hfz21_4
           try clear hfz22_0
           try clear hfz22_1
           try clear hfz22_2
           try clear hfz22_3
           try clear hfz22_4
           try clear hfz25_0
           try clear hfz25_1
           try clear hfz25_2
           try clear hfz25_3
           try clear hfz25_4
           try clear hfz35_0
           try clear hfz35_1
           try clear hfz35_2
           try clear hfz35_3
           try clear hfz35_4
           try clear hfz36_0
           try clear hfz36_1
           try clear hfz36_2
           try clear hfz36_3
           try clear hfz36_4
           try clear hfz42_0
           try clear hfz42_1
           try clear hfz42_2
           try clear hfz42_3
           try clear hfz42_4
           try clear hfz44_0
           try clear hfz44_1
           try clear hfz44_2
           try clear hfz44_3
           try clear hfz44_4
           try clear hfz48_0
           try clear hfz48_1
           try clear hfz48_2
           try clear hfz48_3
           try clear hfz48_4
           try clear hfz50_0
           try clear hfz50_1
           try clear hfz50_2
           try clear hfz50_3
           try clear hfz50_4
           try clear hfz53_0
           try clear hfz53_1
           try clear hfz53_2
           try clear hfz53_3
           try clear hfz53_4
           try clear hfz55_0
           try clear hfz55_1
           try clear hfz55_2
           try clear hfz55_3
           try clear hfz55_4
           try clear hfz57_0
           try clear hfz57_1
           try clear hfz57_2
           try clear hfz57_3
           try clear hfz57_4
           try clear hfz59_0
           try clear hfz59_1
           try clear hfz59_2
           try clear hfz59_3
           try clear hfz59_4
           try clear hfz61_0
           try clear hfz61_1
           try clear hfz61_2
           try clear hfz61_3
           try clear hfz61_4
           try clear hfz63_0
           try clear hfz63_1
           try clear hfz63_2
           try clear hfz63_3
           try clear hfz63_4
           try clear hfz65_0
           try clear hfz65_1
           try clear hfz65_2
           try clear hfz65_3
           try clear hfz65_4
           try clear hfz69_0
           try clear hfz69_1
           try clear hfz69_2
           try clear hfz69_3
           try clear hfz69_4
           try clear hfz75_0
           try clear hfz75_1
           try clear hfz75_2
           try clear hfz75_3
           try clear hfz75_4
           try clear hfz76_0
           try clear hfz76_1
           try clear hfz76_2
           try clear hfz76_3
           try clear hfz76_4
           try clear hfz77_0
           try clear hfz77_1
           try clear hfz77_2
           try clear hfz77_3
           try clear hfz77_4
           try clear hfz80_0
           try clear hfz80_1
           try clear hfz80_2
           try clear hfz80_3
           try clear hfz80_4
           try clear hfz83_0
           try clear hfz83_1
           try clear hfz83_2
           try clear hfz83_3
           try clear hfz83_4
           try clear hfz88_0
           try clear hfz88_1
           try clear hfz88_2
           try clear hfz88_3
           try clear hfz88_4
           try clear hfz8_0
           try clear hfz8_1
           try clear hfz8_2
           try clear hfz8_3
           try clear hfz8_4
           try clear hfz90_0
           try clear hfz90_1
           try clear hfz90_2
           try clear hfz90_3
           try clear hfz90_4
           try clear hfz91_0
           try clear hfz91_1
           try clear hfz91_2
           try clear hfz91_3
           try clear hfz91_4
           try clear hx9178_0
           try clear hx9179_0
           try clear hx9181_0
           try clear hx9181_1
           try clear hx9181_2
           try clear hx9181_3
           try clear hx9181_4
           try clear hx9182_0
           try clear hx9182_1
           try clear hx9182_2
           try clear hx9182_3
           try clear hx9182_4
           try clear p2
           try clear p6
           try clear p64
           try clear p9
           try clear p9178
           try clear p9179
           try clear p9181
           try clear p9182
           try clear q9
           try clear q9178
           try clear q9179
           try clear q9181
           try clear q9182
           obtain ⟨kq, HA, HJ78, BK9176, HB⟩ := hcut
           cases kq with
           | zero => exact absurd HA.out (by simp [impl_expCount.j4])
           | succ kj78 =>
            have H := HA.out
            clear HA
            simp only [impl_expCount.j4] at H
            have H' := Aq H
            clear H
            have hcz92_0 : wc.cell? ⟨gb9176, 0, none⟩ = some (.int .i64 a0_0) := (blk_cell BK9176.out 0).trans rfl
            have hcz92_1 : wc.cell? ⟨gb9176, 1, none⟩ = some (.string a0_1) := (blk_cell BK9176.out 1).trans rfl
            have hcz92_2 : wc.cell? ⟨gb9176, 2, none⟩ = some (.slice A0_2 l0_2.length c0_2) := (blk_cell BK9176.out 2).trans rfl
            have hcz92_3 : wc.cell? ⟨gb9176, 3, none⟩ = some (.int .i64 a0_3) := (blk_cell BK9176.out 3).trans rfl
            have hcz92_4 : wc.cell? ⟨gb9176, 4, none⟩ = some (.slice A0_4 l0_4.length c0_4) := (blk_cell BK9176.out 4).trans rfl
            have hfz92_0 := blk_frozen BK9176.out 0
            have hfz92_1 := blk_frozen BK9176.out 1
            have hfz92_2 := blk_frozen BK9176.out 2
            have hfz92_3 := blk_frozen BK9176.out 3
            have hfz92_4 := blk_frozen BK9176.out 4
            go_wp2
            go_loopg [5, 141] kj78 (fun kq v5 v141 w' => ∃ (x5_4 : Int) (x141_4 : Int), v5 = .int .i64 x5_4 ∧ v141 = .int .i64 x141_4 ∧ Aside0 (impl_expCount.l1 kq a1 x5_4 l0_4 (l0_4.length : Int) x141_4 = some r) ∧ Aside0 (kq ≤ kj78) ∧ Aside0 (w'.heap[gb9176]? = some (.cells #[.int .i64 a0_0, .string a0_1, (.slice A0_2 l0_2.length c0_2), .int .i64 a0_3, (.slice A0_4 l0_4.length c0_4)] 35 (0, 0))) ∧ Aside0 (Below w.heap.size w w'))
            case atStart => exact ⟨(1), (0), (by first | rfl | (simp; done) | (simp [*]; done)), (by first | rfl | (simp; done) | (simp [*]; done)), H', ⟨Nat.le_refl _⟩, ⟨by (with_reducible repeat (first | refine zN ?_ _ | refine zD ?_ | refine zA ?_ _)); exact BK9176.out⟩, ⟨by repeat (first | (with_reducible first | exact HB.out | apply zB | apply zC | apply zE | refine below_set ?_ GE9176.out) | exact HB.out)⟩⟩
            case round =>
             clear H'
             try clear c1
             try clear c2
             try clear p2
             try clear c3
             try clear c3b0
             try clear c4
             try clear c5
             try clear c5b0
             try clear c5b1
             try clear p6
             try clear c7
             try clear c8
             try clear c9
             try clear p9
             try clear q9
             try clear hx9
             try clear c10
             try clear c11
             try clear c11b0
             try clear c11b1
             try clear c15
             try clear c15b0
             try clear c24
             try clear c26
             try clear c26b0
             try clear c27
             try clear c27b0
             try clear c28
             try clear c28b0
             try clear c29
             try clear c29b0
             try clear c30
             try clear c30b0
             try clear c32
             try clear c32b0
             try clear c33
             try clear c33b0
             try clear c34
             try clear c34b0
             try clear c37
             try clear c37b0
             try clear c37b1
             try clear c39
             try clear c40
             try clear c40b0
             try clear c40b1
             try clear c45
             try clear c45b0
             try clear c45b1
             try clear c46
             try clear c46b0
             try clear c46b1
             try clear c51
             try clear c51b0
             try clear c51b1
             try clear c57
             try clear c58
             try clear p64
             try clear c70
             try clear c70b0
             try clear c70b1
             try clear c71
             try clear c73
             try clear c73b0
             try clear c73b1
             try clear c74
             try clear c74b0
             try clear c74b1
             try clear c78
             try clear c81
             try clear c81b0
             try clear c81b1
             try clear c82
             try clear c82b0
             try clear c82b1
             try clear c85
             try clear c85b0
             try clear c86
             try clear c86b0
             try clear c87
             try clear c87b0
             try clear c87b1
             try clear c89
             try clear c89b0
             try clear c89b1
             try clear c91
             try clear p91
             try clear q91
             try clear hx91
             try clear hcz12_0
             try clear hcz12_1
             try clear hcz12_2
             try clear hcz12_3
             try clear hcz12_4
             try clear hcz14_0
             try clear hcz14_1
             try clear hcz14_2
             try clear hcz14_3
             try clear hcz14_4
             try clear hcz16_0
             try clear hcz16_1
             try clear hcz16_2
             try clear hcz16_3
             try clear hcz16_4
             try clear hcz18_0
             try clear hcz18_1
             try clear hcz18_2
             try clear hcz18_3
             try clear hcz18_4
             try clear hcz19_0
             try clear hcz19_1
             try clear hcz19_2
             try clear hcz19_3
             try clear hcz19_4
             try clear hcz21_0
             try clear hcz21_1
             try clear hcz21_2
             try clear hcz21_3
             try clear hcz21_4
             try clear hcz22_0
             try clear hcz22_1
             try clear hcz22_2
             try clear hcz22_3
             try clear hcz22_4
             try clear hcz25_0
             try clear hcz25_1
             try clear hcz25_2
             try clear hcz25_3
             try clear hcz25_4
             try clear hcz35_0
             try clear hcz35_1
             try clear hcz35_2
             try clear hcz35_3
             try clear hcz35_4
             try clear hcz36_0
             try clear hcz36_1
             try clear hcz36_2
             try clear hcz36_3
             try clear hcz36_4
             try clear hcz42_0
             try clear hcz42_1
             try clear hcz42_2
             try clear hcz42_3
             try clear hcz42_4
             try clear hcz44_0
             try clear hcz44_1
             try clear hcz44_2
             try clear hcz44_3
             try clear hcz44_4
             try clear hcz48_0
             try clear hcz48_1
             try clear hcz48_2
             try clear hcz48_3
             try clear hcz48_4
             try clear hcz50_0
             try clear hcz50_1
             try clear hcz50_2
             try clear hcz50_3
             try clear hcz50_4
             try clear hcz53_0
             try clear hcz53_1
             try clear hcz53_2
             try clear hcz53_3
             try clear hcz53_4
             try clear hcz55_0
             try clear hcz55_1
             try clear hcz55_2
             try clear hcz55_3
             try clear hcz55_4
             try clear hcz57_0
             try clear hcz57_1
             try clear hcz57_2
             try clear hcz57_3
             try clear hcz57_4
             try clear hcz59_0
             try clear hcz59_1
             try clear hcz59_2
             try clear hcz59_3
             try clear hcz59_4
             try clear hcz61_0
             try clear hcz61_1
             try clear hcz61_2
             try clear hcz61_3
             try clear hcz61_4
             try clear hcz63_0
             try clear hcz63_1
             try clear hcz63_2
             try clear hcz63_3
             try clear hcz63_4
             try clear hcz65_0
             try clear hcz65_1
             try clear hcz65_2
             try clear hcz65_3
             try clear hcz65_4
             try clear hcz69_0
             try clear hcz69_1
             try clear hcz69_2
             try clear hcz69_3
             try clear hcz69_4
             try clear hcz75_0
             try clear hcz75_1
             try clear hcz75_2
             try clear hcz75_3
             try clear hcz75_4
             try clear hcz76_0
             try clear hcz76_1
             try clear hcz76_2
             try clear hcz76_3
             try clear hcz76_4
             try clear hcz77_0
             try clear hcz77_1
             try clear hcz77_2
             try clear hcz77_3
             try clear hcz77_4
             try clear hcz80_0
             try clear hcz80_1
             try clear hcz80_2
             try clear hcz80_3
             try clear hcz80_4
             try clear hcz83_0
             try clear hcz83_1
             try clear hcz83_2
             try clear hcz83_3
             try clear hcz83_4
             try clear hcz88_0
             try clear hcz88_1
             try clear hcz88_2
             try clear hcz88_3
             try clear hcz88_4
             try clear hcz8_0
             try clear hcz8_1
             try clear hcz8_2
             try clear hcz8_3
             try clear hcz8_4
             try clear hcz90_0
             try clear hcz90_1
             try clear hcz90_2
             try clear hcz90_3
             try clear hcz90_4
             try clear hcz91_0
             try clear hcz91_1
             try clear hcz91_2
             try clear hcz91_3
             try clear hcz91_4
             try clear hcz92_0
             try clear hcz92_1
             try clear hcz92_2
             try clear hcz92_3
             try clear hcz92_4
             try clear hfz12_0
             try clear hfz12_1
             try clear hfz12_2
             try clear hfz12_3
             try clear hfz12_4
             try clear hfz14_0
             try clear hfz14_1
             try clear hfz14_2
             try clear hfz14_3
             try clear hfz14_4
             try clear hfz16_0
             try clear hfz16_1
             try clear hfz16_2
             try clear hfz16_3
             try clear hfz16_4
             try clear hfz18_0
             try clear hfz18_1
             try clear hfz18_2
             try clear hfz18_3
             try clear hfz18_4
             try clear hfz19_0
             try clear hfz19_1
             try clear hfz19_2
             try clear hfz19_3
             try clear hfz19_4
             try clear hfz21_0
             try clear hfz21_1
             try clear hfz21_2
             try clear hfz21_3
             try clear hfz21_4
             try clear hfz22_0
             try clear hfz22_1
             try clear hfz22_2
             try clear hfz22_3
             try clear hfz22_4
             try clear hfz25_0
             try clear hfz25_1
             try clear hfz25_2
             try clear hfz25_3
             try clear hfz25_4
             try clear hfz35_0
             try clear hfz35_1
             try clear hfz35_2
             try clear hfz35_3
             try clear hfz35_4
             try clear hfz36_0
             try clear hfz36_1
             try clear hfz36_2
             try clear hfz36_3
             try clear hfz36_4
             try clear hfz42_0
             try clear hfz42_1
             try clear hfz42_2
             try clear hfz42_3
             try clear hfz42_4
             try clear hfz44_0
             try clear hfz44_1
             try clear hfz44_2
             try clear hfz44_3
             try clear hfz44_4
             try clear hfz48_0
             try clear hfz48_1
             try clear hfz48_2
             try clear hfz48_3
             try clear hfz48_4
             try clear hfz50_0
             try clear hfz50_1
             try clear hfz50_2
             try clear hfz50_3
             try clear hfz50_4
             try clear hfz53_0
             try clear hfz53_1
             try clear hfz53_2
             try clear hfz53_3
             try clear hfz53_4
             try clear hfz55_0
             try clear hfz55_1
             try clear hfz55_2
             try clear hfz55_3
             try clear hfz55_4
             try clear hfz57_0
             try clear hfz57_1
             try clear hfz57_2
             try clear hfz57_3
             try clear hfz57_4
             try clear hfz59_0
             try clear hfz59_1
             try clear hfz59_2
             try clear hfz59_3
             try clear hfz59_4
             try clear hfz61_0
             try clear hfz61_1
             try clear hfz61_2
             try clear hfz61_3
             try clear hfz61_4
             try clear hfz63_0
             try clear hfz63_1
             try clear hfz63_2
             try clear hfz63_3
             try clear hfz63_4
             try clear hfz65_0
             try clear hfz65_1
             try clear hfz65_2
             try clear hfz65_3
             try clear hfz65_4
             try clear hfz69_0
             try clear hfz69_1
             try clear hfz69_2
             try clear hfz69_3
             try clear hfz69_4
             try clear hfz75_0
             try clear hfz75_1
             try clear hfz75_2
             try clear hfz75_3
             try clear hfz75_4
             try clear hfz76_0
             try clear hfz76_1
             try clear hfz76_2
             try clear hfz76_3
             try clear hfz76_4
             try clear hfz77_0
             try clear hfz77_1
             try clear hfz77_2
             try clear hfz77_3
             try clear hfz77_4
             try clear hfz80_0
             try clear hfz80_1
             try clear hfz80_2
             try clear hfz80_3
             try clear hfz80_4
             try clear hfz83_0
             try clear hfz83_1
             try clear hfz83_2
             try clear hfz83_3
             try clear hfz83_4
             try clear hfz88_0
             try clear hfz88_1
             try clear hfz88_2
             try clear hfz88_3
             try clear hfz88_4
             try clear hfz8_0
             try clear hfz8_1
             try clear hfz8_2
             try clear hfz8_3
             try clear hfz8_4
             try clear hfz90_0
             try clear hfz90_1
             try clear hfz90_2
             try clear hfz90_3
             try clear hfz90_4
             try clear hfz91_0
             try clear hfz91_1
             try clear hfz91_2
             try clear hfz91_3
             try clear hfz91_4
             try clear hfz92_0
             try clear hfz92_1
             try clear hfz92_2
             try clear hfz92_3
             try clear hfz92_4
             try clear hx9178_0
             try clear hx9179_0
             try clear hx9181_0
             try clear hx9181_1
             try clear hx9181_2
             try clear hx9181_3
             try clear hx9181_4
             try clear hx9182_0
             try clear hx9182_1
             try clear hx9182_2
             try clear hx9182_3
             try clear hx9182_4
             try clear p2
             try clear p6
             try clear p64
             try clear p9
             try clear p91
             try clear p9178
             try clear p9179
             try clear p9181
             try clear p9182
             try clear q9
             try clear q91
             try clear q9178
             try clear q9179
             try clear q9181
             try clear q9182
             obtain ⟨x5_4, x141_4, rfl, rfl, HA, HK4, BK9176, HB⟩ := hrel
             cases gk with
             | zero => exact absurd HA.out (by simp [impl_expCount.l1])
             | succ k4 =>
              have H := HA.out
              clear HA
              simp only [impl_expCount.l1] at H
              by_cases c93 : x141_4 < (l0_4.length : Int)
              ·rw [if_pos c93] at H
               have c93b0 : decide (x141_4 < (l0_4.length : Int)) = true := decide_eq_true c93
               clear c93
               by_cases c94 : 0 ≤ x141_4
               ·rw [if_pos c94] at H
                have c94b0 : decide (0 ≤ x141_4) = true := decide_eq_true c94
                clear c94
                by_cases c95 : x141_4 < (l0_4.length : Int)
                ·rw [if_pos c95] at H
                 have c95b0 : decide (x141_4 < (l0_4.length : Int)) = true := decide_eq_true c95
                 clear c95
                 replace H := Option.bind_eq_some_iff.mp H
                 obtain ⟨t9185, A960, H⟩ := H
                 replace H : (if t9185 < 0 then (some (-1)) else (if (wrap64 (x5_4 + t9185)) > 1500 then (some (-1)) else (impl_expCount.l1 k4 a1 (wrap64 (x5_4 + t9185)) l0_4 (l0_4.length : Int) (wrap64 (x141_4 + 1))))) = some r := H
                 have A96 := Aq A960
                 clear A960
                 by_cases c97 : t9185 < 0
                 ·rw [if_pos c97] at H
                  have c97b0 : decide (t9185 < 0) = true := decide_eq_true c97
                  clear c97
                  obtain rfl := Option.some.inj H
                  have p9183 : 0 ≤ (x141_4 : Int) := of_decide_eq_true (by first | (with_reducible assumption) | assumption)
                  have q9183 : x141_4 < (l0_4.length : Int) := of_decide_eq_true (by first | (with_reducible assumption) | assumption)
                  obtain ⟨ad9183, A9183_2, c9183_2, A9183_4, c9183_4, e9183, hx9183_0, hx9183_1, hx9183_2, hx9183_3, hx9183_4, hl9183_2, hi9183_2, hl9183_4, hi9183_4⟩ := at_T35 HR0_4.out x141_4 p9183 q9183
                  cases e9183
                  replace hx9183_0 := (HB.out.cell (World.block_lt_of_cell? w _ hx9183_0)).trans hx9183_0
                  replace hx9183_1 := (HB.out.cell (World.block_lt_of_cell? w _ hx9183_1)).trans hx9183_1
                  replace hx9183_2 := (HB.out.cell (World.block_lt_of_cell? w _ hx9183_2)).trans hx9183_2
                  replace hx9183_3 := (HB.out.cell (World.block_lt_of_cell? w _ hx9183_3)).trans hx9183_3
                  replace hx9183_4 := (HB.out.cell (World.block_lt_of_cell? w _ hx9183_4)).trans hx9183_4
                  have HR9183_2 := Aq hi9183_2
                  have HC9183_2 := Aq hl9183_2
                  clear hi9183_2 hl9183_2
                  have HR9183_4 := Aq hi9183_4
                  have HC9183_4 := Aq hl9183_4
                  clear hi9183_4 hl9183_4
                  replace p9183 := eq_true p9183
                  replace q9183 := eq_true q9183
                  go_wp2_with (first | ((with_reducible refine gate_dst (N := 10) rfl ?_); (try (refine gate_guard (by rfl) ?_; dsimp only)); refine box_event ?hg (N := 10) ?hd (cs := #[.int .i64 0, .string (⟨#[]⟩ : ByteArray), .slice none 0 0, .int .i64 0, .slice none 0 0]) (t := 35) ?hr ?_; (case hd => rfl); (case hg => rfl); (case hr => first | (go_simp; done) | (go_simp; rfl)); intro gb9184 hg w98 hbox hb; have n0_ := Aq (blk_below (g := gb9176) (o := .cells #[.int .i64 a0_0, .string a0_1, .slice A0_2 l0_2.length c0_2, .int .i64 a0_3, .slice (some ad9183) l0_4.length c0_4] 35 (0, 0)) (by (with_reducible repeat (first | refine zN ?_ _ | refine zD ?_ | refine zA ?_ _)); exact BK9176.out) hb); have n1_ := Aq (below_step (by repeat (first | (with_reducible first | exact HB.out | apply zB | apply zC | apply zE | refine below_set ?_ GE9176.out) | exact HB.out)) hb); have n2_ := Aq (hbox); have n3_ := Aq ((by rw [hg]; exact (below_size (by repeat (first | (with_reducible first | exact HB.out | apply zB | apply zC | apply zE | refine below_set ?_ GE9176.out) | exact HB.out))) : w.heap.size ≤ gb9184)); have n4_ := Aq ((by rw [hg]; exact (below_size (by repeat (first | (with_reducible first | exact HB.out | apply zB | apply zC | apply zE | refine below_set ?_ GE9176.out) | exact HB.out))) : w.heap.size ≤ gb9184)); have n5_ := Aq ((by rw [hg]; exact Nat.ne_of_lt (blk_lt (g := gb9176) (o := .cells #[.int .i64 a0_0, .string a0_1, .slice A0_2 l0_2.length c0_2, .int .i64 a0_3, .slice (some ad9183) l0_4.length c0_4] 35 (0, 0)) (by (with_reducible repeat (first | refine zN ?_ _ | refine zD ?_ | refine zA ?_ _)); exact BK9176.out)) : gb9176 ≠ gb9184)); have n6_ := Aq ((by rw [hg]; exact Nat.ne_of_gt (blk_lt (g := gb9176) (o := .cells #[.int .i64 a0_0, .string a0_1, .slice A0_2 l0_2.length c0_2, .int .i64 a0_3, .slice (some ad9183) l0_4.length c0_4] 35 (0, 0)) (by (with_reducible repeat (first | refine zN ?_ _ | refine zD ?_ | refine zA ?_ _)); exact BK9176.out)) : gb9184 ≠ gb9176)); clear BK9176 HB; have BK9176 := n0_; have HB := n1_; have BK9184 := n2_; have GW9184 := n3_; have GE9184 := n4_; have NB9176_9184 := n5_; have NB9184_9176 := n6_; clear n0_ n1_ n2_ n3_ n4_ n5_ n6_ hb hbox hg; have hnb99 := NB9184_9176.out; have hnc99 := NB9176_9184.out; have hcz100_0 : w98.cell? ⟨gb9184, 0, none⟩ = some (.int .i64 0) := (blk_cell BK9184.out 0).trans rfl; have hcz100_1 : w98.cell? ⟨gb9184, 1, none⟩ = some (.string (⟨#[]⟩ : ByteArray)) := (blk_cell BK9184.out 1).trans rfl; have hcz100_2 : w98.cell? ⟨gb9184, 2, none⟩ = some (.slice none 0 0) := (blk_cell BK9184.out 2).trans rfl; have hcz100_3 : w98.cell? ⟨gb9184, 3, none⟩ = some (.int .i64 0) := (blk_cell BK9184.out 3).trans rfl; have hcz100_4 : w98.cell? ⟨gb9184, 4, none⟩ = some (.slice none 0 0) := (blk_cell BK9184.out 4).trans rfl; have hfz100_0 := blk_frozen BK9184.out 0; have hfz100_1 := blk_frozen BK9184.out 1; have hfz100_2 := blk_frozen BK9184.out 2; have hfz100_3 := blk_frozen BK9184.out 3; have hfz100_4 := blk_frozen BK9184.out 4) | ((with_reducible refine gate_callee (f := 34) rfl ?_); refine goesL_ (some 148) rfl rfl Tryd.func34 (by kernel_rfl) rfl #[.agg #[.int .i64 ((rd_T35 l0_4 x141_4).f0), .string ((rd_T35 l0_4 x141_4).f1), .slice A9183_2 ((rd_T35 l0_4 x141_4).f2).length c9183_2, .int .i64 ((rd_T35 l0_4 x141_4).f3), .slice A9183_4 ((rd_T35 l0_4 x141_4).f4).length c9183_4], .int .i64 (wrap64 (a1 + 1))] rfl (by (try simp only [List.map_toArray, List.map_cons, List.map_nil]); first | done | rfl | (simp only [List.length_drop, List.length_take]; rfl)) ?_; (with_reducible refine (ih k4 (by have := HJ66.out; have := HJ71.out; have := HJ78.out; have := HK4.out; omega) ((rd_T35 l0_4 x141_4).f0) ((rd_T35 l0_4 x141_4).f1) _ _ ((rd_T35 l0_4 x141_4).f2) ((rd_T35 l0_4 x141_4).f3) _ _ ((rd_T35 l0_4 x141_4).f4) (wrap64 (a1 + 1)) t9185 _ ?side1 ?side2 ?side3 ?side4 A96.out).mono ?_); (case side1 => exact Kd.C_below HR9183_2.out (by repeat (first | (with_reducible first | exact HB.out | apply zB | apply zC | apply zE | refine below_set ?_ GE9176.out | refine below_set ?_ GE9184.out) | exact HB.out))); (case side2 => exact HC9183_2.out); (case side3 => exact Kd.C_below HR9183_4.out (by repeat (first | (with_reducible first | exact HB.out | apply zB | apply zC | apply zE | refine below_set ?_ GE9176.out | refine below_set ?_ GE9184.out) | exact HB.out))); (case side4 => exact HC9183_4.out); rintro e w101 ⟨rfl, hb⟩; refine ⟨_, rfl, ?_⟩; have n0_ := Aq (blk_below (g := gb9176) (o := .cells #[.int .i64 a0_0, .string a0_1, .slice A0_2 l0_2.length c0_2, .int .i64 a0_3, .slice (some ad9183) l0_4.length c0_4] 35 (0, 0)) (by (with_reducible repeat (first | refine zN ?_ _ | refine zD ?_ | refine zA ?_ _)); refine blk_far ?_ NB9176_9184.out _; (with_reducible repeat (first | refine zN ?_ _ | refine zD ?_ | refine zA ?_ _)); refine blk_far ?_ NB9176_9184.out _; (with_reducible repeat (first | refine zN ?_ _ | refine zD ?_ | refine zA ?_ _)); refine blk_far ?_ NB9176_9184.out _; (with_reducible repeat (first | refine zN ?_ _ | refine zD ?_ | refine zA ?_ _)); refine blk_far ?_ NB9176_9184.out _; (with_reducible repeat (first | refine zN ?_ _ | refine zD ?_ | refine zA ?_ _)); refine blk_far ?_ NB9176_9184.out _; (with_reducible repeat (first | refine zN ?_ _ | refine zD ?_ | refine zA ?_ _)); exact BK9176.out) hb); have n1_ := Aq (blk_below (g := gb9184) (o := .cells #[.int .i64 ((rd_T35 l0_4 x141_4).f0), .string ((rd_T35 l0_4 x141_4).f1), .slice A9183_2 ((rd_T35 l0_4 x141_4).f2).length c9183_2, .int .i64 ((rd_T35 l0_4 x141_4).f3), .slice A9183_4 ((rd_T35 l0_4 x141_4).f4).length c9183_4] 35 (0, 0)) (by (with_reducible repeat (first | refine zN ?_ _ | refine zD ?_ | refine zA ?_ _)); refine blk_put (cs := #[.int .i64 ((rd_T35 l0_4 x141_4).f0), .string ((rd_T35 l0_4 x141_4).f1), .slice A9183_2 ((rd_T35 l0_4 x141_4).f2).length c9183_2, .int .i64 ((rd_T35 l0_4 x141_4).f3), .slice none 0 0]) ?_ 4 _ rfl; (with_reducible repeat (first | refine zN ?_ _ | refine zD ?_ | refine zA ?_ _)); refine blk_put (cs := #[.int .i64 ((rd_T35 l0_4 x141_4).f0), .string ((rd_T35 l0_4 x141_4).f1), .slice A9183_2 ((rd_T35 l0_4 x141_4).f2).length c9183_2, .int .i64 0, .slice none 0 0]) ?_ 3 _ rfl; (with_reducible repeat (first | refine zN ?_ _ | refine zD ?_ | refine zA ?_ _)); refine blk_put (cs := #[.int .i64 ((rd_T35 l0_4 x141_4).f0), .string ((rd_T35 l0_4 x141_4).f1), .slice none 0 0, .int .i64 0, .slice none 0 0]) ?_ 2 _ rfl; (with_reducible repeat (first | refine zN ?_ _ | refine zD ?_ | refine zA ?_ _)); refine blk_put (cs := #[.int .i64 ((rd_T35 l0_4 x141_4).f0), .string (⟨#[]⟩ : ByteArray), .slice none 0 0, .int .i64 0, .slice none 0 0]) ?_ 1 _ rfl; (with_reducible repeat (first | refine zN ?_ _ | refine zD ?_ | refine zA ?_ _)); refine blk_put (cs := #[.int .i64 0, .string (⟨#[]⟩ : ByteArray), .slice none 0 0, .int .i64 0, .slice none 0 0]) ?_ 0 _ rfl; (with_reducible repeat (first | refine zN ?_ _ | refine zD ?_ | refine zA ?_ _)); exact BK9184.out) hb); have n2_ := Aq (below_step (by repeat (first | (with_reducible first | exact HB.out | apply zB | apply zC | apply zE | refine below_set ?_ GE9176.out | refine below_set ?_ GE9184.out) | exact HB.out)) hb); clear BK9176 BK9184 HB; have BK9176 := n0_; have BK9184 := n1_; have HB := n2_; clear n0_ n1_ n2_; (try clear hb); (try clear hb2); (try clear hk); (try clear hi)))
                  go_ret
                  exact ⟨by first | rfl | (simp [errW_none, errW_some] <;> rfl) | (simp [*, errW_none, errW_some] <;> rfl), by repeat (first | (with_reducible first | exact HB.out | apply zB | apply zC | apply zE | refine below_set ?_ GE9176.out | refine below_set ?_ GE9184.out) | exact HB.out)⟩
                 ·rw [if_neg c97] at H
                  have c97b0 : decide (t9185 < 0) = false := decide_eq_false c97
                  clear c97
                  by_cases c102 : (wrap64 (x5_4 + t9185)) > 1500
                  ·rw [if_pos c102] at H
                   have c102b0 : decide (1500 < (wrap64 (x5_4 + t9185))) = true := decide_eq_true c102
                   clear c102
                   obtain rfl := Option.some.inj H
                   have p9183 : 0 ≤ (x141_4 : Int) := of_decide_eq_true (by first | (with_reducible assumption) | assumption)
                   have q9183 : x141_4 < (l0_4.length : Int) := of_decide_eq_true (by first | (with_reducible assumption) | assumption)
                   obtain ⟨ad9183, A9183_2, c9183_2, A9183_4, c9183_4, e9183, hx9183_0, hx9183_1, hx9183_2, hx9183_3, hx9183_4, hl9183_2, hi9183_2, hl9183_4, hi9183_4⟩ := at_T35 HR0_4.out x141_4 p9183 q9183
                   cases e9183
                   replace hx9183_0 := (HB.out.cell (World.block_lt_of_cell? w _ hx9183_0)).trans hx9183_0
                   replace hx9183_1 := (HB.out.cell (World.block_lt_of_cell? w _ hx9183_1)).trans hx9183_1
                   replace hx9183_2 := (HB.out.cell (World.block_lt_of_cell? w _ hx9183_2)).trans hx9183_2
                   replace hx9183_3 := (HB.out.cell (World.block_lt_of_cell? w _ hx9183_3)).trans hx9183_3
                   replace hx9183_4 := (HB.out.cell (World.block_lt_of_cell? w _ hx9183_4)).trans hx9183_4
                   have HR9183_2 := Aq hi9183_2
                   have HC9183_2 := Aq hl9183_2
                   clear hi9183_2 hl9183_2
                   have HR9183_4 := Aq hi9183_4
                   have HC9183_4 := Aq hl9183_4
                   clear hi9183_4 hl9183_4
                   replace p9183 := eq_true p9183
                   replace q9183 := eq_true q9183
                   go_wp2_with (first | ((with_reducible refine gate_dst (N := 10) rfl ?_); (try (refine gate_guard (by rfl) ?_; dsimp only)); refine box_event ?hg (N := 10) ?hd (cs := #[.int .i64 0, .string (⟨#[]⟩ : ByteArray), .slice none 0 0, .int .i64 0, .slice none 0 0]) (t := 35) ?hr ?_; (case hd => rfl); (case hg => rfl); (case hr => first | (go_simp; done) | (go_simp; rfl)); intro gb9184 hg w103 hbox hb; have n0_ := Aq (blk_below (g := gb9176) (o := .cells #[.int .i64 a0_0, .string a0_1, .slice A0_2 l0_2.length c0_2, .int .i64 a0_3, .slice (some ad9183) l0_4.length c0_4] 35 (0, 0)) (by (with_reducible repeat (first | refine zN ?_ _ | refine zD ?_ | refine zA ?_ _)); exact BK9176.out) hb); have n1_ := Aq (below_step (by repeat (first | (with_reducible first | exact HB.out | apply zB | apply zC | apply zE | refine below_set ?_ GE9176.out) | exact HB.out)) hb); have n2_ := Aq (hbox); have n3_ := Aq ((by rw [hg]; exact (below_size (by repeat (first | (with_reducible first | exact HB.out | apply zB | apply zC | apply zE | refine below_set ?_ GE9176.out) | exact HB.out))) : w.heap.size ≤ gb9184)); have n4_ := Aq ((by rw [hg]; exact (below_size (by repeat (first | (with_reducible first | exact HB.out | apply zB | apply zC | apply zE | refine below_set ?_ GE9176.out) | exact HB.out))) : w.heap.size ≤ gb9184)); have n5_ := Aq ((by rw [hg]; exact Nat.ne_of_lt (blk_lt (g := gb9176) (o := .cells #[.int .i64 a0_0, .string a0_1, .slice A0_2 l0_2.length c0_2, .int .i64 a0_3, .slice (some ad9183) l0_4.length c0_4] 35 (0, 0)) (by (with_reducible repeat (first | refine zN ?_ _ | refine zD ?_ | refine zA ?_ _)); exact BK9176.out)) : gb9176 ≠ gb9184)); have n6_ := Aq ((by rw [hg]; exact Nat.ne_of_gt (blk_lt (g := gb9176) (o := .cells #[.int .i64 a0_0, .string a0_1, .slice A0_2 l0_2.length c0_2, .int .i64 a0_3, .slice (some ad9183) l0_4.length c0_4] 35 (0, 0)) (by (with_reducible repeat (first | refine zN ?_ _ | refine zD ?_ | refine zA ?_ _)); exact BK9176.out)) : gb9184 ≠ gb9176)); clear BK9176 HB; have BK9176 := n0_; have HB := n1_; have BK9184 := n2_; have GW9184 := n3_; have GE9184 := n4_; have NB9176_9184 := n5_; have NB9184_9176 := n6_; clear n0_ n1_ n2_ n3_ n4_ n5_ n6_ hb hbox hg; have hnb104 := NB9184_9176.out; have hnc104 := NB9176_9184.out; have hcz105_0 : w103.cell? ⟨gb9184, 0, none⟩ = some (.int .i64 0) := (blk_cell BK9184.out 0).trans rfl; have hcz105_1 : w103.cell? ⟨gb9184, 1, none⟩ = some (.string (⟨#[]⟩ : ByteArray)) := (blk_cell BK9184.out 1).trans rfl; have hcz105_2 : w103.cell? ⟨gb9184, 2, none⟩ = some (.slice none 0 0) := (blk_cell BK9184.out 2).trans rfl; have hcz105_3 : w103.cell? ⟨gb9184, 3, none⟩ = some (.int .i64 0) := (blk_cell BK9184.out 3).trans rfl; have hcz105_4 : w103.cell? ⟨gb9184, 4, none⟩ = some (.slice none 0 0) := (blk_cell BK9184.out 4).trans rfl; have hfz105_0 := blk_frozen BK9184.out 0; have hfz105_1 := blk_frozen BK9184.out 1; have hfz105_2 := blk_frozen BK9184.out 2; have hfz105_3 := blk_frozen BK9184.out 3; have hfz105_4 := blk_frozen BK9184.out 4) | ((with_reducible refine gate_callee (f := 34) rfl ?_); refine goesL_ (some 148) rfl rfl Tryd.func34 (by kernel_rfl) rfl #[.agg #[.int .i64 ((rd_T35 l0_4 x141_4).f0), .string ((rd_T35 l0_4 x141_4).f1), .slice A9183_2 ((rd_T35 l0_4 x141_4).f2).length c9183_2, .int .i64 ((rd_T35 l0_4 x141_4).f3), .slice A9183_4 ((rd_T35 l0_4 x141_4).f4).length c9183_4], .int .i64 (wrap64 (a1 + 1))] rfl (by (try simp only [List.map_toArray, List.map_cons, List.map_nil]); first | done | rfl | (simp only [List.length_drop, List.length_take]; rfl)) ?_; (with_reducible refine (ih k4 (by have := HJ66.out; have := HJ71.out; have := HJ78.out; have := HK4.out; omega) ((rd_T35 l0_4 x141_4).f0) ((rd_T35 l0_4 x141_4).f1) _ _ ((rd_T35 l0_4 x141_4).f2) ((rd_T35 l0_4 x141_4).f3) _ _ ((rd_T35 l0_4 x141_4).f4) (wrap64 (a1 + 1)) t9185 _ ?side1 ?side2 ?side3 ?side4 A96.out).mono ?_); (case side1 => exact Kd.C_below HR9183_2.out (by repeat (first | (with_reducible first | exact HB.out | apply zB | apply zC | apply zE | refine below_set ?_ GE9176.out | refine below_set ?_ GE9184.out) | exact HB.out))); (case side2 => exact HC9183_2.out); (case side3 => exact Kd.C_below HR9183_4.out (by repeat (first | (with_reducible first | exact HB.out | apply zB | apply zC | apply zE | refine below_set ?_ GE9176.out | refine below_set ?_ GE9184.out) | exact HB.out))); (case side4 => exact HC9183_4.out); rintro e w106 ⟨rfl, hb⟩; refine ⟨_, rfl, ?_⟩; have n0_ := Aq (blk_below (g := gb9176) (o := .cells #[.int .i64 a0_0, .string a0_1, .slice A0_2 l0_2.length c0_2, .int .i64 a0_3, .slice (some ad9183) l0_4.length c0_4] 35 (0, 0)) (by (with_reducible repeat (first | refine zN ?_ _ | refine zD ?_ | refine zA ?_ _)); refine blk_far ?_ NB9176_9184.out _; (with_reducible repeat (first | refine zN ?_ _ | refine zD ?_ | refine zA ?_ _)); refine blk_far ?_ NB9176_9184.out _; (with_reducible repeat (first | refine zN ?_ _ | refine zD ?_ | refine zA ?_ _)); refine blk_far ?_ NB9176_9184.out _; (with_reducible repeat (first | refine zN ?_ _ | refine zD ?_ | refine zA ?_ _)); refine blk_far ?_ NB9176_9184.out _; (with_reducible repeat (first | refine zN ?_ _ | refine zD ?_ | refine zA ?_ _)); refine blk_far ?_ NB9176_9184.out _; (with_reducible repeat (first | refine zN ?_ _ | refine zD ?_ | refine zA ?_ _)); exact BK9176.out) hb); have n1_ := Aq (blk_below (g := gb9184) (o := .cells #[.int .i64 ((rd_T35 l0_4 x141_4).f0), .string ((rd_T35 l0_4 x141_4).f1), .slice A9183_2 ((rd_T35 l0_4 x141_4).f2).length c9183_2, .int .i64 ((rd_T35 l0_4 x141_4).f3), .slice A9183_4 ((rd_T35 l0_4 x141_4).f4).length c9183_4] 35 (0, 0)) (by (with_reducible repeat (first | refine zN ?_ _ | refine zD ?_ | refine zA ?_ _)); refine blk_put (cs := #[.int .i64 ((rd_T35 l0_4 x141_4).f0), .string ((rd_T35 l0_4 x141_4).f1), .slice A9183_2 ((rd_T35 l0_4 x141_4).f2).length c9183_2, .int .i64 ((rd_T35 l0_4 x141_4).f3), .slice none 0 0]) ?_ 4 _ rfl; (with_reducible repeat (first | refine zN ?_ _ | refine zD ?_ | refine zA ?_ _)); refine blk_put (cs := #[.int .i64 ((rd_T35 l0_4 x141_4).f0), .string ((rd_T35 l0_4 x141_4).f1), .slice A9183_2 ((rd_T35 l0_4 x141_4).f2).length c9183_2, .int .i64 0, .slice none 0 0]) ?_ 3 _ rfl; (with_reducible repeat (first | refine zN ?_ _ | refine zD ?_ | refine zA ?_ _)); refine blk_put (cs := #[.int .i64 ((rd_T35 l0_4 x141_4).f0), .string ((rd_T35 l0_4 x141_4).f1), .slice none 0 0, .int .i64 0, .slice none 0 0]) ?_ 2 _ rfl; (with_reducible repeat (first | refine zN ?_ _ | refine zD ?_ | refine zA ?_ _)); refine blk_put (cs := #[.int .i64 ((rd_T35 l0_4 x141_4).f0), .string (⟨#[]⟩ : ByteArray), .slice none 0 0, .int .i64 0, .slice none 0 0]) ?_ 1 _ rfl; (with_reducible repeat (first | refine zN ?_ _ | refine zD ?_ | refine zA ?_ _)); refine blk_put (cs := #[.int .i64 0, .string (⟨#[]⟩ : ByteArray), .slice none 0 0, .int .i64 0, .slice none 0 0]) ?_ 0 _ rfl; (with_reducible repeat (first | refine zN ?_ _ | refine zD ?_ | refine zA ?_ _)); exact BK9184.out) hb); have n2_ := Aq (below_step (by repeat (first | (with_reducible first | exact HB.out | apply zB | apply zC | apply zE | refine below_set ?_ GE9176.out | refine below_set ?_ GE9184.out) | exact HB.out)) hb); clear BK9176 BK9184 HB; have BK9176 := n0_; have BK9184 := n1_; have HB := n2_; clear n0_ n1_ n2_; (try clear hb); (try clear hb2); (try clear hk); (try clear hi)))
                   go_ret
                   exact ⟨by first | rfl | (simp [errW_none, errW_some] <;> rfl) | (simp [*, errW_none, errW_some] <;> rfl), by repeat (first | (with_reducible first | exact HB.out | apply zB | apply zC | apply zE | refine below_set ?_ GE9176.out | refine below_set ?_ GE9184.out) | exact HB.out)⟩
                  ·rw [if_neg c102] at H
                   have c102b0 : decide (1500 < (wrap64 (x5_4 + t9185))) = false := decide_eq_false c102
                   clear c102
                   have H' := Aq H
                   clear H
                   have p9183 : 0 ≤ (x141_4 : Int) := of_decide_eq_true (by first | (with_reducible assumption) | assumption)
                   have q9183 : x141_4 < (l0_4.length : Int) := of_decide_eq_true (by first | (with_reducible assumption) | assumption)
                   obtain ⟨ad9183, A9183_2, c9183_2, A9183_4, c9183_4, e9183, hx9183_0, hx9183_1, hx9183_2, hx9183_3, hx9183_4, hl9183_2, hi9183_2, hl9183_4, hi9183_4⟩ := at_T35 HR0_4.out x141_4 p9183 q9183
                   cases e9183
                   replace hx9183_0 := (HB.out.cell (World.block_lt_of_cell? w _ hx9183_0)).trans hx9183_0
                   replace hx9183_1 := (HB.out.cell (World.block_lt_of_cell? w _ hx9183_1)).trans hx9183_1
                   replace hx9183_2 := (HB.out.cell (World.block_lt_of_cell? w _ hx9183_2)).trans hx9183_2
                   replace hx9183_3 := (HB.out.cell (World.block_lt_of_cell? w _ hx9183_3)).trans hx9183_3
                   replace hx9183_4 := (HB.out.cell (World.block_lt_of_cell? w _ hx9183_4)).trans hx9183_4
                   have HR9183_2 := Aq hi9183_2
                   have HC9183_2 := Aq hl9183_2
                   clear hi9183_2 hl9183_2
                   have HR9183_4 := Aq hi9183_4
                   have HC9183_4 := Aq hl9183_4
                   clear hi9183_4 hl9183_4
                   replace p9183 := eq_true p9183
                   replace q9183 := eq_true q9183
                   go_wp2_with (first | ((with_reducible refine gate_dst (N := 10) rfl ?_); (try (refine gate_guard (by rfl) ?_; dsimp only)); refine box_event ?hg (N := 10) ?hd (cs := #[.int .i64 0, .string (⟨#[]⟩ : ByteArray), .slice none 0 0, .int .i64 0, .slice none 0 0]) (t := 35) ?hr ?_; (case hd => rfl); (case hg => rfl); (case hr => first | (go_simp; done) | (go_simp; rfl)); intro gb9184 hg w107 hbox hb; have n0_ := Aq (blk_below (g := gb9176) (o := .cells #[.int .i64 a0_0, .string a0_1, .slice A0_2 l0_2.length c0_2, .int .i64 a0_3, .slice (some ad9183) l0_4.length c0_4] 35 (0, 0)) (by (with_reducible repeat (first | refine zN ?_ _ | refine zD ?_ | refine zA ?_ _)); exact BK9176.out) hb); have n1_ := Aq (below_step (by repeat (first | (with_reducible first | exact HB.out | apply zB | apply zC | apply zE | refine below_set ?_ GE9176.out) | exact HB.out)) hb); have n2_ := Aq (hbox); have n3_ := Aq ((by rw [hg]; exact (below_size (by repeat (first | (with_reducible first | exact HB.out | apply zB | apply zC | apply zE | refine below_set ?_ GE9176.out) | exact HB.out))) : w.heap.size ≤ gb9184)); have n4_ := Aq ((by rw [hg]; exact (below_size (by repeat (first | (with_reducible first | exact HB.out | apply zB | apply zC | apply zE | refine below_set ?_ GE9176.out) | exact HB.out))) : w.heap.size ≤ gb9184)); have n5_ := Aq ((by rw [hg]; exact Nat.ne_of_lt (blk_lt (g := gb9176) (o := .cells #[.int .i64 a0_0, .string a0_1, .slice A0_2 l0_2.length c0_2, .int .i64 a0_3, .slice (some ad9183) l0_4.length c0_4] 35 (0, 0)) (by (with_reducible repeat (first | refine zN ?_ _ | refine zD ?_ | refine zA ?_ _)); exact BK9176.out)) : gb9176 ≠ gb9184)); have n6_ := Aq ((by rw [hg]; exact Nat.ne_of_gt (blk_lt (g := gb9176) (o := .cells #[.int .i64 a0_0, .string a0_1, .slice A0_2 l0_2.length c0_2, .int .i64 a0_3, .slice (some ad9183) l0_4.length c0_4] 35 (0, 0)) (by (with_reducible repeat (first | refine zN ?_ _ | refine zD ?_ | refine zA ?_ _)); exact BK9176.out)) : gb9184 ≠ gb9176)); clear BK9176 HB; have BK9176 := n0_; have HB := n1_; have BK9184 := n2_; have GW9184 := n3_; have GE9184 := n4_; have NB9176_9184 := n5_; have NB9184_9176 := n6_; clear n0_ n1_ n2_ n3_ n4_ n5_ n6_ hb hbox hg; have hnb108 := NB9184_9176.out; have hnc108 := NB9176_9184.out; have hcz109_0 : w107.cell? ⟨gb9184, 0, none⟩ = some (.int .i64 0) := (blk_cell BK9184.out 0).trans rfl; have hcz109_1 : w107.cell? ⟨gb9184, 1, none⟩ = some (.string (⟨#[]⟩ : ByteArray)) := (blk_cell BK9184.out 1).trans rfl; have hcz109_2 : w107.cell? ⟨gb9184, 2, none⟩ = some (.slice none 0 0) := (blk_cell BK9184.out 2).trans rfl; have hcz109_3 : w107.cell? ⟨gb9184, 3, none⟩ = some (.int .i64 0) := (blk_cell BK9184.out 3).trans rfl; have hcz109_4 : w107.cell? ⟨gb9184, 4, none⟩ = some (.slice none 0 0) := (blk_cell BK9184.out 4).trans rfl; have hfz109_0 := blk_frozen BK9184.out 0; have hfz109_1 := blk_frozen BK9184.out 1; have hfz109_2 := blk_frozen BK9184.out 2; have hfz109_3 := blk_frozen BK9184.out 3; have hfz109_4 := blk_frozen BK9184.out 4) | ((with_reducible refine gate_callee (f := 34) rfl ?_); refine goesL_ (some 148) rfl rfl Tryd.func34 (by kernel_rfl) rfl #[.agg #[.int .i64 ((rd_T35 l0_4 x141_4).f0), .string ((rd_T35 l0_4 x141_4).f1), .slice A9183_2 ((rd_T35 l0_4 x141_4).f2).length c9183_2, .int .i64 ((rd_T35 l0_4 x141_4).f3), .slice A9183_4 ((rd_T35 l0_4 x141_4).f4).length c9183_4], .int .i64 (wrap64 (a1 + 1))] rfl (by (try simp only [List.map_toArray, List.map_cons, List.map_nil]); first | done | rfl | (simp only [List.length_drop, List.length_take]; rfl)) ?_; (with_reducible refine (ih k4 (by have := HJ66.out; have := HJ71.out; have := HJ78.out; have := HK4.out; omega) ((rd_T35 l0_4 x141_4).f0) ((rd_T35 l0_4 x141_4).f1) _ _ ((rd_T35 l0_4 x141_4).f2) ((rd_T35 l0_4 x141_4).f3) _ _ ((rd_T35 l0_4 x141_4).f4) (wrap64 (a1 + 1)) t9185 _ ?side1 ?side2 ?side3 ?side4 A96.out).mono ?_); (case side1 => exact Kd.C_below HR9183_2.out (by repeat (first | (with_reducible first | exact HB.out | apply zB | apply zC | apply zE | refine below_set ?_ GE9176.out | refine below_set ?_ GE9184.out) | exact HB.out))); (case side2 => exact HC9183_2.out); (case side3 => exact Kd.C_below HR9183_4.out (by repeat (first | (with_reducible first | exact HB.out | apply zB | apply zC | apply zE | refine below_set ?_ GE9176.out | refine below_set ?_ GE9184.out) | exact HB.out))); (case side4 => exact HC9183_4.out); rintro e w110 ⟨rfl, hb⟩; refine ⟨_, rfl, ?_⟩; have n0_ := Aq (blk_below (g := gb9176) (o := .cells #[.int .i64 a0_0, .string a0_1, .slice A0_2 l0_2.length c0_2, .int .i64 a0_3, .slice (some ad9183) l0_4.length c0_4] 35 (0, 0)) (by (with_reducible repeat (first | refine zN ?_ _ | refine zD ?_ | refine zA ?_ _)); refine blk_far ?_ NB9176_9184.out _; (with_reducible repeat (first | refine zN ?_ _ | refine zD ?_ | refine zA ?_ _)); refine blk_far ?_ NB9176_9184.out _; (with_reducible repeat (first | refine zN ?_ _ | refine zD ?_ | refine zA ?_ _)); refine blk_far ?_ NB9176_9184.out _; (with_reducible repeat (first | refine zN ?_ _ | refine zD ?_ | refine zA ?_ _)); refine blk_far ?_ NB9176_9184.out _; (with_reducible repeat (first | refine zN ?_ _ | refine zD ?_ | refine zA ?_ _)); refine blk_far ?_ NB9176_9184.out _; (with_reducible repeat (first | refine zN ?_ _ | refine zD ?_ | refine zA ?_ _)); exact BK9176.out) hb); have n1_ := Aq (blk_below (g := gb9184) (o := .cells #[.int .i64 ((rd_T35 l0_4 x141_4).f0), .string ((rd_T35 l0_4 x141_4).f1), .slice A9183_2 ((rd_T35 l0_4 x141_4).f2).length c9183_2, .int .i64 ((rd_T35 l0_4 x141_4).f3), .slice A9183_4 ((rd_T35 l0_4 x141_4).f4).length c9183_4] 35 (0, 0)) (by (with_reducible repeat (first | refine zN ?_ _ | refine zD ?_ | refine zA ?_ _)); refine blk_put (cs := #[.int .i64 ((rd_T35 l0_4 x141_4).f0), .string ((rd_T35 l0_4 x141_4).f1), .slice A9183_2 ((rd_T35 l0_4 x141_4).f2).length c9183_2, .int .i64 ((rd_T35 l0_4 x141_4).f3), .slice none 0 0]) ?_ 4 _ rfl; (with_reducible repeat (first | refine zN ?_ _ | refine zD ?_ | refine zA ?_ _)); refine blk_put (cs := #[.int .i64 ((rd_T35 l0_4 x141_4).f0), .string ((rd_T35 l0_4 x141_4).f1), .slice A9183_2 ((rd_T35 l0_4 x141_4).f2).length c9183_2, .int .i64 0, .slice none 0 0]) ?_ 3 _ rfl; (with_reducible repeat (first | refine zN ?_ _ | refine zD ?_ | refine zA ?_ _)); refine blk_put (cs := #[.int .i64 ((rd_T35 l0_4 x141_4).f0), .string ((rd_T35 l0_4 x141_4).f1), .slice none 0 0, .int .i64 0, .slice none 0 0]) ?_ 2 _ rfl; (with_reducible repeat (first | refine zN ?_ _ | refine zD ?_ | refine zA ?_ _)); refine blk_put (cs := #[.int .i64 ((rd_T35 l0_4 x141_4).f0), .string (⟨#[]⟩ : ByteArray), .slice none 0 0, .int .i64 0, .slice none 0 0]) ?_ 1 _ rfl; (with_reducible repeat (first | refine zN ?_ _ | refine zD ?_ | refine zA ?_ _)); refine blk_put (cs := #[.int .i64 0, .string (⟨#[]⟩ : ByteArray), .slice none 0 0, .int .i64 0, .slice none 0 0]) ?_ 0 _ rfl; (with_reducible repeat (first | refine zN ?_ _ | refine zD ?_ | refine zA ?_ _)); exact BK9184.out) hb); have n2_ := Aq (below_step (by repeat (first | (with_reducible first | exact HB.out | apply zB | apply zC | apply zE | refine below_set ?_ GE9176.out | refine below_set ?_ GE9184.out) | exact HB.out)) hb); clear BK9176 BK9184 HB; have BK9176 := n0_; have BK9184 := n1_; have HB := n2_; clear n0_ n1_ n2_; (try clear hb); (try clear hb2); (try clear hk); (try clear hi)))
                   go_roundg k4
                   case measure => have := HJ66.out; have := HJ71.out; have := HJ78.out; have := HK4.out; omega
                   case rel => exact ⟨(wrap64 (x5_4 + t9185)), (wrap64 (x141_4 + 1)), (by first | rfl | (simp; done) | (simp [*]; done)), (by first | rfl | (simp; done) | (simp [*]; done)), H', ⟨by have := HJ66.out; have := HJ71.out; have := HJ78.out; have := HK4.out; omega⟩, ⟨by (with_reducible repeat (first | refine zN ?_ _ | refine zD ?_ | refine zA ?_ _)); exact BK9176.out⟩, ⟨by repeat (first | (with_reducible first | exact HB.out | apply zB | apply zC | apply zE | refine below_set ?_ GE9176.out | refine below_set ?_ GE9184.out) | exact HB.out)⟩⟩
                ·rw [if_neg c95] at H
                 exact absurd H (by simp)
               ·rw [if_neg c94] at H
                exact absurd H (by simp)
              ·rw [if_neg c93] at H
               have c93b0 : decide (x141_4 < (l0_4.length : Int)) = false := decide_eq_false c93
               clear c93
               obtain rfl := Option.some.inj H
               go_wp2
               go_ret
               exact ⟨by first | rfl | (simp [errW_none, errW_some] <;> rfl) | (simp [*, errW_none, errW_some] <;> rfl), by repeat (first | (with_reducible first | exact HB.out | apply zB | apply zC | apply zE | refine below_set ?_ GE9176.out) | exact HB.out)⟩
      ·replace c71 := Bool.eq_false_iff.mpr c71
       subst c71
       have H1 : (some (-1)) = some r := by rw [if_neg (show ¬ (false = true) by decide)] at H; exact H
       clear H
       have H := H1
       clear H1
       obtain rfl := Option.some.inj H
       go_wp2
       go_ret
       exact ⟨by first | rfl | (simp [errW_none, errW_some] <;> rfl) | (simp [*, errW_none, errW_some] <;> rfl), by repeat (first | (with_reducible first | exact HB.out | apply zB | apply zC | apply zE | refine below_set ?_ GE9176.out) | exact HB.out)⟩
end Go.Proofs.YtmdhanegafclmaaDoor.PFnExactExpShow
