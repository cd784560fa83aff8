-- Laid by a program of this session (wip/tools/mkprint2.py, which turns a copy of the print); not the kit print itself.
import Derived.Test.YtmdhanegafclmaaPFnExactExpAlphax0
import Derived.Test.YtmdhanegafclmaaPFnExactExpAlphax1
namespace Go.Proofs.Ytmdhanegafclmaa.PFnExactExpAlpha
open Go.RowKit Go.Proofs.YtmdhanegafclmaaW.PrintWords Go.Proofs.YtmdhanegafclmaaW.PrintLast Go.Proofs.YtmdhanegafclmaaW.PrintMore
attribute [local go_sem] max2_int min2_int max_two min_two max_three min_three max_four min_four   -- for this text's walks alone
set_option linter.unusedVariables false
set_option linter.unusedSimpArgs false

/-! ### spec_l5Alpha: function 42 -/
mutual
def spec_l5Alpha.j0 : Nat → List (S125) → Bool → Int → ByteArray → Bool → List ByteArray → List (S51) → Int → ByteArray → Bool → List ByteArray → List (S51) → Option (Bool)
  | 0, _, _, _, _, _, _, _, _, _, _, _, _ => none
  | k + 1, x0, x37, x3121000, x3121001, x3121002, x3121003, x3121004, x3122000, x3122001, x3122002, x3122003, x3122004 => if x37 = true then (some false) else (if x3121000 = 2 then (spec_l5Alpha.j1 k x0 true x3121000 x3121001 x3121002 x3121003 x3121004 x3122000 x3122001 x3122002 x3122003 x3122004) else (if x3121000 = 6 then (spec_l5Alpha.j1 k x0 true x3121000 x3121001 x3121002 x3121003 x3121004 x3122000 x3122001 x3122002 x3122003 x3122004) else (spec_l5Alpha.j1 k x0 (x3121000 == 9) x3121000 x3121001 x3121002 x3121003 x3121004 x3122000 x3122001 x3122002 x3122003 x3122004)))
def spec_l5Alpha.j1 : Nat → List (S125) → Bool → Int → ByteArray → Bool → List ByteArray → List (S51) → Int → ByteArray → Bool → List ByteArray → List (S51) → Option (Bool)
  | 0, _, _, _, _, _, _, _, _, _, _, _, _ => none
  | k + 1, x0, x50, x3121000, x3121001, x3121002, x3121003, x3121004, x3122000, x3122001, x3122002, x3122003, x3122004 => if x50 = true then ((spec_l5Name.f k x0 x3121001 x3122001).bind fun t3122 => (if t3122 = true then (spec_l5Alpha.j2 k x0 x3121000 x3121001 x3121002 x3121003 x3121004 x3122000 x3122001 x3122002 x3122003 x3122004) else (some false))) else (if x3121001.toList = x3122001.toList then (spec_l5Alpha.j2 k x0 x3121000 x3121001 x3121002 x3121003 x3121004 x3122000 x3122001 x3122002 x3122003 x3122004) else (some false))
def spec_l5Alpha.j2 : Nat → List (S125) → Int → ByteArray → Bool → List ByteArray → List (S51) → Int → ByteArray → Bool → List ByteArray → List (S51) → Option (Bool)
  | 0, _, _, _, _, _, _, _, _, _, _, _ => none
  | k + 1, x0, x3121000, x3121001, x3121002, x3121003, x3121004, x3122000, x3122001, x3122002, x3122003, x3122004 => (spec_l5Bound.f k x0 x3121003 x3122003).bind fun t3123 => (spec_l5Alpha.l0 k t3123 0 x3121000 x3121001 x3121002 x3121003 x3121004 x3122000 x3122001 x3122002 x3122003 x3122004)
def spec_l5Alpha.l0 : Nat → List (S125) → Int → Int → ByteArray → Bool → List ByteArray → List (S51) → Int → ByteArray → Bool → List ByteArray → List (S51) → Option (Bool)
  | 0, _, _, _, _, _, _, _, _, _, _, _, _ => none
  | k + 1, x0, x7, x3121000, x3121001, x3121002, x3121003, x3121004, x3122000, x3122001, x3122002, x3122003, x3122004 => if x7 < (x3121004.length : Int) then (if 0 ≤ x7 then (if x7 < (x3122004.length : Int) then ((spec_l5Alpha.f k x0 ((rd_T51 x3121004 x7).f0) ((rd_T51 x3121004 x7).f1) ((rd_T51 x3121004 x7).f2) ((rd_T51 x3121004 x7).f3) ((rd_T51 x3121004 x7).f4) ((rd_T51 x3122004 x7).f0) ((rd_T51 x3122004 x7).f1) ((rd_T51 x3122004 x7).f2) ((rd_T51 x3122004 x7).f3) ((rd_T51 x3122004 x7).f4)).bind fun t3128 => (if t3128 = true then (spec_l5Alpha.l0 k x0 (wrap64 (x7 + 1)) x3121000 x3121001 x3121002 x3121003 x3121004 x3122000 x3122001 x3122002 x3122003 x3122004) else (some false))) else (none)) else (none)) else (some true)
def spec_l5Alpha.f : Nat → List (S125) → Int → ByteArray → Bool → List ByteArray → List (S51) → Int → ByteArray → Bool → List ByteArray → List (S51) → Option (Bool)
  | 0, _, _, _, _, _, _, _, _, _, _, _ => none
  | k + 1, l0, a1_0, a1_1, a1_2, l1_3, l1_4, a2_0, a2_1, a2_2, l2_3, l2_4 => if a1_0 = a2_0 then (if (a1_2 != a2_2) = true then (spec_l5Alpha.j0 k l0 true a1_0 a1_1 a1_2 l1_3 l1_4 a2_0 a2_1 a2_2 l2_3 l2_4) else (if (l1_3.length : Int) = (l2_3.length : Int) then (spec_l5Alpha.j0 k l0 ((l1_4.length : Int) != (l2_4.length : Int)) a1_0 a1_1 a1_2 l1_3 l1_4 a2_0 a2_1 a2_2 l2_3 l2_4) else (spec_l5Alpha.j0 k l0 true a1_0 a1_1 a1_2 l1_3 l1_4 a2_0 a2_1 a2_2 l2_3 l2_4))) else (spec_l5Alpha.j0 k l0 true a1_0 a1_1 a1_2 l1_3 l1_4 a2_0 a2_1 a2_2 l2_3 l2_4)
end
theorem spec_l5Alpha.mono_l : ∀ k, (∀ y0 y1 y2 y3 y4 y5 y6 y7 y8 y9 y10, LeO (spec_l5Alpha.f k y0 y1 y2 y3 y4 y5 y6 y7 y8 y9 y10) (spec_l5Alpha.f (k + 1) y0 y1 y2 y3 y4 y5 y6 y7 y8 y9 y10)) ∧ (∀ y0 y1 y2 y3 y4 y5 y6 y7 y8 y9 y10 y11, LeO (spec_l5Alpha.j0 k y0 y1 y2 y3 y4 y5 y6 y7 y8 y9 y10 y11) (spec_l5Alpha.j0 (k + 1) y0 y1 y2 y3 y4 y5 y6 y7 y8 y9 y10 y11)) ∧ (∀ y0 y1 y2 y3 y4 y5 y6 y7 y8 y9 y10 y11, LeO (spec_l5Alpha.j1 k y0 y1 y2 y3 y4 y5 y6 y7 y8 y9 y10 y11) (spec_l5Alpha.j1 (k + 1) y0 y1 y2 y3 y4 y5 y6 y7 y8 y9 y10 y11)) ∧ (∀ y0 y1 y2 y3 y4 y5 y6 y7 y8 y9 y10, LeO (spec_l5Alpha.j2 k y0 y1 y2 y3 y4 y5 y6 y7 y8 y9 y10) (spec_l5Alpha.j2 (k + 1) y0 y1 y2 y3 y4 y5 y6 y7 y8 y9 y10)) ∧ (∀ y0 y1 y2 y3 y4 y5 y6 y7 y8 y9 y10 y11, LeO (spec_l5Alpha.l0 k y0 y1 y2 y3 y4 y5 y6 y7 y8 y9 y10 y11) (spec_l5Alpha.l0 (k + 1) y0 y1 y2 y3 y4 y5 y6 y7 y8 y9 y10 y11))
  | 0 => ⟨fun _ _ _ _ _ _ _ _ _ _ _ r h => by simp [spec_l5Alpha.f] at h, fun _ _ _ _ _ _ _ _ _ _ _ _ r h => by simp [spec_l5Alpha.j0] at h, fun _ _ _ _ _ _ _ _ _ _ _ _ r h => by simp [spec_l5Alpha.j1] at h, fun _ _ _ _ _ _ _ _ _ _ _ r h => by simp [spec_l5Alpha.j2] at h, fun _ _ _ _ _ _ _ _ _ _ _ _ r h => by simp [spec_l5Alpha.l0] at h⟩
  | k + 1 => by
    obtain ⟨ih0, ih1, ih2, ih3, ih4⟩ := spec_l5Alpha.mono_l k
    refine ⟨?_, ?_, ?_, ?_, ?_⟩
    · intro y0 y1 y2 y3 y4 y5 y6 y7 y8 y9 y10
      unfold spec_l5Alpha.f
      repeat' first
      | (with_reducible exact ih0 _ _ _ _ _ _ _ _ _ _ _)
      | (with_reducible exact ih1 _ _ _ _ _ _ _ _ _ _ _ _)
      | (with_reducible exact ih2 _ _ _ _ _ _ _ _ _ _ _ _)
      | (with_reducible exact ih3 _ _ _ _ _ _ _ _ _ _ _)
      | (with_reducible exact ih4 _ _ _ _ _ _ _ _ _ _ _ _)
      | (with_reducible exact spec_l5Bound.mono _ _ _ _)
      | (with_reducible exact spec_l5Name.mono _ _ _ _)
      | (with_reducible exact LeO.refl _)
      | (with_reducible exact LeO.none _)
      | (with_reducible refine LeO.ite ?_ ?_)
      | (with_reducible refine LeO.bind ?_ (fun _ => ?_))
      | exact ih0 _ _ _ _ _ _ _ _ _ _ _
      | exact ih1 _ _ _ _ _ _ _ _ _ _ _ _
      | exact ih2 _ _ _ _ _ _ _ _ _ _ _ _
      | exact ih3 _ _ _ _ _ _ _ _ _ _ _
      | exact ih4 _ _ _ _ _ _ _ _ _ _ _ _
      | exact spec_l5Bound.mono _ _ _ _
      | exact spec_l5Name.mono _ _ _ _
      | exact LeO.none _
      | refine LeO.ite ?_ ?_
      | refine LeO.bind ?_ (fun _ => ?_)
    · intro y0 y1 y2 y3 y4 y5 y6 y7 y8 y9 y10 y11
      unfold spec_l5Alpha.j0
      repeat' first
      | (with_reducible exact ih0 _ _ _ _ _ _ _ _ _ _ _)
      | (with_reducible exact ih1 _ _ _ _ _ _ _ _ _ _ _ _)
      | (with_reducible exact ih2 _ _ _ _ _ _ _ _ _ _ _ _)
      | (with_reducible exact ih3 _ _ _ _ _ _ _ _ _ _ _)
      | (with_reducible exact ih4 _ _ _ _ _ _ _ _ _ _ _ _)
      | (with_reducible exact spec_l5Bound.mono _ _ _ _)
      | (with_reducible exact spec_l5Name.mono _ _ _ _)
      | (with_reducible exact LeO.refl _)
      | (with_reducible exact LeO.none _)
      | (with_reducible refine LeO.ite ?_ ?_)
      | (with_reducible refine LeO.bind ?_ (fun _ => ?_))
      | exact ih0 _ _ _ _ _ _ _ _ _ _ _
      | exact ih1 _ _ _ _ _ _ _ _ _ _ _ _
      | exact ih2 _ _ _ _ _ _ _ _ _ _ _ _
      | exact ih3 _ _ _ _ _ _ _ _ _ _ _
      | exact ih4 _ _ _ _ _ _ _ _ _ _ _ _
      | exact spec_l5Bound.mono _ _ _ _
      | exact spec_l5Name.mono _ _ _ _
      | exact LeO.none _
      | refine LeO.ite ?_ ?_
      | refine LeO.bind ?_ (fun _ => ?_)
    · intro y0 y1 y2 y3 y4 y5 y6 y7 y8 y9 y10 y11
      unfold spec_l5Alpha.j1
      repeat' first
      | (with_reducible exact ih0 _ _ _ _ _ _ _ _ _ _ _)
      | (with_reducible exact ih1 _ _ _ _ _ _ _ _ _ _ _ _)
      | (with_reducible exact ih2 _ _ _ _ _ _ _ _ _ _ _ _)
      | (with_reducible exact ih3 _ _ _ _ _ _ _ _ _ _ _)
      | (with_reducible exact ih4 _ _ _ _ _ _ _ _ _ _ _ _)
      | (with_reducible exact spec_l5Bound.mono _ _ _ _)
      | (with_reducible exact spec_l5Name.mono _ _ _ _)
      | (with_reducible exact LeO.refl _)
      | (with_reducible exact LeO.none _)
      | (with_reducible refine LeO.ite ?_ ?_)
      | (with_reducible refine LeO.bind ?_ (fun _ => ?_))
      | exact ih0 _ _ _ _ _ _ _ _ _ _ _
      | exact ih1 _ _ _ _ _ _ _ _ _ _ _ _
      | exact ih2 _ _ _ _ _ _ _ _ _ _ _ _
      | exact ih3 _ _ _ _ _ _ _ _ _ _ _
      | exact ih4 _ _ _ _ _ _ _ _ _ _ _ _
      | exact spec_l5Bound.mono _ _ _ _
      | exact spec_l5Name.mono _ _ _ _
      | exact LeO.none _
      | refine LeO.ite ?_ ?_
      | refine LeO.bind ?_ (fun _ => ?_)
    · intro y0 y1 y2 y3 y4 y5 y6 y7 y8 y9 y10
      unfold spec_l5Alpha.j2
      repeat' first
      | (with_reducible exact ih0 _ _ _ _ _ _ _ _ _ _ _)
      | (with_reducible exact ih1 _ _ _ _ _ _ _ _ _ _ _ _)
      | (with_reducible exact ih2 _ _ _ _ _ _ _ _ _ _ _ _)
      | (with_reducible exact ih3 _ _ _ _ _ _ _ _ _ _ _)
      | (with_reducible exact ih4 _ _ _ _ _ _ _ _ _ _ _ _)
      | (with_reducible exact spec_l5Bound.mono _ _ _ _)
      | (with_reducible exact spec_l5Name.mono _ _ _ _)
      | (with_reducible exact LeO.refl _)
      | (with_reducible exact LeO.none _)
      | (with_reducible refine LeO.ite ?_ ?_)
      | (with_reducible refine LeO.bind ?_ (fun _ => ?_))
      | exact ih0 _ _ _ _ _ _ _ _ _ _ _
      | exact ih1 _ _ _ _ _ _ _ _ _ _ _ _
      | exact ih2 _ _ _ _ _ _ _ _ _ _ _ _
      | exact ih3 _ _ _ _ _ _ _ _ _ _ _
      | exact ih4 _ _ _ _ _ _ _ _ _ _ _ _
      | exact spec_l5Bound.mono _ _ _ _
      | exact spec_l5Name.mono _ _ _ _
      | exact LeO.none _
      | refine LeO.ite ?_ ?_
      | refine LeO.bind ?_ (fun _ => ?_)
    · intro y0 y1 y2 y3 y4 y5 y6 y7 y8 y9 y10 y11
      unfold spec_l5Alpha.l0
      repeat' first
      | (with_reducible exact ih0 _ _ _ _ _ _ _ _ _ _ _)
      | (with_reducible exact ih1 _ _ _ _ _ _ _ _ _ _ _ _)
      | (with_reducible exact ih2 _ _ _ _ _ _ _ _ _ _ _ _)
      | (with_reducible exact ih3 _ _ _ _ _ _ _ _ _ _ _)
      | (with_reducible exact ih4 _ _ _ _ _ _ _ _ _ _ _ _)
      | (with_reducible exact spec_l5Bound.mono _ _ _ _)
      | (with_reducible exact spec_l5Name.mono _ _ _ _)
      | (with_reducible exact LeO.refl _)
      | (with_reducible exact LeO.none _)
      | (with_reducible refine LeO.ite ?_ ?_)
      | (with_reducible refine LeO.bind ?_ (fun _ => ?_))
      | exact ih0 _ _ _ _ _ _ _ _ _ _ _
      | exact ih1 _ _ _ _ _ _ _ _ _ _ _ _
      | exact ih2 _ _ _ _ _ _ _ _ _ _ _ _
      | exact ih3 _ _ _ _ _ _ _ _ _ _ _
      | exact ih4 _ _ _ _ _ _ _ _ _ _ _ _
      | exact spec_l5Bound.mono _ _ _ _
      | exact spec_l5Name.mono _ _ _ _
      | exact LeO.none _
      | refine LeO.ite ?_ ?_
      | refine LeO.bind ?_ (fun _ => ?_)
theorem spec_l5Alpha.mono : ∀ a0 a1 a2 a3 a4 a5 a6 a7 a8 a9 a10 k, LeO (spec_l5Alpha.f k a0 a1 a2 a3 a4 a5 a6 a7 a8 a9 a10) (spec_l5Alpha.f (k + 1) a0 a1 a2 a3 a4 a5 a6 a7 a8 a9 a10) := by
  intro a0 a1 a2 a3 a4 a5 a6 a7 a8 a9 a10 k
  obtain ⟨ih0, ih1, ih2, ih3, ih4⟩ := spec_l5Alpha.mono_l k
  exact ih0 a0 a1 a2 a3 a4 a5 a6 a7 a8 a9 a10
def spec_l5Alpha.T12 : Bool × List (List Nat × List Nat) := (true, [([], []), ([], []), ([1], [1]), ([], []), ([2, 3], [2, 3]), ([4], [4]), ([], []), ([6], [6]), ([], []), ([7, 8], [7, 8]), ([9], [9]), ([0, 5, 10], [0, 5, 10]), ([11], [11])])
def spec_l5Alpha.B12 : List Nat := [0, 0, 2, 0, 14, 30, 0, 64, 0, 448, 960, 2047, 4095]
theorem spec_l5Alpha.tab12 : rtab .any (opsOf Try.f42 12) = spec_l5Alpha.T12 := by kernel_rfl
theorem spec_l5Alpha.bits12 : waitsOk spec_l5Alpha.T12.2 spec_l5Alpha.B12 = true := by kernel_rfl
set_option maxHeartbeats 8000000 in
set_option maxRecDepth 100000 in
theorem spec_l5Alpha.calls (k : Nat) : ∀ (A0 : Option Addr) (c0 : Nat) (l0 : List (S125)) (a1_0 : Int) (a1_1 : ByteArray) (a1_2 : Bool) (A1_3 : Option Addr) (c1_3 : Nat) (l1_3 : List ByteArray) (A1_4 : Option Addr) (c1_4 : Nat) (l1_4 : List (S51)) (a2_0 : Int) (a2_1 : ByteArray) (a2_2 : Bool) (A2_3 : Option Addr) (c2_3 : Nat) (l2_3 : List ByteArray) (A2_4 : Option Addr) (c2_4 : Nat) (l2_4 : List (S51)) (r : Bool) (w : World) (hr0 : Kd.C k125 w A0 l0.length l0) (hc0 : l0.length ≤ c0) (hr1_3 : Kd.C Kd.string w A1_3 l1_3.length l1_3) (hc1_3 : l1_3.length ≤ c1_3) (hr1_4 : Kd.C k51 w A1_4 l1_4.length l1_4) (hc1_4 : l1_4.length ≤ c1_4) (hr2_3 : Kd.C Kd.string w A2_3 l2_3.length l2_3) (hc2_3 : l2_3.length ≤ c2_3) (hr2_4 : Kd.C k51 w A2_4 l2_4.length l2_4) (hc2_4 : l2_4.length ≤ c2_4) (h : spec_l5Alpha.f k l0 a1_0 a1_1 a1_2 l1_3 l1_4 a2_0 a2_1 a2_2 l2_3 l2_4 = some r),
    Calls Try.prog 42 #[.slice A0 l0.length c0, .agg #[.int .i64 a1_0, .string a1_1, .bool a1_2, .slice A1_3 l1_3.length c1_3, .slice A1_4 l1_4.length c1_4], .agg #[.int .i64 a2_0, .string a2_1, .bool a2_2, .slice A2_3 l2_3.length c2_3, .slice A2_4 l2_4.length c2_4]] w fun e w' => e = .returned (.bool r) ∧ Below w.heap.size w w' := by
  induction k using Nat.strongRecOn with
  | _ k ih =>
  intro A0 c0 l0 a1_0 a1_1 a1_2 A1_3 c1_3 l1_3 A1_4 c1_4 l1_4 a2_0 a2_1 a2_2 A2_3 c2_3 l2_3 A2_4 c2_4 l2_4 r w hr0 hc0 hr1_3 hc1_3 hr1_4 hc1_4 hr2_3 hc2_3 hr2_4 hc2_4 h
  cases k with
  | zero => exact absurd h (by simp [spec_l5Alpha.f])
  | succ k =>
  simp only [spec_l5Alpha.f] at h
  have hu51 := Try.underlying51
  have HR0 := Aside0.mk hr0
  have HC0 := Aside0.mk hc0
  clear hr0 hc0
  have HR1_3 := Aside0.mk hr1_3
  have HC1_3 := Aside0.mk hc1_3
  clear hr1_3 hc1_3
  have HR1_4 := Aside0.mk hr1_4
  have HC1_4 := Aside0.mk hc1_4
  clear hr1_4 hc1_4
  have HR2_3 := Aside0.mk hr2_3
  have HC2_3 := Aside0.mk hc2_3
  clear hr2_3 hc2_3
  have HR2_4 := Aside0.mk hr2_4
  have HC2_4 := Aside0.mk hc2_4
  clear hr2_4 hc2_4
  have HB := Aside0.mk (Below.refl w.heap.size w)
  have H : (if a1_0 = a2_0 then (if (a1_2 != a2_2) = true then (spec_l5Alpha.j0 k l0 true a1_0 a1_1 a1_2 l1_3 l1_4 a2_0 a2_1 a2_2 l2_3 l2_4) else (if (l1_3.length : Int) = (l2_3.length : Int) then (spec_l5Alpha.j0 k l0 ((l1_4.length : Int) != (l2_4.length : Int)) a1_0 a1_1 a1_2 l1_3 l1_4 a2_0 a2_1 a2_2 l2_3 l2_4) else (spec_l5Alpha.j0 k l0 true a1_0 a1_1 a1_2 l1_3 l1_4 a2_0 a2_1 a2_2 l2_3 l2_4))) else (spec_l5Alpha.j0 k l0 true a1_0 a1_1 a1_2 l1_3 l1_4 a2_0 a2_1 a2_2 l2_3 l2_4)) = some r := h
  clear h
  have HC4 := Aside0.mk H
  clear H
  go_enter Try.func42, Try.ntmps42
  go_upto_region 1 with (first | ((with_reducible refine gate_dst (N := 4) rfl ?_); (try (refine gate_guard (by rfl) ?_; dsimp only)); refine box_event ?hg (N := 4) ?hd (cs := #[.int .i64 a1_0, .string a1_1, .bool a1_2, .slice A1_3 l1_3.length c1_3, .slice A1_4 l1_4.length c1_4]) (t := 51) ?hr ?_; (case hd => rfl); (case hg => rfl); (case hr => first | (go_simp; done) | (go_simp; rfl)); intro gb3120 hg w5 hbox hb; have n0_ := Aside0.mk (below_step (by repeat (first | (with_reducible first | exact HB.out | apply below_alloc | apply pw_below_drewN | apply below_drew1) | exact HB.out)) hb); have n1_ := Aside0.mk (hbox); have n2_ := Aside0.mk ((by rw [hg]; exact (below_size (by repeat (first | (with_reducible first | exact HB.out | apply below_alloc | apply pw_below_drewN | apply below_drew1) | exact HB.out))) : w.heap.size ≤ gb3120)); have n3_ := Aside0.mk ((by rw [hg]; exact (below_size (by repeat (first | (with_reducible first | exact HB.out | apply below_alloc | apply pw_below_drewN | apply below_drew1) | exact HB.out))) : w.heap.size ≤ gb3120)); clear HB; have HB := n0_; have BK3120 := n1_; have GW3120 := n2_; have GE3120 := n3_; clear n0_ n1_ n2_ n3_; clear hb hbox hg) | ((with_reducible refine gate_dst (N := 5) rfl ?_); (try (refine gate_guard (by rfl) ?_; dsimp only)); refine box_event ?hg (N := 5) ?hd (cs := #[.int .i64 a2_0, .string a2_1, .bool a2_2, .slice A2_3 l2_3.length c2_3, .slice A2_4 l2_4.length c2_4]) (t := 51) ?hr ?_; (case hd => rfl); (case hg => rfl); (case hr => first | (go_simp; done) | (go_simp; rfl)); intro gb3121 hg w6 hbox hb; have n0_ := Aside0.mk (blk_below (g := gb3120) (o := .cells #[.int .i64 a1_0, .string a1_1, .bool a1_2, .slice A1_3 l1_3.length c1_3, .slice A1_4 l1_4.length c1_4] 51 (0, 0)) (by (with_reducible repeat (first | refine blk_drewN ?_ _ | refine blk_drew ?_ | refine blk_alloc ?_ _)); exact BK3120.out) hb); have n1_ := Aside0.mk (below_step (by repeat (first | (with_reducible first | exact HB.out | apply below_alloc | apply pw_below_drewN | apply below_drew1 | refine below_set ?_ GE3120.out) | exact HB.out)) hb); have n2_ := Aside0.mk (hbox); have n3_ := Aside0.mk ((by rw [hg]; exact (below_size (by repeat (first | (with_reducible first | exact HB.out | apply below_alloc | apply pw_below_drewN | apply below_drew1 | refine below_set ?_ GE3120.out) | exact HB.out))) : w.heap.size ≤ gb3121)); have n4_ := Aside0.mk ((by rw [hg]; exact (below_size (by repeat (first | (with_reducible first | exact HB.out | apply below_alloc | apply pw_below_drewN | apply below_drew1 | refine below_set ?_ GE3120.out) | exact HB.out))) : w.heap.size ≤ gb3121)); have n5_ := Aside0.mk ((by rw [hg]; exact Nat.ne_of_lt (blk_lt (g := gb3120) (o := .cells #[.int .i64 a1_0, .string a1_1, .bool a1_2, .slice A1_3 l1_3.length c1_3, .slice A1_4 l1_4.length c1_4] 51 (0, 0)) (by (with_reducible repeat (first | refine blk_drewN ?_ _ | refine blk_drew ?_ | refine blk_alloc ?_ _)); exact BK3120.out)) : gb3120 ≠ gb3121)); have n6_ := Aside0.mk ((by rw [hg]; exact Nat.ne_of_gt (blk_lt (g := gb3120) (o := .cells #[.int .i64 a1_0, .string a1_1, .bool a1_2, .slice A1_3 l1_3.length c1_3, .slice A1_4 l1_4.length c1_4] 51 (0, 0)) (by (with_reducible repeat (first | refine blk_drewN ?_ _ | refine blk_drew ?_ | refine blk_alloc ?_ _)); exact BK3120.out)) : gb3121 ≠ gb3120)); clear BK3120; clear HB; have BK3120 := n0_; have HB := n1_; have BK3121 := n2_; have GW3121 := n3_; have GE3121 := n4_; have NB3120_3121 := n5_; have NB3121_3120 := n6_; clear n0_ n1_ n2_ n3_ n4_ n5_ n6_; clear hb hbox hg))
  (try simp only [Act.put, List.setIfInBounds_toArray, List.set_cons_zero, List.set_cons_succ])
  go_cut [37] (fun v37 wc => ∃ (kq : Nat) (x37_3 : Bool), v37 = .bool x37_3 ∧ Aside0 (spec_l5Alpha.j0 kq l0 x37_3 a1_0 a1_1 a1_2 l1_3 l1_4 a2_0 a2_1 a2_2 l2_3 l2_4 = some r) ∧ Aside0 (kq ≤ k) ∧ Aside0 (wc.heap[gb3120]? = some (.cells #[.int .i64 a1_0, .string a1_1, .bool a1_2, (.slice A1_3 l1_3.length c1_3), (.slice A1_4 l1_4.length c1_4)] 51 (0, 0))) ∧ Aside0 (wc.heap[gb3121]? = some (.cells #[.int .i64 a2_0, .string a2_1, .bool a2_2, (.slice A2_3 l2_3.length c2_3), (.slice A2_4 l2_4.length c2_4)] 51 (0, 0))) ∧ Aside0 (Below w.heap.size w wc))
  case first =>
    have H := HC4.out
    clear HC4
    by_cases c7 : a1_0 = a2_0
    · rw [if_pos c7] at H
      have c7b0 : (a1_0 == a2_0) = true := beq_iff_eq.mpr c7
      have c7b1 : (a1_0 != a2_0) = false := bne_eq_false_iff_eq.mpr c7
      clear c7
      (first | rw [c7b0] | (simp only [i64_w, i32_w]; rw [c7b0]) | skip)
      by_cases c8 : (a1_2 != a2_2) = true
      · rw [if_pos c8] at H
        have c8b0 : (a1_2 != a2_2) = true := c8
        (try (have c8b1 : decide (a1_2 = a2_2) = false := by simpa using c8))
        (try (have c8b2 : (a1_2 == a2_2) = false := by simpa using c8))
        (try (have c8b3 : ¬ (a1_2 = a2_2) := by simpa using c8))
        clear c8
        have H' := Aside0.mk H
        clear H
        have hnb9 := NB3120_3121.out
        have hnc9 := NB3121_3120.out
        have hcz10_0 : w6.cell? ⟨gb3120, 0, none⟩ = some (.int .i64 a1_0) := (blk_cell BK3120.out 0).trans rfl
        have hcz10_1 : w6.cell? ⟨gb3120, 1, none⟩ = some (.string a1_1) := (blk_cell BK3120.out 1).trans rfl
        have hcz10_2 : w6.cell? ⟨gb3120, 2, none⟩ = some (.bool a1_2) := (blk_cell BK3120.out 2).trans rfl
        have hcz10_3 : w6.cell? ⟨gb3120, 3, none⟩ = some (.slice A1_3 l1_3.length c1_3) := (blk_cell BK3120.out 3).trans rfl
        have hcz10_4 : w6.cell? ⟨gb3120, 4, none⟩ = some (.slice A1_4 l1_4.length c1_4) := (blk_cell BK3120.out 4).trans rfl
        have hfz10_0 := blk_frozen BK3120.out 0
        have hfz10_1 := blk_frozen BK3120.out 1
        have hfz10_2 := blk_frozen BK3120.out 2
        have hfz10_3 := blk_frozen BK3120.out 3
        have hfz10_4 := blk_frozen BK3120.out 4
        have hcz11_0 : w6.cell? ⟨gb3121, 0, none⟩ = some (.int .i64 a2_0) := (blk_cell BK3121.out 0).trans rfl
        have hcz11_1 : w6.cell? ⟨gb3121, 1, none⟩ = some (.string a2_1) := (blk_cell BK3121.out 1).trans rfl
        have hcz11_2 : w6.cell? ⟨gb3121, 2, none⟩ = some (.bool a2_2) := (blk_cell BK3121.out 2).trans rfl
        have hcz11_3 : w6.cell? ⟨gb3121, 3, none⟩ = some (.slice A2_3 l2_3.length c2_3) := (blk_cell BK3121.out 3).trans rfl
        have hcz11_4 : w6.cell? ⟨gb3121, 4, none⟩ = some (.slice A2_4 l2_4.length c2_4) := (blk_cell BK3121.out 4).trans rfl
        have hfz11_0 := blk_frozen BK3121.out 0
        have hfz11_1 := blk_frozen BK3121.out 1
        have hfz11_2 := blk_frozen BK3121.out 2
        have hfz11_3 := blk_frozen BK3121.out 3
        have hfz11_4 := blk_frozen BK3121.out 4
        go_wp2
        go_meet
        case rel => exact ⟨_, (true), (by first | rfl | (simp; done) | (simp [*]; done)), H', ⟨by first | omega | exact Nat.le_refl _⟩, ⟨by (with_reducible repeat (first | refine blk_drewN ?_ _ | refine blk_drew ?_ | refine blk_alloc ?_ _)); exact BK3120.out⟩, ⟨by (with_reducible repeat (first | refine blk_drewN ?_ _ | refine blk_drew ?_ | refine blk_alloc ?_ _)); exact BK3121.out⟩, ⟨by repeat (first | (with_reducible first | exact HB.out | apply below_alloc | apply pw_below_drewN | apply below_drew1 | refine below_set ?_ GE3120.out | refine below_set ?_ GE3121.out) | exact HB.out)⟩⟩
      · rw [if_neg c8] at H
        have c8b0 : (a1_2 != a2_2) = false := by simpa using c8
        (try (have c8b1 : decide (a1_2 = a2_2) = true := by simpa using c8))
        (try (have c8b2 : (a1_2 == a2_2) = true := by simpa using c8))
        clear c8
        by_cases c12 : (l1_3.length : Int) = (l2_3.length : Int)
        · rw [if_pos c12] at H
          have c12b0 : ((l1_3.length : Int) == (l2_3.length : Int)) = true := beq_iff_eq.mpr c12
          have c12b1 : ((l1_3.length : Int) != (l2_3.length : Int)) = false := bne_eq_false_iff_eq.mpr c12
          have c12b2 : (l1_3.length == l2_3.length) = true := by first | simpa using c12 | (simp at c12 ⊢; omega)
          clear c12
          have H' := Aside0.mk H
          clear H
          have hnb13 := NB3120_3121.out
          have hnc13 := NB3121_3120.out
          have hcz14_0 : w6.cell? ⟨gb3120, 0, none⟩ = some (.int .i64 a1_0) := (blk_cell BK3120.out 0).trans rfl
          have hcz14_1 : w6.cell? ⟨gb3120, 1, none⟩ = some (.string a1_1) := (blk_cell BK3120.out 1).trans rfl
          have hcz14_2 : w6.cell? ⟨gb3120, 2, none⟩ = some (.bool a1_2) := (blk_cell BK3120.out 2).trans rfl
          have hcz14_3 : w6.cell? ⟨gb3120, 3, none⟩ = some (.slice A1_3 l1_3.length c1_3) := (blk_cell BK3120.out 3).trans rfl
          have hcz14_4 : w6.cell? ⟨gb3120, 4, none⟩ = some (.slice A1_4 l1_4.length c1_4) := (blk_cell BK3120.out 4).trans rfl
          have hfz14_0 := blk_frozen BK3120.out 0
          have hfz14_1 := blk_frozen BK3120.out 1
          have hfz14_2 := blk_frozen BK3120.out 2
          have hfz14_3 := blk_frozen BK3120.out 3
          have hfz14_4 := blk_frozen BK3120.out 4
          have hcz15_0 : w6.cell? ⟨gb3121, 0, none⟩ = some (.int .i64 a2_0) := (blk_cell BK3121.out 0).trans rfl
          have hcz15_1 : w6.cell? ⟨gb3121, 1, none⟩ = some (.string a2_1) := (blk_cell BK3121.out 1).trans rfl
          have hcz15_2 : w6.cell? ⟨gb3121, 2, none⟩ = some (.bool a2_2) := (blk_cell BK3121.out 2).trans rfl
          have hcz15_3 : w6.cell? ⟨gb3121, 3, none⟩ = some (.slice A2_3 l2_3.length c2_3) := (blk_cell BK3121.out 3).trans rfl
          have hcz15_4 : w6.cell? ⟨gb3121, 4, none⟩ = some (.slice A2_4 l2_4.length c2_4) := (blk_cell BK3121.out 4).trans rfl
          have hfz15_0 := blk_frozen BK3121.out 0
          have hfz15_1 := blk_frozen BK3121.out 1
          have hfz15_2 := blk_frozen BK3121.out 2
          have hfz15_3 := blk_frozen BK3121.out 3
          have hfz15_4 := blk_frozen BK3121.out 4
          go_wp2
          go_meet
          case rel => exact ⟨_, (((l1_4.length : Int) != (l2_4.length : Int))), (by first | rfl | (simp; done) | (simp [*]; done)), H', ⟨by first | omega | exact Nat.le_refl _⟩, ⟨by (with_reducible repeat (first | refine blk_drewN ?_ _ | refine blk_drew ?_ | refine blk_alloc ?_ _)); exact BK3120.out⟩, ⟨by (with_reducible repeat (first | refine blk_drewN ?_ _ | refine blk_drew ?_ | refine blk_alloc ?_ _)); exact BK3121.out⟩, ⟨by repeat (first | (with_reducible first | exact HB.out | apply below_alloc | apply pw_below_drewN | apply below_drew1 | refine below_set ?_ GE3120.out | refine below_set ?_ GE3121.out) | exact HB.out)⟩⟩
        · rw [if_neg c12] at H
          have c12b0 : ((l1_3.length : Int) == (l2_3.length : Int)) = false := beq_eq_false_iff_ne.mpr c12
          have c12b1 : ((l1_3.length : Int) != (l2_3.length : Int)) = true := bne_iff_ne.mpr c12
          have c12b2 : (l1_3.length == l2_3.length) = false := by first | simpa using c12 | (simp at c12 ⊢; omega)
          have H' := Aside0.mk H
          clear H
          have hnb16 := NB3120_3121.out
          have hnc16 := NB3121_3120.out
          have hcz17_0 : w6.cell? ⟨gb3120, 0, none⟩ = some (.int .i64 a1_0) := (blk_cell BK3120.out 0).trans rfl
          have hcz17_1 : w6.cell? ⟨gb3120, 1, none⟩ = some (.string a1_1) := (blk_cell BK3120.out 1).trans rfl
          have hcz17_2 : w6.cell? ⟨gb3120, 2, none⟩ = some (.bool a1_2) := (blk_cell BK3120.out 2).trans rfl
          have hcz17_3 : w6.cell? ⟨gb3120, 3, none⟩ = some (.slice A1_3 l1_3.length c1_3) := (blk_cell BK3120.out 3).trans rfl
          have hcz17_4 : w6.cell? ⟨gb3120, 4, none⟩ = some (.slice A1_4 l1_4.length c1_4) := (blk_cell BK3120.out 4).trans rfl
          have hfz17_0 := blk_frozen BK3120.out 0
          have hfz17_1 := blk_frozen BK3120.out 1
          have hfz17_2 := blk_frozen BK3120.out 2
          have hfz17_3 := blk_frozen BK3120.out 3
          have hfz17_4 := blk_frozen BK3120.out 4
          have hcz18_0 : w6.cell? ⟨gb3121, 0, none⟩ = some (.int .i64 a2_0) := (blk_cell BK3121.out 0).trans rfl
          have hcz18_1 : w6.cell? ⟨gb3121, 1, none⟩ = some (.string a2_1) := (blk_cell BK3121.out 1).trans rfl
          have hcz18_2 : w6.cell? ⟨gb3121, 2, none⟩ = some (.bool a2_2) := (blk_cell BK3121.out 2).trans rfl
          have hcz18_3 : w6.cell? ⟨gb3121, 3, none⟩ = some (.slice A2_3 l2_3.length c2_3) := (blk_cell BK3121.out 3).trans rfl
          have hcz18_4 : w6.cell? ⟨gb3121, 4, none⟩ = some (.slice A2_4 l2_4.length c2_4) := (blk_cell BK3121.out 4).trans rfl
          have hfz18_0 := blk_frozen BK3121.out 0
          have hfz18_1 := blk_frozen BK3121.out 1
          have hfz18_2 := blk_frozen BK3121.out 2
          have hfz18_3 := blk_frozen BK3121.out 3
          have hfz18_4 := blk_frozen BK3121.out 4
          go_wp2
          go_meet
          case rel => exact ⟨_, (true), (by first | rfl | (simp; done) | (simp [*]; done)), H', ⟨by first | omega | exact Nat.le_refl _⟩, ⟨by (with_reducible repeat (first | refine blk_drewN ?_ _ | refine blk_drew ?_ | refine blk_alloc ?_ _)); exact BK3120.out⟩, ⟨by (with_reducible repeat (first | refine blk_drewN ?_ _ | refine blk_drew ?_ | refine blk_alloc ?_ _)); exact BK3121.out⟩, ⟨by repeat (first | (with_reducible first | exact HB.out | apply below_alloc | apply pw_below_drewN | apply below_drew1 | refine below_set ?_ GE3120.out | refine below_set ?_ GE3121.out) | exact HB.out)⟩⟩
    · rw [if_neg c7] at H
      have c7b0 : (a1_0 == a2_0) = false := beq_eq_false_iff_ne.mpr c7
      have c7b1 : (a1_0 != a2_0) = true := bne_iff_ne.mpr c7
      (first | rw [c7b0] | (simp only [i64_w, i32_w]; rw [c7b0]) | skip)
      have H' := Aside0.mk H
      clear H
      have hnb19 := NB3120_3121.out
      have hnc19 := NB3121_3120.out
      have hcz20_0 : w6.cell? ⟨gb3120, 0, none⟩ = some (.int .i64 a1_0) := (blk_cell BK3120.out 0).trans rfl
      have hcz20_1 : w6.cell? ⟨gb3120, 1, none⟩ = some (.string a1_1) := (blk_cell BK3120.out 1).trans rfl
      have hcz20_2 : w6.cell? ⟨gb3120, 2, none⟩ = some (.bool a1_2) := (blk_cell BK3120.out 2).trans rfl
      have hcz20_3 : w6.cell? ⟨gb3120, 3, none⟩ = some (.slice A1_3 l1_3.length c1_3) := (blk_cell BK3120.out 3).trans rfl
      have hcz20_4 : w6.cell? ⟨gb3120, 4, none⟩ = some (.slice A1_4 l1_4.length c1_4) := (blk_cell BK3120.out 4).trans rfl
      have hfz20_0 := blk_frozen BK3120.out 0
      have hfz20_1 := blk_frozen BK3120.out 1
      have hfz20_2 := blk_frozen BK3120.out 2
      have hfz20_3 := blk_frozen BK3120.out 3
      have hfz20_4 := blk_frozen BK3120.out 4
      have hcz21_0 : w6.cell? ⟨gb3121, 0, none⟩ = some (.int .i64 a2_0) := (blk_cell BK3121.out 0).trans rfl
      have hcz21_1 : w6.cell? ⟨gb3121, 1, none⟩ = some (.string a2_1) := (blk_cell BK3121.out 1).trans rfl
      have hcz21_2 : w6.cell? ⟨gb3121, 2, none⟩ = some (.bool a2_2) := (blk_cell BK3121.out 2).trans rfl
      have hcz21_3 : w6.cell? ⟨gb3121, 3, none⟩ = some (.slice A2_3 l2_3.length c2_3) := (blk_cell BK3121.out 3).trans rfl
      have hcz21_4 : w6.cell? ⟨gb3121, 4, none⟩ = some (.slice A2_4 l2_4.length c2_4) := (blk_cell BK3121.out 4).trans rfl
      have hfz21_0 := blk_frozen BK3121.out 0
      have hfz21_1 := blk_frozen BK3121.out 1
      have hfz21_2 := blk_frozen BK3121.out 2
      have hfz21_3 := blk_frozen BK3121.out 3
      have hfz21_4 := blk_frozen BK3121.out 4
      go_wp2
      go_meet
      case rel => exact ⟨_, (true), (by first | rfl | (simp; done) | (simp [*]; done)), H', ⟨by first | omega | exact Nat.le_refl _⟩, ⟨by (with_reducible repeat (first | refine blk_drewN ?_ _ | refine blk_drew ?_ | refine blk_alloc ?_ _)); exact BK3120.out⟩, ⟨by (with_reducible repeat (first | refine blk_drewN ?_ _ | refine blk_drew ?_ | refine blk_alloc ?_ _)); exact BK3121.out⟩, ⟨by repeat (first | (with_reducible first | exact HB.out | apply below_alloc | apply pw_below_drewN | apply below_drew1 | refine below_set ?_ GE3120.out | refine below_set ?_ GE3121.out) | exact HB.out)⟩⟩
  case rest =>
    clear HC4
    try clear c1
    try clear c2
    try clear p2
    try clear c4
    try clear c7
    try clear c7b0
    try clear c7b1
    try clear c8
    try clear c8b0
    try clear c8b1
    try clear c8b2
    try clear c9
    try clear c12
    try clear c12b0
    try clear c12b1
    try clear c12b2
    try clear c13
    try clear c16
    try clear c19
    try clear hcz10_0
    try clear hcz10_1
    try clear hcz10_2
    try clear hcz10_3
    try clear hcz10_4
    try clear hcz11_0
    try clear hcz11_1
    try clear hcz11_2
    try clear hcz11_3
    try clear hcz11_4
    try clear hcz14_0
    try clear hcz14_1
    try clear hcz14_2
    try clear hcz14_3
    try clear hcz14_4
    try clear hcz15_0
    try clear hcz15_1
    try clear hcz15_2
    try clear hcz15_3
    try clear hcz15_4
    try clear hcz17_0
    try clear hcz17_1
    try clear hcz17_2
    try clear hcz17_3
    try clear hcz17_4
    try clear hcz18_0
    try clear hcz18_1
    try clear hcz18_2
    try clear hcz18_3
    try clear hcz18_4
    try clear hcz20_0
    try clear hcz20_1
    try clear hcz20_2
    try clear hcz20_3
    try clear hcz20_4
    try clear hcz21_0
    try clear hcz21_1
    try clear hcz21_2
    try clear hcz21_3
    try clear hcz21_4
    try clear hfz10_0
    try clear hfz10_1
    try clear hfz10_2
    try clear hfz10_3
    try clear hfz10_4
    try clear hfz11_0
    try clear hfz11_1
    try clear hfz11_2
    try clear hfz11_3
    try clear hfz11_4
    try clear hfz14_0
    try clear hfz14_1
    try clear hfz14_2
    try clear hfz14_3
    try clear hfz14_4
    try clear hfz15_0
    try clear hfz15_1
    try clear hfz15_2
    try clear hfz15_3
    try clear hfz15_4
    try clear hfz17_0
    try clear hfz17_1
    try clear hfz17_2
    try clear hfz17_3
    try clear hfz17_4
    try clear hfz18_0
    try clear hfz18_1
    try clear hfz18_2
    try clear hfz18_3
    try clear hfz18_4
    try clear hfz20_0
    try clear hfz20_1
    try clear hfz20_2
    try clear hfz20_3
    try clear hfz20_4
    try clear hfz21_0
    try clear hfz21_1
    try clear hfz21_2
    try clear hfz21_3
    try clear hfz21_4
    obtain ⟨kq, x37_3, rfl, HA, HJ3, BK3120, BK3121, HB⟩ := hcut
    cases kq with
    | zero => exact absurd HA.out (by simp [spec_l5Alpha.j0])
    | succ kj3 =>
      have H := HA.out
      clear HA
      simp only [spec_l5Alpha.j0] at H
      by_cases c22 : x37_3 = true
      · subst c22
        have H1 : (some false) = some r := by rw [if_pos rfl] at H; exact H
        clear H
        have H := H1
        clear H1
        obtain rfl := Option.some.inj H
        go_wp2
        go_ret
        exact ⟨by first | rfl | (simp [errW_none, errW_some] <;> rfl) | (simp [*, errW_none, errW_some] <;> rfl), by repeat (first | (with_reducible first | exact HB.out | apply below_alloc | apply pw_below_drewN | apply below_drew1 | refine below_set ?_ GE3120.out | refine below_set ?_ GE3121.out) | exact HB.out)⟩
      · replace c22 := Bool.eq_false_iff.mpr c22
        subst c22
        have H1 : (if a1_0 = 2 then (spec_l5Alpha.j1 kj3 l0 true a1_0 a1_1 a1_2 l1_3 l1_4 a2_0 a2_1 a2_2 l2_3 l2_4) else (if a1_0 = 6 then (spec_l5Alpha.j1 kj3 l0 true a1_0 a1_1 a1_2 l1_3 l1_4 a2_0 a2_1 a2_2 l2_3 l2_4) else (spec_l5Alpha.j1 kj3 l0 (a1_0 == 9) a1_0 a1_1 a1_2 l1_3 l1_4 a2_0 a2_1 a2_2 l2_3 l2_4))) = some r := by rw [if_neg (show ¬ (false = true) by decide)] at H; exact H
        clear H
        have H := H1
        clear H1
        have HC23 := Aside0.mk H
        clear H
        go_upto_region 3 with (fail)
        go_cut [50] (fun v50 wc => ∃ (kq : Nat) (x50_22 : Bool), v50 = .bool x50_22 ∧ Aside0 (spec_l5Alpha.j1 kq l0 x50_22 a1_0 a1_1 a1_2 l1_3 l1_4 a2_0 a2_1 a2_2 l2_3 l2_4 = some r) ∧ Aside0 (kq ≤ kj3) ∧ Aside0 (wc.heap[gb3120]? = some (.cells #[.int .i64 a1_0, .string a1_1, .bool a1_2, (.slice A1_3 l1_3.length c1_3), (.slice A1_4 l1_4.length c1_4)] 51 (0, 0))) ∧ Aside0 (wc.heap[gb3121]? = some (.cells #[.int .i64 a2_0, .string a2_1, .bool a2_2, (.slice A2_3 l2_3.length c2_3), (.slice A2_4 l2_4.length c2_4)] 51 (0, 0))) ∧ Aside0 (Below w.heap.size w wc))
        case first =>
          have H := HC23.out
          clear HC23
          by_cases c24 : a1_0 = 2
          · rw [if_pos c24] at H
            have c24b0 : (a1_0 == 2) = true := beq_iff_eq.mpr c24
            have c24b1 : (a1_0 != 2) = false := bne_eq_false_iff_eq.mpr c24
            clear c24
            (first | rw [c24b0] | (simp only [i64_w, i32_w]; rw [c24b0]) | skip)
            have H' := Aside0.mk H
            clear H
            have hnb25 := NB3120_3121.out
            have hnc25 := NB3121_3120.out
            have hcz26_0 : wc.cell? ⟨gb3120, 0, none⟩ = some (.int .i64 a1_0) := (blk_cell BK3120.out 0).trans rfl
            have hcz26_1 : wc.cell? ⟨gb3120, 1, none⟩ = some (.string a1_1) := (blk_cell BK3120.out 1).trans rfl
            have hcz26_2 : wc.cell? ⟨gb3120, 2, none⟩ = some (.bool a1_2) := (blk_cell BK3120.out 2).trans rfl
            have hcz26_3 : wc.cell? ⟨gb3120, 3, none⟩ = some (.slice A1_3 l1_3.length c1_3) := (blk_cell BK3120.out 3).trans rfl
            have hcz26_4 : wc.cell? ⟨gb3120, 4, none⟩ = some (.slice A1_4 l1_4.length c1_4) := (blk_cell BK3120.out 4).trans rfl
            have hfz26_0 := blk_frozen BK3120.out 0
            have hfz26_1 := blk_frozen BK3120.out 1
            have hfz26_2 := blk_frozen BK3120.out 2
            have hfz26_3 := blk_frozen BK3120.out 3
            have hfz26_4 := blk_frozen BK3120.out 4
            go_wp2
            go_meet
            case rel => exact ⟨_, (true), (by first | rfl | (simp; done) | (simp [*]; done)), H', ⟨by have := HJ3.out; first | omega | exact Nat.le_refl _⟩, ⟨by (with_reducible repeat (first | refine blk_drewN ?_ _ | refine blk_drew ?_ | refine blk_alloc ?_ _)); exact BK3120.out⟩, ⟨by (with_reducible repeat (first | refine blk_drewN ?_ _ | refine blk_drew ?_ | refine blk_alloc ?_ _)); exact BK3121.out⟩, ⟨by repeat (first | (with_reducible first | exact HB.out | apply below_alloc | apply pw_below_drewN | apply below_drew1 | refine below_set ?_ GE3120.out | refine below_set ?_ GE3121.out) | exact HB.out)⟩⟩
          · rw [if_neg c24] at H
            have c24b0 : (a1_0 == 2) = false := beq_eq_false_iff_ne.mpr c24
            have c24b1 : (a1_0 != 2) = true := bne_iff_ne.mpr c24
            (first | rw [c24b0] | (simp only [i64_w, i32_w]; rw [c24b0]) | skip)
            by_cases c27 : a1_0 = 6
            · rw [if_pos c27] at H
              have c27b0 : (a1_0 == 6) = true := beq_iff_eq.mpr c27
              have c27b1 : (a1_0 != 6) = false := bne_eq_false_iff_eq.mpr c27
              clear c27
              have H' := Aside0.mk H
              clear H
              have hnb28 := NB3120_3121.out
              have hnc28 := NB3121_3120.out
              have hcz29_0 : wc.cell? ⟨gb3120, 0, none⟩ = some (.int .i64 a1_0) := (blk_cell BK3120.out 0).trans rfl
              have hcz29_1 : wc.cell? ⟨gb3120, 1, none⟩ = some (.string a1_1) := (blk_cell BK3120.out 1).trans rfl
              have hcz29_2 : wc.cell? ⟨gb3120, 2, none⟩ = some (.bool a1_2) := (blk_cell BK3120.out 2).trans rfl
              have hcz29_3 : wc.cell? ⟨gb3120, 3, none⟩ = some (.slice A1_3 l1_3.length c1_3) := (blk_cell BK3120.out 3).trans rfl
              have hcz29_4 : wc.cell? ⟨gb3120, 4, none⟩ = some (.slice A1_4 l1_4.length c1_4) := (blk_cell BK3120.out 4).trans rfl
              have hfz29_0 := blk_frozen BK3120.out 0
              have hfz29_1 := blk_frozen BK3120.out 1
              have hfz29_2 := blk_frozen BK3120.out 2
              have hfz29_3 := blk_frozen BK3120.out 3
              have hfz29_4 := blk_frozen BK3120.out 4
              go_wp2
              go_meet
              case rel => exact ⟨_, (true), (by first | rfl | (simp; done) | (simp [*]; done)), H', ⟨by have := HJ3.out; first | omega | exact Nat.le_refl _⟩, ⟨by (with_reducible repeat (first | refine blk_drewN ?_ _ | refine blk_drew ?_ | refine blk_alloc ?_ _)); exact BK3120.out⟩, ⟨by (with_reducible repeat (first | refine blk_drewN ?_ _ | refine blk_drew ?_ | refine blk_alloc ?_ _)); exact BK3121.out⟩, ⟨by repeat (first | (with_reducible first | exact HB.out | apply below_alloc | apply pw_below_drewN | apply below_drew1 | refine below_set ?_ GE3120.out | refine below_set ?_ GE3121.out) | exact HB.out)⟩⟩
            · rw [if_neg c27] at H
              have c27b0 : (a1_0 == 6) = false := beq_eq_false_iff_ne.mpr c27
              have c27b1 : (a1_0 != 6) = true := bne_iff_ne.mpr c27
              have H' := Aside0.mk H
              clear H
              have hnb30 := NB3120_3121.out
              have hnc30 := NB3121_3120.out
              have hcz31_0 : wc.cell? ⟨gb3120, 0, none⟩ = some (.int .i64 a1_0) := (blk_cell BK3120.out 0).trans rfl
              have hcz31_1 : wc.cell? ⟨gb3120, 1, none⟩ = some (.string a1_1) := (blk_cell BK3120.out 1).trans rfl
              have hcz31_2 : wc.cell? ⟨gb3120, 2, none⟩ = some (.bool a1_2) := (blk_cell BK3120.out 2).trans rfl
              have hcz31_3 : wc.cell? ⟨gb3120, 3, none⟩ = some (.slice A1_3 l1_3.length c1_3) := (blk_cell BK3120.out 3).trans rfl
              have hcz31_4 : wc.cell? ⟨gb3120, 4, none⟩ = some (.slice A1_4 l1_4.length c1_4) := (blk_cell BK3120.out 4).trans rfl
              have hfz31_0 := blk_frozen BK3120.out 0
              have hfz31_1 := blk_frozen BK3120.out 1
              have hfz31_2 := blk_frozen BK3120.out 2
              have hfz31_3 := blk_frozen BK3120.out 3
              have hfz31_4 := blk_frozen BK3120.out 4
              go_wp2
              go_meet
              case rel => exact ⟨_, ((a1_0 == 9)), (by first | rfl | (simp; done) | (simp [*]; done)), H', ⟨by have := HJ3.out; first | omega | exact Nat.le_refl _⟩, ⟨by (with_reducible repeat (first | refine blk_drewN ?_ _ | refine blk_drew ?_ | refine blk_alloc ?_ _)); exact BK3120.out⟩, ⟨by (with_reducible repeat (first | refine blk_drewN ?_ _ | refine blk_drew ?_ | refine blk_alloc ?_ _)); exact BK3121.out⟩, ⟨by repeat (first | (with_reducible first | exact HB.out | apply below_alloc | apply pw_below_drewN | apply below_drew1 | refine below_set ?_ GE3120.out | refine below_set ?_ GE3121.out) | exact HB.out)⟩⟩
        case rest =>
          clear HC23
          try clear c1
          try clear c2
          try clear p2
          try clear c3
          try clear c4
          try clear c7
          try clear c7b0
          try clear c7b1
          try clear c8
          try clear c8b0
          try clear c8b1
          try clear c8b2
          try clear c9
          try clear c12
          try clear c12b0
          try clear c12b1
          try clear c12b2
          try clear c13
          try clear c16
          try clear c19
          try clear c22
          try clear c24
          try clear c24b0
          try clear c24b1
          try clear c25
          try clear c27
          try clear c27b0
          try clear c27b1
          try clear c28
          try clear c30
          try clear hcz10_0
          try clear hcz10_1
          try clear hcz10_2
          try clear hcz10_3
          try clear hcz10_4
          try clear hcz11_0
          try clear hcz11_1
          try clear hcz11_2
          try clear hcz11_3
          try clear hcz11_4
          try clear hcz14_0
          try clear hcz14_1
          try clear hcz14_2
          try clear hcz14_3
          try clear hcz14_4
          try clear hcz15_0
          try clear hcz15_1
          try clear hcz15_2
          try clear hcz15_3
          try clear hcz15_4
          try clear hcz17_0
          try clear hcz17_1
          try clear hcz17_2
          try clear hcz17_3
          try clear hcz17_4
          try clear hcz18_0
          try clear hcz18_1
          try clear hcz18_2
          try clear hcz18_3
          try clear hcz18_4
          try clear hcz20_0
          try clear hcz20_1
          try clear hcz20_2
          try clear hcz20_3
          try clear hcz20_4
          try clear hcz21_0
          try clear hcz21_1
          try clear hcz21_2
          try clear hcz21_3
          try clear hcz21_4
          try clear hcz26_0
          try clear hcz26_1
          try clear hcz26_2
          try clear hcz26_3
          try clear hcz26_4
          try clear hcz29_0
          try clear hcz29_1
          try clear hcz29_2
          try clear hcz29_3
          try clear hcz29_4
          try clear hcz31_0
          try clear hcz31_1
          try clear hcz31_2
          try clear hcz31_3
          try clear hcz31_4
          try clear hfz10_0
          try clear hfz10_1
          try clear hfz10_2
          try clear hfz10_3
          try clear hfz10_4
          try clear hfz11_0
          try clear hfz11_1
          try clear hfz11_2
          try clear hfz11_3
          try clear hfz11_4
          try clear hfz14_0
          try clear hfz14_1
          try clear hfz14_2
          try clear hfz14_3
          try clear hfz14_4
          try clear hfz15_0
          try clear hfz15_1
          try clear hfz15_2
          try clear hfz15_3
          try clear hfz15_4
          try clear hfz17_0
          try clear hfz17_1
          try clear hfz17_2
          try clear hfz17_3
          try clear hfz17_4
          try clear hfz18_0
          try clear hfz18_1
          try clear hfz18_2
          try clear hfz18_3
          try clear hfz18_4
          try clear hfz20_0
          try clear hfz20_1
          try clear hfz20_2
          try clear hfz20_3
          try clear hfz20_4
          try clear hfz21_0
          try clear hfz21_1
          try clear hfz21_2
          try clear hfz21_3
          try clear hfz21_4
          try clear hfz26_0
          try clear hfz26_1
          try clear hfz26_2
          try clear hfz26_3
          try clear hfz26_4
          try clear hfz29_0
          try clear hfz29_1
          try clear hfz29_2
          try clear hfz29_3
          try clear hfz29_4
          try clear hfz31_0
          try clear hfz31_1
          try clear hfz31_2
          try clear hfz31_3
          try clear hfz31_4
          try clear p2
          obtain ⟨kq, x50_22, rfl, HA, HJ22, BK3120, BK3121, HB⟩ := hcut
          cases kq with
          | zero => exact absurd HA.out (by simp [spec_l5Alpha.j1])
          | succ kj22 =>
            have H := HA.out
            clear HA
            simp only [spec_l5Alpha.j1] at H
            have HC32 := Aside0.mk H
            clear H
            go_upto_if 50 with (fail)
            go_cut [] (fun wc => ∃ (kq : Nat), Aside0 (spec_l5Alpha.j2 kq l0 a1_0 a1_1 a1_2 l1_3 l1_4 a2_0 a2_1 a2_2 l2_3 l2_4 = some r) ∧ Aside0 (kq ≤ kj22) ∧ Aside0 (wc.heap[gb3120]? = some (.cells #[.int .i64 a1_0, .string a1_1, .bool a1_2, (.slice A1_3 l1_3.length c1_3), (.slice A1_4 l1_4.length c1_4)] 51 (0, 0))) ∧ Aside0 (wc.heap[gb3121]? = some (.cells #[.int .i64 a2_0, .string a2_1, .bool a2_2, (.slice A2_3 l2_3.length c2_3), (.slice A2_4 l2_4.length c2_4)] 51 (0, 0))) ∧ Aside0 (Below w.heap.size w wc))
            case first =>
              have H := HC32.out
              clear HC32
              by_cases c33 : x50_22 = true
              · subst c33
                have H1 : ((spec_l5Name.f kj22 l0 a1_1 a2_1).bind fun t3122 => (if t3122 = true then (spec_l5Alpha.j2 kj22 l0 a1_0 a1_1 a1_2 l1_3 l1_4 a2_0 a2_1 a2_2 l2_3 l2_4) else (some false))) = some r := by rw [if_pos rfl] at H; exact H
                clear H
                have H := H1
                clear H1
                replace H := Option.bind_eq_some_iff.mp H
                obtain ⟨t3122, A340, H⟩ := H
                replace H : (if t3122 = true then (spec_l5Alpha.j2 kj22 l0 a1_0 a1_1 a1_2 l1_3 l1_4 a2_0 a2_1 a2_2 l2_3 l2_4) else (some false)) = some r := H
                have A34 := Aside0.mk A340
                clear A340
                by_cases c35 : t3122 = true
                · subst c35
                  have H1 : (spec_l5Alpha.j2 kj22 l0 a1_0 a1_1 a1_2 l1_3 l1_4 a2_0 a2_1 a2_2 l2_3 l2_4) = some r := by rw [if_pos rfl] at H; exact H
                  clear H
                  have H := H1
                  clear H1
                  have H' := Aside0.mk H
                  clear H
                  have hnb36 := NB3120_3121.out
                  have hnc36 := NB3121_3120.out
                  have hcz37_0 : wc.cell? ⟨gb3120, 0, none⟩ = some (.int .i64 a1_0) := (blk_cell BK3120.out 0).trans rfl
                  have hcz37_1 : wc.cell? ⟨gb3120, 1, none⟩ = some (.string a1_1) := (blk_cell BK3120.out 1).trans rfl
                  have hcz37_2 : wc.cell? ⟨gb3120, 2, none⟩ = some (.bool a1_2) := (blk_cell BK3120.out 2).trans rfl
                  have hcz37_3 : wc.cell? ⟨gb3120, 3, none⟩ = some (.slice A1_3 l1_3.length c1_3) := (blk_cell BK3120.out 3).trans rfl
                  have hcz37_4 : wc.cell? ⟨gb3120, 4, none⟩ = some (.slice A1_4 l1_4.length c1_4) := (blk_cell BK3120.out 4).trans rfl
                  have hfz37_0 := blk_frozen BK3120.out 0
                  have hfz37_1 := blk_frozen BK3120.out 1
                  have hfz37_2 := blk_frozen BK3120.out 2
                  have hfz37_3 := blk_frozen BK3120.out 3
                  have hfz37_4 := blk_frozen BK3120.out 4
                  have hcz38_0 : wc.cell? ⟨gb3121, 0, none⟩ = some (.int .i64 a2_0) := (blk_cell BK3121.out 0).trans rfl
                  have hcz38_1 : wc.cell? ⟨gb3121, 1, none⟩ = some (.string a2_1) := (blk_cell BK3121.out 1).trans rfl
                  have hcz38_2 : wc.cell? ⟨gb3121, 2, none⟩ = some (.bool a2_2) := (blk_cell BK3121.out 2).trans rfl
                  have hcz38_3 : wc.cell? ⟨gb3121, 3, none⟩ = some (.slice A2_3 l2_3.length c2_3) := (blk_cell BK3121.out 3).trans rfl
                  have hcz38_4 : wc.cell? ⟨gb3121, 4, none⟩ = some (.slice A2_4 l2_4.length c2_4) := (blk_cell BK3121.out 4).trans rfl
                  have hfz38_0 := blk_frozen BK3121.out 0
                  have hfz38_1 := blk_frozen BK3121.out 1
                  have hfz38_2 := blk_frozen BK3121.out 2
                  have hfz38_3 := blk_frozen BK3121.out 3
                  have hfz38_4 := blk_frozen BK3121.out 4
                  go_wp2_with (first | ((with_reducible refine gate_callee (f := 76) rfl ?_); refine goesL_ (some 56) rfl rfl Try.func76 (by kernel_rfl) rfl #[.slice A0 l0.length c0, .string a1_1, .string a2_1] rfl (by (try simp only [List.map_toArray, List.map_cons, List.map_nil]); first | done | rfl | (simp only [List.length_drop, List.length_take]; rfl)) ?_; (with_reducible refine (spec_l5Name.calls kj22 _ _ l0 a1_1 a2_1 true _ ?side1 ?side2 A34.out).mono ?_); (case side1 => repeat (first | exact (Kd.C_below HR0.out HB.out) | (with_reducible refine Kd.C_alloc ?_ _) | (with_reducible refine Kd.C_drewN ?_ _) | (with_reducible refine Kd.C_drew ?_))); (case side2 => exact HC0.out); rintro e w' ⟨rfl, ⟨nd, rfl⟩⟩; refine ⟨_, rfl, ?_⟩))
                  go_meet
                  case rel => exact ⟨_, H', ⟨by have := HJ3.out; have := HJ22.out; first | omega | exact Nat.le_refl _⟩, ⟨by (with_reducible repeat (first | refine blk_drewN ?_ _ | refine blk_drew ?_ | refine blk_alloc ?_ _)); exact BK3120.out⟩, ⟨by (with_reducible repeat (first | refine blk_drewN ?_ _ | refine blk_drew ?_ | refine blk_alloc ?_ _)); exact BK3121.out⟩, ⟨by repeat (first | (with_reducible first | exact HB.out | apply below_alloc | apply pw_below_drewN | apply below_drew1 | refine below_set ?_ GE3120.out | refine below_set ?_ GE3121.out) | exact HB.out)⟩⟩
                · replace c35 := Bool.eq_false_iff.mpr c35
                  subst c35
                  have H1 : (some false) = some r := by rw [if_neg (show ¬ (false = true) by decide)] at H; exact H
                  clear H
                  have H := H1
                  clear H1
                  obtain rfl := Option.some.inj H
                  have hnb39 := NB3120_3121.out
                  have hnc39 := NB3121_3120.out
                  have hcz40_0 : wc.cell? ⟨gb3120, 0, none⟩ = some (.int .i64 a1_0) := (blk_cell BK3120.out 0).trans rfl
                  have hcz40_1 : wc.cell? ⟨gb3120, 1, none⟩ = some (.string a1_1) := (blk_cell BK3120.out 1).trans rfl
                  have hcz40_2 : wc.cell? ⟨gb3120, 2, none⟩ = some (.bool a1_2) := (blk_cell BK3120.out 2).trans rfl
                  have hcz40_3 : wc.cell? ⟨gb3120, 3, none⟩ = some (.slice A1_3 l1_3.length c1_3) := (blk_cell BK3120.out 3).trans rfl
                  have hcz40_4 : wc.cell? ⟨gb3120, 4, none⟩ = some (.slice A1_4 l1_4.length c1_4) := (blk_cell BK3120.out 4).trans rfl
                  have hfz40_0 := blk_frozen BK3120.out 0
                  have hfz40_1 := blk_frozen BK3120.out 1
                  have hfz40_2 := blk_frozen BK3120.out 2
                  have hfz40_3 := blk_frozen BK3120.out 3
                  have hfz40_4 := blk_frozen BK3120.out 4
                  have hcz41_0 : wc.cell? ⟨gb3121, 0, none⟩ = some (.int .i64 a2_0) := (blk_cell BK3121.out 0).trans rfl
                  have hcz41_1 : wc.cell? ⟨gb3121, 1, none⟩ = some (.string a2_1) := (blk_cell BK3121.out 1).trans rfl
                  have hcz41_2 : wc.cell? ⟨gb3121, 2, none⟩ = some (.bool a2_2) := (blk_cell BK3121.out 2).trans rfl
                  have hcz41_3 : wc.cell? ⟨gb3121, 3, none⟩ = some (.slice A2_3 l2_3.length c2_3) := (blk_cell BK3121.out 3).trans rfl
                  have hcz41_4 : wc.cell? ⟨gb3121, 4, none⟩ = some (.slice A2_4 l2_4.length c2_4) := (blk_cell BK3121.out 4).trans rfl
                  have hfz41_0 := blk_frozen BK3121.out 0
                  have hfz41_1 := blk_frozen BK3121.out 1
                  have hfz41_2 := blk_frozen BK3121.out 2
                  have hfz41_3 := blk_frozen BK3121.out 3
                  have hfz41_4 := blk_frozen BK3121.out 4
                  go_wp2_with (first | ((with_reducible refine gate_callee (f := 76) rfl ?_); refine goesL_ (some 56) rfl rfl Try.func76 (by kernel_rfl) rfl #[.slice A0 l0.length c0, .string a1_1, .string a2_1] rfl (by (try simp only [List.map_toArray, List.map_cons, List.map_nil]); first | done | rfl | (simp only [List.length_drop, List.length_take]; rfl)) ?_; (with_reducible refine (spec_l5Name.calls kj22 _ _ l0 a1_1 a2_1 false _ ?side1 ?side2 A34.out).mono ?_); (case side1 => repeat (first | exact (Kd.C_below HR0.out HB.out) | (with_reducible refine Kd.C_alloc ?_ _) | (with_reducible refine Kd.C_drewN ?_ _) | (with_reducible refine Kd.C_drew ?_))); (case side2 => exact HC0.out); rintro e w' ⟨rfl, ⟨nd, rfl⟩⟩; refine ⟨_, rfl, ?_⟩))
                  go_ret
                  exact ⟨by first | rfl | (simp [errW_none, errW_some] <;> rfl) | (simp [*, errW_none, errW_some] <;> rfl), by repeat (first | (with_reducible first | exact HB.out | apply below_alloc | apply pw_below_drewN | apply below_drew1 | refine below_set ?_ GE3120.out | refine below_set ?_ GE3121.out) | exact HB.out)⟩
              · replace c33 := Bool.eq_false_iff.mpr c33
                subst c33
                have H1 : (if a1_1.toList = a2_1.toList then (spec_l5Alpha.j2 kj22 l0 a1_0 a1_1 a1_2 l1_3 l1_4 a2_0 a2_1 a2_2 l2_3 l2_4) else (some false)) = some r := by rw [if_neg (show ¬ (false = true) by decide)] at H; exact H
                clear H
                have H := H1
                clear H1
                by_cases c42 : a1_1.toList = a2_1.toList
                · rw [if_pos c42] at H
                  have c42b0 : (a1_1.toList == a2_1.toList) = true := beq_iff_eq.mpr c42
                  have c42b1 : (a1_1.toList != a2_1.toList) = false := bne_eq_false_iff_eq.mpr c42
                  clear c42
                  (first | rw [c42b0] | (simp only [i64_w, i32_w]; rw [c42b0]) | skip)
                  have H' := Aside0.mk H
                  clear H
                  have hnb43 := NB3120_3121.out
                  have hnc43 := NB3121_3120.out
                  have hcz44_0 : wc.cell? ⟨gb3120, 0, none⟩ = some (.int .i64 a1_0) := (blk_cell BK3120.out 0).trans rfl
                  have hcz44_1 : wc.cell? ⟨gb3120, 1, none⟩ = some (.string a1_1) := (blk_cell BK3120.out 1).trans rfl
                  have hcz44_2 : wc.cell? ⟨gb3120, 2, none⟩ = some (.bool a1_2) := (blk_cell BK3120.out 2).trans rfl
                  have hcz44_3 : wc.cell? ⟨gb3120, 3, none⟩ = some (.slice A1_3 l1_3.length c1_3) := (blk_cell BK3120.out 3).trans rfl
                  have hcz44_4 : wc.cell? ⟨gb3120, 4, none⟩ = some (.slice A1_4 l1_4.length c1_4) := (blk_cell BK3120.out 4).trans rfl
                  have hfz44_0 := blk_frozen BK3120.out 0
                  have hfz44_1 := blk_frozen BK3120.out 1
                  have hfz44_2 := blk_frozen BK3120.out 2
                  have hfz44_3 := blk_frozen BK3120.out 3
                  have hfz44_4 := blk_frozen BK3120.out 4
                  have hcz45_0 : wc.cell? ⟨gb3121, 0, none⟩ = some (.int .i64 a2_0) := (blk_cell BK3121.out 0).trans rfl
                  have hcz45_1 : wc.cell? ⟨gb3121, 1, none⟩ = some (.string a2_1) := (blk_cell BK3121.out 1).trans rfl
                  have hcz45_2 : wc.cell? ⟨gb3121, 2, none⟩ = some (.bool a2_2) := (blk_cell BK3121.out 2).trans rfl
                  have hcz45_3 : wc.cell? ⟨gb3121, 3, none⟩ = some (.slice A2_3 l2_3.length c2_3) := (blk_cell BK3121.out 3).trans rfl
                  have hcz45_4 : wc.cell? ⟨gb3121, 4, none⟩ = some (.slice A2_4 l2_4.length c2_4) := (blk_cell BK3121.out 4).trans rfl
                  have hfz45_0 := blk_frozen BK3121.out 0
                  have hfz45_1 := blk_frozen BK3121.out 1
                  have hfz45_2 := blk_frozen BK3121.out 2
                  have hfz45_3 := blk_frozen BK3121.out 3
                  have hfz45_4 := blk_frozen BK3121.out 4
                  go_wp2
                  go_meet
                  case rel => exact ⟨_, H', ⟨by have := HJ3.out; have := HJ22.out; first | omega | exact Nat.le_refl _⟩, ⟨by (with_reducible repeat (first | refine blk_drewN ?_ _ | refine blk_drew ?_ | refine blk_alloc ?_ _)); exact BK3120.out⟩, ⟨by (with_reducible repeat (first | refine blk_drewN ?_ _ | refine blk_drew ?_ | refine blk_alloc ?_ _)); exact BK3121.out⟩, ⟨by repeat (first | (with_reducible first | exact HB.out | apply below_alloc | apply pw_below_drewN | apply below_drew1 | refine below_set ?_ GE3120.out | refine below_set ?_ GE3121.out) | exact HB.out)⟩⟩
                · rw [if_neg c42] at H
                  have c42b0 : (a1_1.toList == a2_1.toList) = false := beq_eq_false_iff_ne.mpr c42
                  have c42b1 : (a1_1.toList != a2_1.toList) = true := bne_iff_ne.mpr c42
                  (first | rw [c42b0] | (simp only [i64_w, i32_w]; rw [c42b0]) | skip)
                  obtain rfl := Option.some.inj H
                  have hnb46 := NB3120_3121.out
                  have hnc46 := NB3121_3120.out
                  have hcz47_0 : wc.cell? ⟨gb3120, 0, none⟩ = some (.int .i64 a1_0) := (blk_cell BK3120.out 0).trans rfl
                  have hcz47_1 : wc.cell? ⟨gb3120, 1, none⟩ = some (.string a1_1) := (blk_cell BK3120.out 1).trans rfl
                  have hcz47_2 : wc.cell? ⟨gb3120, 2, none⟩ = some (.bool a1_2) := (blk_cell BK3120.out 2).trans rfl
                  have hcz47_3 : wc.cell? ⟨gb3120, 3, none⟩ = some (.slice A1_3 l1_3.length c1_3) := (blk_cell BK3120.out 3).trans rfl
                  have hcz47_4 : wc.cell? ⟨gb3120, 4, none⟩ = some (.slice A1_4 l1_4.length c1_4) := (blk_cell BK3120.out 4).trans rfl
                  have hfz47_0 := blk_frozen BK3120.out 0
                  have hfz47_1 := blk_frozen BK3120.out 1
                  have hfz47_2 := blk_frozen BK3120.out 2
                  have hfz47_3 := blk_frozen BK3120.out 3
                  have hfz47_4 := blk_frozen BK3120.out 4
                  have hcz48_0 : wc.cell? ⟨gb3121, 0, none⟩ = some (.int .i64 a2_0) := (blk_cell BK3121.out 0).trans rfl
                  have hcz48_1 : wc.cell? ⟨gb3121, 1, none⟩ = some (.string a2_1) := (blk_cell BK3121.out 1).trans rfl
                  have hcz48_2 : wc.cell? ⟨gb3121, 2, none⟩ = some (.bool a2_2) := (blk_cell BK3121.out 2).trans rfl
                  have hcz48_3 : wc.cell? ⟨gb3121, 3, none⟩ = some (.slice A2_3 l2_3.length c2_3) := (blk_cell BK3121.out 3).trans rfl
                  have hcz48_4 : wc.cell? ⟨gb3121, 4, none⟩ = some (.slice A2_4 l2_4.length c2_4) := (blk_cell BK3121.out 4).trans rfl
                  have hfz48_0 := blk_frozen BK3121.out 0
                  have hfz48_1 := blk_frozen BK3121.out 1
                  have hfz48_2 := blk_frozen BK3121.out 2
                  have hfz48_3 := blk_frozen BK3121.out 3
                  have hfz48_4 := blk_frozen BK3121.out 4
                  go_wp2
                  go_ret
                  exact ⟨by first | rfl | (simp [errW_none, errW_some] <;> rfl) | (simp [*, errW_none, errW_some] <;> rfl), by repeat (first | (with_reducible first | exact HB.out | apply below_alloc | apply pw_below_drewN | apply below_drew1 | refine below_set ?_ GE3120.out | refine below_set ?_ GE3121.out) | exact HB.out)⟩
            case rest =>
              clear HC32
              try clear c1
              try clear c2
              try clear p2
              try clear c3
              try clear c4
              try clear c7
              try clear c7b0
              try clear c7b1
              try clear c8
              try clear c8b0
              try clear c8b1
              try clear c8b2
              try clear c9
              try clear c12
              try clear c12b0
              try clear c12b1
              try clear c12b2
              try clear c13
              try clear c16
              try clear c19
              try clear c22
              try clear c24
              try clear c24b0
              try clear c24b1
              try clear c25
              try clear c27
              try clear c27b0
              try clear c27b1
              try clear c28
              try clear c30
              try clear c33
              try clear c35
              try clear c36
              try clear c39
              try clear c42
              try clear c42b0
              try clear c42b1
              try clear c43
              try clear c46
              try clear hcz10_0
              try clear hcz10_1
              try clear hcz10_2
              try clear hcz10_3
              try clear hcz10_4
              try clear hcz11_0
              try clear hcz11_1
              try clear hcz11_2
              try clear hcz11_3
              try clear hcz11_4
              try clear hcz14_0
              try clear hcz14_1
              try clear hcz14_2
              try clear hcz14_3
              try clear hcz14_4
              try clear hcz15_0
              try clear hcz15_1
              try clear hcz15_2
              try clear hcz15_3
              try clear hcz15_4
              try clear hcz17_0
              try clear hcz17_1
              try clear hcz17_2
              try clear hcz17_3
              try clear hcz17_4
              try clear hcz18_0
              try clear hcz18_1
              try clear hcz18_2
              try clear hcz18_3
              try clear hcz18_4
              try clear hcz20_0
              try clear hcz20_1
              try clear hcz20_2
              try clear hcz20_3
              try clear hcz20_4
              try clear hcz21_0
              try clear hcz21_1
              try clear hcz21_2
              try clear hcz21_3
              try clear hcz21_4
              try clear hcz26_0
              try clear hcz26_1
              try clear hcz26_2
              try clear hcz26_3
              try clear hcz26_4
              try clear hcz29_0
              try clear hcz29_1
              try clear hcz29_2
              try clear hcz29_3
              try clear hcz29_4
              try clear hcz31_0
              try clear hcz31_1
              try clear hcz31_2
              try clear hcz31_3
              try clear hcz31_4
              try clear hcz37_0
              try clear hcz37_1
              try clear hcz37_2
              try clear hcz37_3
              try clear hcz37_4
              try clear hcz38_0
              try clear hcz38_1
              try clear hcz38_2
              try clear hcz38_3
              try clear hcz38_4
              try clear hcz40_0
              try clear hcz40_1
              try clear hcz40_2
              try clear hcz40_3
              try clear hcz40_4
              try clear hcz41_0
              try clear hcz41_1
              try clear hcz41_2
              try clear hcz41_3
              try clear hcz41_4
              try clear hcz44_0
              try clear hcz44_1
              try clear hcz44_2
              try clear hcz44_3
              try clear hcz44_4
              try clear hcz45_0
              try clear hcz45_1
              try clear hcz45_2
              try clear hcz45_3
              try clear hcz45_4
              try clear hcz47_0
              try clear hcz47_1
              try clear hcz47_2
              try clear hcz47_3
              try clear hcz47_4
              try clear hcz48_0
              try clear hcz48_1
              try clear hcz48_2
              try clear hcz48_3
              try clear hcz48_4
              try clear hfz10_0
              try clear hfz10_1
              try clear hfz10_2
              try clear hfz10_3
              try clear hfz10_4
              try clear hfz11_0
              try clear hfz11_1
              try clear hfz11_2
              try clear hfz11_3
              try clear hfz11_4
              try clear hfz14_0
              try clear hfz14_1
              try clear hfz14_2
              try clear hfz14_3
              try clear hfz14_4
              try clear hfz15_0
              try clear hfz15_1
              try clear hfz15_2
              try clear hfz15_3
              try clear hfz15_4
              try clear hfz17_0
              try clear hfz17_1
              try clear hfz17_2
              try clear hfz17_3
              try clear hfz17_4
              try clear hfz18_0
              try clear hfz18_1
              try clear hfz18_2
              try clear hfz18_3
              try clear hfz18_4
              try clear hfz20_0
              try clear hfz20_1
              try clear hfz20_2
              try clear hfz20_3
              try clear hfz20_4
              try clear hfz21_0
              try clear hfz21_1
              try clear hfz21_2
              try clear hfz21_3
              try clear hfz21_4
              try clear hfz26_0
              try clear hfz26_1
              try clear hfz26_2
              try clear hfz26_3
              try clear hfz26_4
              try clear hfz29_0
              try clear hfz29_1
              try clear hfz29_2
              try clear hfz29_3
              try clear hfz29_4
              try clear hfz31_0
              try clear hfz31_1
              try clear hfz31_2
              try clear hfz31_3
              try clear hfz31_4
              try clear hfz37_0
              try clear hfz37_1
              try clear hfz37_2
              try clear hfz37_3
              try clear hfz37_4
              try clear hfz38_0
              try clear hfz38_1
              try clear hfz38_2
              try clear hfz38_3
              try clear hfz38_4
              try clear hfz40_0
              try clear hfz40_1
              try clear hfz40_2
              try clear hfz40_3
              try clear hfz40_4
              try clear hfz41_0
              try clear hfz41_1
              try clear hfz41_2
              try clear hfz41_3
              try clear hfz41_4
              try clear hfz44_0
              try clear hfz44_1
              try clear hfz44_2
              try clear hfz44_3
              try clear hfz44_4
              try clear hfz45_0
              try clear hfz45_1
              try clear hfz45_2
              try clear hfz45_3
              try clear hfz45_4
              try clear hfz47_0
              try clear hfz47_1
              try clear hfz47_2
              try clear hfz47_3
              try clear hfz47_4
              try clear hfz48_0
              try clear hfz48_1
              try clear hfz48_2
              try clear hfz48_3
              try clear hfz48_4
              try clear p2
              obtain ⟨kq, HA, HJ31, BK3120, BK3121, HB⟩ := hcut
              cases kq with
              | zero => exact absurd HA.out (by simp [spec_l5Alpha.j2])
              | succ kj31 =>
                have H := HA.out
                clear HA
                simp only [spec_l5Alpha.j2] at H
                replace H := Option.bind_eq_some_iff.mp H
                obtain ⟨t3123, A490, H⟩ := H
                replace H : (spec_l5Alpha.l0 kj31 t3123 0 a1_0 a1_1 a1_2 l1_3 l1_4 a2_0 a2_1 a2_2 l2_3 l2_4) = some r := H
                have A49 := Aside0.mk A490
                clear A490
                have H' := Aside0.mk H
                clear H
                have hnb50 := NB3120_3121.out
                have hnc50 := NB3121_3120.out
                have hcz51_0 : wc.cell? ⟨gb3120, 0, none⟩ = some (.int .i64 a1_0) := (blk_cell BK3120.out 0).trans rfl
                have hcz51_1 : wc.cell? ⟨gb3120, 1, none⟩ = some (.string a1_1) := (blk_cell BK3120.out 1).trans rfl
                have hcz51_2 : wc.cell? ⟨gb3120, 2, none⟩ = some (.bool a1_2) := (blk_cell BK3120.out 2).trans rfl
                have hcz51_3 : wc.cell? ⟨gb3120, 3, none⟩ = some (.slice A1_3 l1_3.length c1_3) := (blk_cell BK3120.out 3).trans rfl
                have hcz51_4 : wc.cell? ⟨gb3120, 4, none⟩ = some (.slice A1_4 l1_4.length c1_4) := (blk_cell BK3120.out 4).trans rfl
                have hfz51_0 := blk_frozen BK3120.out 0
                have hfz51_1 := blk_frozen BK3120.out 1
                have hfz51_2 := blk_frozen BK3120.out 2
                have hfz51_3 := blk_frozen BK3120.out 3
                have hfz51_4 := blk_frozen BK3120.out 4
                have hcz52_0 : wc.cell? ⟨gb3121, 0, none⟩ = some (.int .i64 a2_0) := (blk_cell BK3121.out 0).trans rfl
                have hcz52_1 : wc.cell? ⟨gb3121, 1, none⟩ = some (.string a2_1) := (blk_cell BK3121.out 1).trans rfl
                have hcz52_2 : wc.cell? ⟨gb3121, 2, none⟩ = some (.bool a2_2) := (blk_cell BK3121.out 2).trans rfl
                have hcz52_3 : wc.cell? ⟨gb3121, 3, none⟩ = some (.slice A2_3 l2_3.length c2_3) := (blk_cell BK3121.out 3).trans rfl
                have hcz52_4 : wc.cell? ⟨gb3121, 4, none⟩ = some (.slice A2_4 l2_4.length c2_4) := (blk_cell BK3121.out 4).trans rfl
                have hfz52_0 := blk_frozen BK3121.out 0
                have hfz52_1 := blk_frozen BK3121.out 1
                have hfz52_2 := blk_frozen BK3121.out 2
                have hfz52_3 := blk_frozen BK3121.out 3
                have hfz52_4 := blk_frozen BK3121.out 4
                go_wp2_with (first | ((with_reducible refine gate_callee (f := 77) rfl ?_); refine goesL_ (some 68) rfl rfl Try.func77 (by kernel_rfl) rfl #[.slice A0 l0.length c0, .slice A1_3 l1_3.length c1_3, .slice A2_3 l2_3.length c2_3] rfl (by (try simp only [List.map_toArray, List.map_cons, List.map_nil]); first | done | rfl | (simp only [List.length_drop, List.length_take]; rfl)) ?_; (with_reducible refine (spec_l5Bound.calls kj31 _ _ l0 _ _ l1_3 _ _ l2_3 t3123 _ ?side1 ?side2 ?side3 ?side4 ?side5 ?side6 A49.out).mono ?_); (case side1 => repeat (first | exact (Kd.C_below HR0.out HB.out) | (with_reducible refine Kd.C_alloc ?_ _) | (with_reducible refine Kd.C_drewN ?_ _) | (with_reducible refine Kd.C_drew ?_))); (case side2 => exact HC0.out); (case side3 => repeat (first | exact (Kd.C_below HR1_3.out HB.out) | (with_reducible refine Kd.C_alloc ?_ _) | (with_reducible refine Kd.C_drewN ?_ _) | (with_reducible refine Kd.C_drew ?_))); (case side4 => exact HC1_3.out); (case side5 => repeat (first | exact (Kd.C_below HR2_3.out HB.out) | (with_reducible refine Kd.C_alloc ?_ _) | (with_reducible refine Kd.C_drewN ?_ _) | (with_reducible refine Kd.C_drew ?_))); (case side6 => exact HC2_3.out); rintro e w53 ⟨v3124, rfl, ho0, hb⟩; refine ⟨_, rfl, ?_⟩; have n0_ := Aside0.mk (Kd.R_lower ho0 (below_size (by repeat (first | (with_reducible first | exact HB.out | apply below_alloc | apply pw_below_drewN | apply below_drew1 | refine below_set ?_ GE3120.out | refine below_set ?_ GE3121.out) | exact HB.out)))); have n1_ := Aside0.mk (blk_below (g := gb3120) (o := .cells #[.int .i64 a1_0, .string a1_1, .bool a1_2, .slice A1_3 l1_3.length c1_3, .slice A1_4 l1_4.length c1_4] 51 (0, 0)) (by (with_reducible repeat (first | refine blk_drewN ?_ _ | refine blk_drew ?_ | refine blk_alloc ?_ _)); exact BK3120.out) hb); have n2_ := Aside0.mk (blk_below (g := gb3121) (o := .cells #[.int .i64 a2_0, .string a2_1, .bool a2_2, .slice A2_3 l2_3.length c2_3, .slice A2_4 l2_4.length c2_4] 51 (0, 0)) (by (with_reducible repeat (first | refine blk_drewN ?_ _ | refine blk_drew ?_ | refine blk_alloc ?_ _)); exact BK3121.out) hb); have n3_ := Aside0.mk (below_step (by repeat (first | (with_reducible first | exact HB.out | apply below_alloc | apply pw_below_drewN | apply below_drew1 | refine below_set ?_ GE3120.out | refine below_set ?_ GE3121.out) | exact HB.out)) hb); clear BK3120; clear BK3121; clear HB; have HO3125 := n0_; have BK3120 := n1_; have BK3121 := n2_; have HB := n3_; clear n0_ n1_ n2_ n3_; (try clear hb); (try clear hb2); (try clear hk); (try clear hi); (try clear ho0)))
                go_loopg [7] kj31 (fun kq v7 w' => ∃ (x7_4 : Int), v7 = .int .i64 x7_4 ∧ Aside0 (spec_l5Alpha.l0 kq t3123 x7_4 a1_0 a1_1 a1_2 l1_3 l1_4 a2_0 a2_1 a2_2 l2_3 l2_4 = some r) ∧ Aside0 (kq ≤ kj31) ∧ Aside0 (Kd.R k125 125 w' w.heap.size (fun _ => True) v3124 t3123) ∧ Aside0 (w'.heap[gb3120]? = some (.cells #[.int .i64 a1_0, .string a1_1, .bool a1_2, (.slice A1_3 l1_3.length c1_3), (.slice A1_4 l1_4.length c1_4)] 51 (0, 0))) ∧ Aside0 (w'.heap[gb3121]? = some (.cells #[.int .i64 a2_0, .string a2_1, .bool a2_2, (.slice A2_3 l2_3.length c2_3), (.slice A2_4 l2_4.length c2_4)] 51 (0, 0))) ∧ Aside0 (Below w.heap.size w w'))
                case atStart => exact ⟨(0), (by first | rfl | (simp; done) | (simp [*]; done)), H', ⟨Nat.le_refl _⟩, ⟨by (with_reducible repeat (first | apply Kd.R_alloc | apply Kd.R_drewN | apply Kd.R_drew)); exact HO3125.out⟩, ⟨by (with_reducible repeat (first | refine blk_drewN ?_ _ | refine blk_drew ?_ | refine blk_alloc ?_ _)); exact BK3120.out⟩, ⟨by (with_reducible repeat (first | refine blk_drewN ?_ _ | refine blk_drew ?_ | refine blk_alloc ?_ _)); exact BK3121.out⟩, ⟨by repeat (first | (with_reducible first | exact HB.out | apply below_alloc | apply pw_below_drewN | apply below_drew1 | refine below_set ?_ GE3120.out | refine below_set ?_ GE3121.out) | exact HB.out)⟩⟩
                case round =>
                  clear H'
                  try clear c1
                  try clear c2
                  try clear p2
                  try clear c3
                  try clear c4
                  try clear c5
                  try clear c7
                  try clear c7b0
                  try clear c7b1
                  try clear c8
                  try clear c8b0
                  try clear c8b1
                  try clear c8b2
                  try clear c9
                  try clear c12
                  try clear c12b0
                  try clear c12b1
                  try clear c12b2
                  try clear c13
                  try clear c16
                  try clear c19
                  try clear c22
                  try clear c24
                  try clear c24b0
                  try clear c24b1
                  try clear c25
                  try clear c27
                  try clear c27b0
                  try clear c27b1
                  try clear c28
                  try clear c30
                  try clear c33
                  try clear c35
                  try clear c36
                  try clear c39
                  try clear c42
                  try clear c42b0
                  try clear c42b1
                  try clear c43
                  try clear c46
                  try clear c50
                  try clear hcz10_0
                  try clear hcz10_1
                  try clear hcz10_2
                  try clear hcz10_3
                  try clear hcz10_4
                  try clear hcz11_0
                  try clear hcz11_1
                  try clear hcz11_2
                  try clear hcz11_3
                  try clear hcz11_4
                  try clear hcz14_0
                  try clear hcz14_1
                  try clear hcz14_2
                  try clear hcz14_3
                  try clear hcz14_4
                  try clear hcz15_0
                  try clear hcz15_1
                  try clear hcz15_2
                  try clear hcz15_3
                  try clear hcz15_4
                  try clear hcz17_0
                  try clear hcz17_1
                  try clear hcz17_2
                  try clear hcz17_3
                  try clear hcz17_4
                  try clear hcz18_0
                  try clear hcz18_1
                  try clear hcz18_2
                  try clear hcz18_3
                  try clear hcz18_4
                  try clear hcz20_0
                  try clear hcz20_1
                  try clear hcz20_2
                  try clear hcz20_3
                  try clear hcz20_4
                  try clear hcz21_0
                  try clear hcz21_1
                  try clear hcz21_2
                  try clear hcz21_3
                  try clear hcz21_4
                  try clear hcz26_0
                  try clear hcz26_1
                  try clear hcz26_2
                  try clear hcz26_3
                  try clear hcz26_4
                  try clear hcz29_0
                  try clear hcz29_1
                  try clear hcz29_2
                  try clear hcz29_3
                  try clear hcz29_4
                  try clear hcz31_0
                  try clear hcz31_1
                  try clear hcz31_2
                  try clear hcz31_3
                  try clear hcz31_4
                  try clear hcz37_0
                  try clear hcz37_1
                  try clear hcz37_2
                  try clear hcz37_3
                  try clear hcz37_4
                  try clear hcz38_0
                  try clear hcz38_1
                  try clear hcz38_2
                  try clear hcz38_3
                  try clear hcz38_4
                  try clear hcz40_0
                  try clear hcz40_1
                  try clear hcz40_2
                  try clear hcz40_3
                  try clear hcz40_4
                  try clear hcz41_0
                  try clear hcz41_1
                  try clear hcz41_2
                  try clear hcz41_3
                  try clear hcz41_4
                  try clear hcz44_0
                  try clear hcz44_1
                  try clear hcz44_2
                  try clear hcz44_3
                  try clear hcz44_4
                  try clear hcz45_0
                  try clear hcz45_1
                  try clear hcz45_2
                  try clear hcz45_3
                  try clear hcz45_4
                  try clear hcz47_0
                  try clear hcz47_1
                  try clear hcz47_2
                  try clear hcz47_3
                  try clear hcz47_4
                  try clear hcz48_0
                  try clear hcz48_1
                  try clear hcz48_2
                  try clear hcz48_3
                  try clear hcz48_4
                  try clear hcz51_0
                  try clear hcz51_1
                  try clear hcz51_2
                  try clear hcz51_3
                  try clear hcz51_4
                  try clear hcz52_0
                  try clear hcz52_1
                  try clear hcz52_2
                  try clear hcz52_3
                  try clear hcz52_4
                  try clear hfz10_0
                  try clear hfz10_1
                  try clear hfz10_2
                  try clear hfz10_3
                  try clear hfz10_4
                  try clear hfz11_0
                  try clear hfz11_1
                  try clear hfz11_2
                  try clear hfz11_3
                  try clear hfz11_4
                  try clear hfz14_0
                  try clear hfz14_1
                  try clear hfz14_2
                  try clear hfz14_3
                  try clear hfz14_4
                  try clear hfz15_0
                  try clear hfz15_1
                  try clear hfz15_2
                  try clear hfz15_3
                  try clear hfz15_4
                  try clear hfz17_0
                  try clear hfz17_1
                  try clear hfz17_2
                  try clear hfz17_3
                  try clear hfz17_4
                  try clear hfz18_0
                  try clear hfz18_1
                  try clear hfz18_2
                  try clear hfz18_3
                  try clear hfz18_4
                  try clear hfz20_0
                  try clear hfz20_1
                  try clear hfz20_2
                  try clear hfz20_3
                  try clear hfz20_4
                  try clear hfz21_0
                  try clear hfz21_1
                  try clear hfz21_2
                  try clear hfz21_3
                  try clear hfz21_4
                  try clear hfz26_0
                  try clear hfz26_1
                  try clear hfz26_2
                  try clear hfz26_3
                  try clear hfz26_4
                  try clear hfz29_0
                  try clear hfz29_1
                  try clear hfz29_2
                  try clear hfz29_3
                  try clear hfz29_4
                  try clear hfz31_0
                  try clear hfz31_1
                  try clear hfz31_2
                  try clear hfz31_3
                  try clear hfz31_4
                  try clear hfz37_0
                  try clear hfz37_1
                  try clear hfz37_2
                  try clear hfz37_3
                  try clear hfz37_4
                  try clear hfz38_0
                  try clear hfz38_1
                  try clear hfz38_2
                  try clear hfz38_3
                  try clear hfz38_4
                  try clear hfz40_0
                  try clear hfz40_1
                  try clear hfz40_2
                  try clear hfz40_3
                  try clear hfz40_4
                  try clear hfz41_0
                  try clear hfz41_1
                  try clear hfz41_2
                  try clear hfz41_3
                  try clear hfz41_4
                  try clear hfz44_0
                  try clear hfz44_1
                  try clear hfz44_2
                  try clear hfz44_3
                  try clear hfz44_4
                  try clear hfz45_0
                  try clear hfz45_1
                  try clear hfz45_2
                  try clear hfz45_3
                  try clear hfz45_4
                  try clear hfz47_0
                  try clear hfz47_1
                  try clear hfz47_2
                  try clear hfz47_3
                  try clear hfz47_4
                  try clear hfz48_0
                  try clear hfz48_1
                  try clear hfz48_2
                  try clear hfz48_3
                  try clear hfz48_4
                  try clear hfz51_0
                  try clear hfz51_1
                  try clear hfz51_2
                  try clear hfz51_3
                  try clear hfz51_4
                  try clear hfz52_0
                  try clear hfz52_1
                  try clear hfz52_2
                  try clear hfz52_3
                  try clear hfz52_4
                  try clear p2
                  obtain ⟨x7_4, rfl, HA, HK4, HO_0, BK3120, BK3121, HB⟩ := hrel
                  cases gk with
                  | zero => exact absurd HA.out (by simp [spec_l5Alpha.l0])
                  | succ k4 =>
                    have H := HA.out
                    clear HA
                    simp only [spec_l5Alpha.l0] at H
                    by_cases c54 : x7_4 < (l1_4.length : Int)
                    · rw [if_pos c54] at H
                      have c54b0 : decide (x7_4 < (l1_4.length : Int)) = true := decide_eq_true c54
                      clear c54
                      by_cases c55 : 0 ≤ x7_4
                      · rw [if_pos c55] at H
                        have c55b0 : decide (0 ≤ x7_4) = true := decide_eq_true c55
                        clear c55
                        by_cases c56 : x7_4 < (l2_4.length : Int)
                        · rw [if_pos c56] at H
                          have c56b0 : decide (x7_4 < (l2_4.length : Int)) = true := decide_eq_true c56
                          clear c56
                          replace H := Option.bind_eq_some_iff.mp H
                          obtain ⟨t3128, A570, H⟩ := H
                          replace H : (if t3128 = true then (spec_l5Alpha.l0 k4 t3123 (wrap64 (x7_4 + 1)) a1_0 a1_1 a1_2 l1_3 l1_4 a2_0 a2_1 a2_2 l2_3 l2_4) else (some false)) = some r := H
                          have A57 := Aside0.mk A570
                          clear A570
                          by_cases c58 : t3128 = true
                          · subst c58
                            have H1 : (spec_l5Alpha.l0 k4 t3123 (wrap64 (x7_4 + 1)) a1_0 a1_1 a1_2 l1_3 l1_4 a2_0 a2_1 a2_2 l2_3 l2_4) = some r := by rw [if_pos rfl] at H; exact H
                            clear H
                            have H := H1
                            clear H1
                            have H' := Aside0.mk H
                            clear H
                            have hnb59 := NB3120_3121.out
                            have hnc59 := NB3121_3120.out
                            have hcz60_0 : wr.cell? ⟨gb3120, 0, none⟩ = some (.int .i64 a1_0) := (blk_cell BK3120.out 0).trans rfl
                            have hcz60_1 : wr.cell? ⟨gb3120, 1, none⟩ = some (.string a1_1) := (blk_cell BK3120.out 1).trans rfl
                            have hcz60_2 : wr.cell? ⟨gb3120, 2, none⟩ = some (.bool a1_2) := (blk_cell BK3120.out 2).trans rfl
                            have hcz60_3 : wr.cell? ⟨gb3120, 3, none⟩ = some (.slice A1_3 l1_3.length c1_3) := (blk_cell BK3120.out 3).trans rfl
                            have hcz60_4 : wr.cell? ⟨gb3120, 4, none⟩ = some (.slice A1_4 l1_4.length c1_4) := (blk_cell BK3120.out 4).trans rfl
                            have hfz60_0 := blk_frozen BK3120.out 0
                            have hfz60_1 := blk_frozen BK3120.out 1
                            have hfz60_2 := blk_frozen BK3120.out 2
                            have hfz60_3 := blk_frozen BK3120.out 3
                            have hfz60_4 := blk_frozen BK3120.out 4
                            try go_wp2
                            have n0_ := Aside0.mk (Kd.R_drew HO_0.out)
                            have n1_ := Aside0.mk (blk_drew BK3120.out)
                            have n2_ := Aside0.mk (blk_drew BK3121.out)
                            have n3_ := Aside0.mk (below_drew1 HB.out)
                            clear HO_0
                            clear BK3120
                            clear BK3121
                            clear HB
                            have HO_0 := n0_
                            have BK3120 := n1_
                            have BK3121 := n2_
                            have HB := n3_
                            clear n0_ n1_ n2_ n3_
                            have p3126 : 0 ≤ (x7_4 : Int) := of_decide_eq_true (by first | (with_reducible assumption) | assumption)
                            have q3126 : x7_4 < (l1_4.length : Int) := of_decide_eq_true (by first | (with_reducible assumption) | assumption)
                            obtain ⟨ad3126, A3126_3, c3126_3, A3126_4, c3126_4, e3126, hx3126_0, hx3126_1, hx3126_2, hx3126_3, hx3126_4, hl3126_3, hi3126_3, hl3126_4, hi3126_4⟩ := at_T51 HR1_4.out x7_4 p3126 q3126
                            have hw3126_4 := hx3126_4
                            have hw3126_3 := hx3126_3
                            have hw3126_2 := hx3126_2
                            have hw3126_1 := hx3126_1
                            have hw3126_0 := hx3126_0
                            cases e3126
                            replace hx3126_0 := (HB.out.cell (World.block_lt_of_cell? w _ hx3126_0)).trans hx3126_0
                            replace hx3126_1 := (HB.out.cell (World.block_lt_of_cell? w _ hx3126_1)).trans hx3126_1
                            replace hx3126_2 := (HB.out.cell (World.block_lt_of_cell? w _ hx3126_2)).trans hx3126_2
                            replace hx3126_3 := (HB.out.cell (World.block_lt_of_cell? w _ hx3126_3)).trans hx3126_3
                            replace hx3126_4 := (HB.out.cell (World.block_lt_of_cell? w _ hx3126_4)).trans hx3126_4
                            have HR3126_3 := Aside0.mk hi3126_3
                            have HC3126_3 := Aside0.mk hl3126_3
                            clear hi3126_3 hl3126_3
                            have HR3126_4 := Aside0.mk hi3126_4
                            have HC3126_4 := Aside0.mk hl3126_4
                            clear hi3126_4 hl3126_4
                            replace p3126 := eq_true p3126
                            replace q3126 := eq_true q3126
                            have p3127 : 0 ≤ (x7_4 : Int) := of_decide_eq_true (by first | (with_reducible assumption) | assumption)
                            have q3127 : x7_4 < (l2_4.length : Int) := of_decide_eq_true (by first | (with_reducible assumption) | assumption)
                            obtain ⟨ad3127, A3127_3, c3127_3, A3127_4, c3127_4, e3127, hx3127_0, hx3127_1, hx3127_2, hx3127_3, hx3127_4, hl3127_3, hi3127_3, hl3127_4, hi3127_4⟩ := at_T51 HR2_4.out x7_4 p3127 q3127
                            have hw3127_4 := hx3127_4
                            have hw3127_3 := hx3127_3
                            have hw3127_2 := hx3127_2
                            have hw3127_1 := hx3127_1
                            have hw3127_0 := hx3127_0
                            cases e3127
                            replace hx3127_0 := (HB.out.cell (World.block_lt_of_cell? w _ hx3127_0)).trans hx3127_0
                            replace hx3127_1 := (HB.out.cell (World.block_lt_of_cell? w _ hx3127_1)).trans hx3127_1
                            replace hx3127_2 := (HB.out.cell (World.block_lt_of_cell? w _ hx3127_2)).trans hx3127_2
                            replace hx3127_3 := (HB.out.cell (World.block_lt_of_cell? w _ hx3127_3)).trans hx3127_3
                            replace hx3127_4 := (HB.out.cell (World.block_lt_of_cell? w _ hx3127_4)).trans hx3127_4
                            have HR3127_3 := Aside0.mk hi3127_3
                            have HC3127_3 := Aside0.mk hl3127_3
                            clear hi3127_3 hl3127_3
                            have HR3127_4 := Aside0.mk hi3127_4
                            have HC3127_4 := Aside0.mk hl3127_4
                            clear hi3127_4 hl3127_4
                            replace p3127 := eq_true p3127
                            replace q3127 := eq_true q3127
                            obtain ⟨Ao62, co62, eo62⟩ := Kd.R_slice HO_0.out
                            (first | subst eo62 | (injection eo62 with f1_ f2_ f3_; have f4_ := f1_.symm; have f5_ := f3_.symm; clear f1_ f2_ f3_; subst f4_; subst f5_))
                            refine start_ (n := 13) (S := fun w' => w'.cell? ⟨gb3120, 0, none⟩ = some (.int .i64 a1_0) ∧ w'.cell? ⟨gb3120, 1, none⟩ = some (.string a1_1) ∧ w'.cell? ⟨gb3120, 2, none⟩ = some (.bool a1_2) ∧ w'.cell? ⟨gb3120, 3, none⟩ = some (.slice A1_3 l1_3.length c1_3) ∧ w'.cell? ⟨gb3120, 4, none⟩ = some (.slice (some ad3126) l1_4.length c1_4) ∧ w'.cell? ⟨gb3121, 0, none⟩ = some (.int .i64 a2_0) ∧ w'.cell? ⟨gb3121, 1, none⟩ = some (.string a2_1) ∧ w'.cell? ⟨gb3121, 2, none⟩ = some (.bool a2_2) ∧ w'.cell? ⟨gb3121, 3, none⟩ = some (.slice A2_3 l2_3.length c2_3) ∧ w'.cell? ⟨gb3121, 4, none⟩ = some (.slice (some ad3127) l2_4.length c2_4) ∧ w'.cell? (ad3126.add ((x7_4).toNat * 5)) = some (.int .i64 ((rd_T51 l1_4 x7_4).f0)) ∧ w'.cell? ⟨(ad3126.add ((x7_4).toNat * 5)).block, (ad3126.add ((x7_4).toNat * 5)).off + 1, none⟩ = some (.string ((rd_T51 l1_4 x7_4).f1)) ∧ w'.cell? ⟨(ad3126.add ((x7_4).toNat * 5)).block, (ad3126.add ((x7_4).toNat * 5)).off + 2, none⟩ = some (.bool ((rd_T51 l1_4 x7_4).f2)) ∧ w'.cell? ⟨(ad3126.add ((x7_4).toNat * 5)).block, (ad3126.add ((x7_4).toNat * 5)).off + 3, none⟩ = some (.slice A3126_3 ((rd_T51 l1_4 x7_4).f3).length c3126_3) ∧ w'.cell? ⟨(ad3126.add ((x7_4).toNat * 5)).block, (ad3126.add ((x7_4).toNat * 5)).off + 4, none⟩ = some (.slice A3126_4 ((rd_T51 l1_4 x7_4).f4).length c3126_4) ∧ w'.cell? (ad3127.add ((x7_4).toNat * 5)) = some (.int .i64 ((rd_T51 l2_4 x7_4).f0)) ∧ w'.cell? ⟨(ad3127.add ((x7_4).toNat * 5)).block, (ad3127.add ((x7_4).toNat * 5)).off + 1, none⟩ = some (.string ((rd_T51 l2_4 x7_4).f1)) ∧ w'.cell? ⟨(ad3127.add ((x7_4).toNat * 5)).block, (ad3127.add ((x7_4).toNat * 5)).off + 2, none⟩ = some (.bool ((rd_T51 l2_4 x7_4).f2)) ∧ w'.cell? ⟨(ad3127.add ((x7_4).toNat * 5)).block, (ad3127.add ((x7_4).toNat * 5)).off + 3, none⟩ = some (.slice A3127_3 ((rd_T51 l2_4 x7_4).f3).length c3127_3) ∧ w'.cell? ⟨(ad3127.add ((x7_4).toNat * 5)).block, (ad3127.add ((x7_4).toNat * 5)).off + 4, none⟩ = some (.slice A3127_4 ((rd_T51 l2_4 x7_4).f4).length c3127_4)) (ds := []) #[false, false, false, false, false, false, false, false, false, false, false, false, false] (by kernel_rfl) rfl rfl ⟨(blk_cell BK3120.out 0).trans rfl, (blk_cell BK3120.out 1).trans rfl, (blk_cell BK3120.out 2).trans rfl, (blk_cell BK3120.out 3).trans rfl, (blk_cell BK3120.out 4).trans rfl, (blk_cell BK3121.out 0).trans rfl, (blk_cell BK3121.out 1).trans rfl, (blk_cell BK3121.out 2).trans rfl, (blk_cell BK3121.out 3).trans rfl, (blk_cell BK3121.out 4).trans rfl, ((HB.out.cell (World.block_lt_of_cell? w _ hw3126_0)).trans hw3126_0), ((HB.out.cell (World.block_lt_of_cell? w _ hw3126_1)).trans hw3126_1), ((HB.out.cell (World.block_lt_of_cell? w _ hw3126_2)).trans hw3126_2), ((HB.out.cell (World.block_lt_of_cell? w _ hw3126_3)).trans hw3126_3), ((HB.out.cell (World.block_lt_of_cell? w _ hw3126_4)).trans hw3126_4), ((HB.out.cell (World.block_lt_of_cell? w _ hw3127_0)).trans hw3127_0), ((HB.out.cell (World.block_lt_of_cell? w _ hw3127_1)).trans hw3127_1), ((HB.out.cell (World.block_lt_of_cell? w _ hw3127_2)).trans hw3127_2), ((HB.out.cell (World.block_lt_of_cell? w _ hw3127_3)).trans hw3127_3), ((HB.out.cell (World.block_lt_of_cell? w _ hw3127_4)).trans hw3127_4)⟩ (fun hHeld => ?_); refine with_tabW spec_l5Alpha.tab12 spec_l5Alpha.bits12 (fun HT_ HW_ => ?_)
                            generalize wr.drew = w61 at HO_0 BK3120 BK3121 HB HR3126_3 HR3126_4 HR3127_3 HR3127_4 hx3126_0 hx3126_1 hx3126_2 hx3126_3 hx3126_4 hx3127_0 hx3127_1 hx3127_2 hx3127_3 hx3127_4 hHeld ⊢
                            refine pure_ (i := 0) (N := some 76) (v := ?_) (a' := ?_) #[true, false, false, false, false, false, false, false, false, false, false, false, false] rfl rfl (any_of HT_.out (by kernel_rfl)) (fun _ _ _ h => h) (Or.inl ⟨by rfl, ?_⟩) ?_ ?_
                            rotate_left
                            · intro w'
                              go_simp
                              with_reducible rfl
                            rotate_left
                            · simp only [Act.put, List.setIfInBounds_toArray, List.set_cons_zero, List.set_cons_succ, i64_w, i32_w]
                              rfl
                            refine pure_ (i := 1) (N := some 77) (v := ?_) (a' := ?_) #[true, true, false, false, false, false, false, false, false, false, false, false, false] rfl rfl (any_of HT_.out (by kernel_rfl)) (fun _ _ _ h => h) (Or.inl ⟨by rfl, ?_⟩) ?_ ?_
                            rotate_left
                            · intro w'
                              go_simp
                              with_reducible rfl
                            rotate_left
                            · simp only [Act.put, List.setIfInBounds_toArray, List.set_cons_zero, List.set_cons_succ, i64_w, i32_w]
                              rfl
                            refine pure_ (i := 3) (N := some 79) (v := ?_) (a' := ?_) #[true, true, false, true, false, false, false, false, false, false, false, false, false] rfl rfl (any_of HT_.out (by kernel_rfl)) (fun _ _ _ h => h) (Or.inl ⟨by rfl, ?_⟩) ?_ ?_
                            rotate_left
                            · intro w'
                              go_simp
                              with_reducible rfl
                            rotate_left
                            · simp only [Act.put, List.setIfInBounds_toArray, List.set_cons_zero, List.set_cons_succ, i64_w, i32_w]
                              rfl
                            refine pure_ (i := 6) (N := some 82) (v := ?_) (a' := ?_) #[true, true, false, true, false, false, true, false, false, false, false, false, false] rfl rfl (any_of HT_.out (by kernel_rfl)) (fun _ _ _ h => h) (Or.inl ⟨by rfl, ?_⟩) ?_ ?_
                            rotate_left
                            · intro w'
                              go_simp
                              with_reducible rfl
                            rotate_left
                            · simp only [Act.put, List.setIfInBounds_toArray, List.set_cons_zero, List.set_cons_succ, i64_w, i32_w]
                              rfl
                            refine pure_ (i := 8) (N := some 84) (v := ?_) (a' := ?_) #[true, true, false, true, false, false, true, false, true, false, false, false, false] rfl rfl (any_of HT_.out (by kernel_rfl)) (fun _ _ _ h => h) (Or.inl ⟨by rfl, ?_⟩) ?_ ?_
                            rotate_left
                            · intro w'
                              go_simp
                              with_reducible rfl
                            rotate_left
                            · simp only [Act.put, List.setIfInBounds_toArray, List.set_cons_zero, List.set_cons_succ, i64_w, i32_w]
                              rfl
                            refine take_ (i := 2) (N := some 78) (v := ?_) (a' := ?_) #[true, true, true, true, false, false, true, false, true, false, false, false, false] rfl rfl (take_ofW HT_.out HW_.out (by kernel_rfl)) (fun _ _ _ h => h) (Or.inl ⟨by rfl, ?_⟩) hHeld ?_ ?_
                            rotate_left
                            · rintro w' ⟨s0, s1, s2, s3, s4, s5, s6, s7, s8, s9, s10, s11, s12, s13, s14, s15, s16, s17, s18, s19⟩
                              go_simp
                              with_reducible rfl
                            rotate_left
                            · simp only [Act.put, List.setIfInBounds_toArray, List.set_cons_zero, List.set_cons_succ, i64_w, i32_w]
                              rfl
                            refine pure_ (i := 4) (N := some 80) (v := ?_) (a' := ?_) #[true, true, true, true, true, false, true, false, true, false, false, false, false] rfl rfl (any_of HT_.out (by kernel_rfl)) (fun _ _ _ h => h) (Or.inl ⟨by rfl, ?_⟩) ?_ ?_
                            rotate_left
                            · intro w'
                              go_simp
                              with_reducible rfl
                            rotate_left
                            · simp only [Act.put, List.setIfInBounds_toArray, List.set_cons_zero, List.set_cons_succ, i64_w, i32_w]
                              rfl
                            refine take_ (i := 5) (N := some 81) (v := ?_) (a' := ?_) #[true, true, true, true, true, true, true, false, true, false, false, false, false] rfl rfl (take_ofW HT_.out HW_.out (by kernel_rfl)) (fun _ _ _ h => h) (Or.inl ⟨by rfl, ?_⟩) hHeld ?_ ?_
                            rotate_left
                            · rintro w' ⟨s0, s1, s2, s3, s4, s5, s6, s7, s8, s9, s10, s11, s12, s13, s14, s15, s16, s17, s18, s19⟩
                              go_simp
                              with_reducible rfl
                            rotate_left
                            · simp only [Act.put, List.setIfInBounds_toArray, List.set_cons_zero, List.set_cons_succ, i64_w, i32_w]
                              rfl
                            refine take_ (i := 7) (N := some 83) (v := ?_) (a' := ?_) #[true, true, true, true, true, true, true, true, true, false, false, false, false] rfl rfl (take_ofW HT_.out HW_.out (by kernel_rfl)) (fun _ _ _ h => h) (Or.inl ⟨by rfl, ?_⟩) hHeld ?_ ?_
                            rotate_left
                            · rintro w' ⟨s0, s1, s2, s3, s4, s5, s6, s7, s8, s9, s10, s11, s12, s13, s14, s15, s16, s17, s18, s19⟩
                              go_simp
                              with_reducible rfl
                            rotate_left
                            · simp only [Act.put, List.setIfInBounds_toArray, List.set_cons_zero, List.set_cons_succ, i64_w, i32_w]
                              rfl
                            refine pure_ (i := 9) (N := some 85) (v := ?_) (a' := ?_) #[true, true, true, true, true, true, true, true, true, true, false, false, false] rfl rfl (any_of HT_.out (by kernel_rfl)) (fun _ _ _ h => h) (Or.inl ⟨by rfl, ?_⟩) ?_ ?_
                            rotate_left
                            · intro w'
                              go_simp
                              with_reducible rfl
                            rotate_left
                            · simp only [Act.put, List.setIfInBounds_toArray, List.set_cons_zero, List.set_cons_succ, i64_w, i32_w]
                              rfl
                            refine take_ (i := 10) (N := some 86) (v := ?_) (a' := ?_) #[true, true, true, true, true, true, true, true, true, true, true, false, false] rfl rfl (take_ofW HT_.out HW_.out (by kernel_rfl)) (fun _ _ _ h => h) (Or.inl ⟨by rfl, ?_⟩) hHeld ?_ ?_
                            rotate_left
                            · rintro w' ⟨s0, s1, s2, s3, s4, s5, s6, s7, s8, s9, s10, s11, s12, s13, s14, s15, s16, s17, s18, s19⟩
                              go_simp
                              with_reducible rfl
                            rotate_left
                            · simp only [Act.put, List.setIfInBounds_toArray, List.set_cons_zero, List.set_cons_succ, i64_w, i32_w]
                              rfl
                            refine one_ (i := 11) (N := some 87) #[true, true, true, true, true, true, true, true, true, true, true, true, false] rfl rfl (one_of HT_.out (by kernel_rfl)) (by decide) (fun K hK => ?_)
                            refine goes_ Try.func42 (by kernel_rfl) rfl #[.slice Ao62 t3123.length co62, .agg #[.int .i64 ((rd_T51 l1_4 x7_4).f0), .string ((rd_T51 l1_4 x7_4).f1), .bool ((rd_T51 l1_4 x7_4).f2), .slice A3126_3 ((rd_T51 l1_4 x7_4).f3).length c3126_3, .slice A3126_4 ((rd_T51 l1_4 x7_4).f4).length c3126_4], .agg #[.int .i64 ((rd_T51 l2_4 x7_4).f0), .string ((rd_T51 l2_4 x7_4).f1), .bool ((rd_T51 l2_4 x7_4).f2), .slice A3127_3 ((rd_T51 l2_4 x7_4).f3).length c3127_3, .slice A3127_4 ((rd_T51 l2_4 x7_4).f4).length c3127_4]] (by rfl) rfl rfl (by (try simp only [List.map_toArray, List.map_cons, List.map_nil]); first | done | rfl | (simp only [List.length_drop, List.length_take]; rfl)) ?_
                            with_reducible refine (ih k4 (by have := HJ3.out; have := HJ22.out; have := HJ31.out; have := HK4.out; omega) _ _ t3123 ((rd_T51 l1_4 x7_4).f0) ((rd_T51 l1_4 x7_4).f1) ((rd_T51 l1_4 x7_4).f2) _ _ ((rd_T51 l1_4 x7_4).f3) _ _ ((rd_T51 l1_4 x7_4).f4) ((rd_T51 l2_4 x7_4).f0) ((rd_T51 l2_4 x7_4).f1) ((rd_T51 l2_4 x7_4).f2) _ _ ((rd_T51 l2_4 x7_4).f3) _ _ ((rd_T51 l2_4 x7_4).f4) true _ ?side1 ?side2 ?side3 ?side4 ?side5 ?side6 ?side7 ?side8 ?side9 ?side10 A57.out).mono ?_
                            (case side1 => repeat (first | exact (Kd.R_reads' HO_0.out).2.2 | (with_reducible refine Kd.C_alloc ?_ _) | (with_reducible refine Kd.C_drewN ?_ _) | (with_reducible refine Kd.C_drew ?_)))
                            (case side2 => exact (Kd.R_reads' HO_0.out).2.1)
                            (case side3 => repeat (first | exact (Kd.C_below HR3126_3.out HB.out) | (with_reducible refine Kd.C_alloc ?_ _) | (with_reducible refine Kd.C_drewN ?_ _) | (with_reducible refine Kd.C_drew ?_)))
                            (case side4 => exact HC3126_3.out)
                            (case side5 => repeat (first | exact (Kd.C_below HR3126_4.out HB.out) | (with_reducible refine Kd.C_alloc ?_ _) | (with_reducible refine Kd.C_drewN ?_ _) | (with_reducible refine Kd.C_drew ?_)))
                            (case side6 => exact HC3126_4.out)
                            (case side7 => repeat (first | exact (Kd.C_below HR3127_3.out HB.out) | (with_reducible refine Kd.C_alloc ?_ _) | (with_reducible refine Kd.C_drewN ?_ _) | (with_reducible refine Kd.C_drew ?_)))
                            (case side8 => exact HC3127_3.out)
                            (case side9 => repeat (first | exact (Kd.C_below HR3127_4.out HB.out) | (with_reducible refine Kd.C_alloc ?_ _) | (with_reducible refine Kd.C_drewN ?_ _) | (with_reducible refine Kd.C_drew ?_)))
                            (case side10 => exact HC3127_4.out)
                            rintro e w63 ⟨rfl, hb⟩
                            refine ⟨_, rfl, ?_⟩
                            have n0_ := Aside0.mk (Kd.R_below (by (with_reducible repeat (first | apply Kd.R_alloc | apply Kd.R_drewN | apply Kd.R_drew)); exact HO_0.out) hb)
                            have n1_ := Aside0.mk (blk_below (g := gb3120) (o := .cells #[.int .i64 a1_0, .string a1_1, .bool a1_2, .slice A1_3 l1_3.length c1_3, .slice (some ad3126) l1_4.length c1_4] 51 (0, 0)) (by (with_reducible repeat (first | refine blk_drewN ?_ _ | refine blk_drew ?_ | refine blk_alloc ?_ _)); exact BK3120.out) hb)
                            have n2_ := Aside0.mk (blk_below (g := gb3121) (o := .cells #[.int .i64 a2_0, .string a2_1, .bool a2_2, .slice A2_3 l2_3.length c2_3, .slice (some ad3127) l2_4.length c2_4] 51 (0, 0)) (by (with_reducible repeat (first | refine blk_drewN ?_ _ | refine blk_drew ?_ | refine blk_alloc ?_ _)); exact BK3121.out) hb)
                            have n3_ := Aside0.mk (below_step (by repeat (first | (with_reducible first | exact HB.out | apply below_alloc | apply pw_below_drewN | apply below_drew1 | refine below_set ?_ GE3120.out | refine below_set ?_ GE3121.out) | exact HB.out)) hb)
                            clear HO_0
                            clear BK3120
                            clear BK3121
                            clear HB
                            have HO_0 := n0_
                            have BK3120 := n1_
                            have BK3121 := n2_
                            have HB := n3_
                            clear n0_ n1_ n2_ n3_
                            (try clear hb)
                            (try clear hb2)
                            (try clear hk)
                            (try clear hi)
                            refine hK.out _ _ ⟨(blk_cell BK3120.out 0).trans rfl, (blk_cell BK3120.out 1).trans rfl, (blk_cell BK3120.out 2).trans rfl, (blk_cell BK3120.out 3).trans rfl, (blk_cell BK3120.out 4).trans rfl, (blk_cell BK3121.out 0).trans rfl, (blk_cell BK3121.out 1).trans rfl, (blk_cell BK3121.out 2).trans rfl, (blk_cell BK3121.out 3).trans rfl, (blk_cell BK3121.out 4).trans rfl, ((HB.out.cell (World.block_lt_of_cell? w _ hw3126_0)).trans hw3126_0), ((HB.out.cell (World.block_lt_of_cell? w _ hw3126_1)).trans hw3126_1), ((HB.out.cell (World.block_lt_of_cell? w _ hw3126_2)).trans hw3126_2), ((HB.out.cell (World.block_lt_of_cell? w _ hw3126_3)).trans hw3126_3), ((HB.out.cell (World.block_lt_of_cell? w _ hw3126_4)).trans hw3126_4), ((HB.out.cell (World.block_lt_of_cell? w _ hw3127_0)).trans hw3127_0), ((HB.out.cell (World.block_lt_of_cell? w _ hw3127_1)).trans hw3127_1), ((HB.out.cell (World.block_lt_of_cell? w _ hw3127_2)).trans hw3127_2), ((HB.out.cell (World.block_lt_of_cell? w _ hw3127_3)).trans hw3127_3), ((HB.out.cell (World.block_lt_of_cell? w _ hw3127_4)).trans hw3127_4)⟩ (fun hHeld => ?_)
                            clear hK K
                            refine norm_ (a' := ?_) ?_ ?_
                            rotate_left
                            · show Act.put _ (some 87) _ = _
                              simp only [Act.put, List.setIfInBounds_toArray, List.set_cons_zero, List.set_cons_succ, i64_w, i32_w]
                              rfl
                            refine pure_ (i := 12) (N := some 88) (v := ?_) (a' := ?_) #[true, true, true, true, true, true, true, true, true, true, true, true, true] rfl rfl (any_of HT_.out (by kernel_rfl)) (fun _ _ _ h => h) (Or.inl ⟨by rfl, ?_⟩) ?_ ?_
                            rotate_left
                            · intro w'
                              go_simp
                              with_reducible rfl
                            rotate_left
                            · simp only [Act.put, List.setIfInBounds_toArray, List.set_cons_zero, List.set_cons_succ, i64_w, i32_w]
                              rfl
                            refine done_ (done_of HT_.out (by kernel_rfl)) ?_
                            try go_wp2
                            go_roundg k4
                            case measure => have := HJ3.out; have := HJ22.out; have := HJ31.out; have := HK4.out; omega
                            case rel => exact ⟨(wrap64 (x7_4 + 1)), (by first | rfl | (simp; done) | (simp [*]; done)), H', ⟨by have := HJ3.out; have := HJ22.out; have := HJ31.out; have := HK4.out; omega⟩, ⟨by (with_reducible repeat (first | apply Kd.R_alloc | apply Kd.R_drewN | apply Kd.R_drew)); exact HO_0.out⟩, ⟨by (with_reducible repeat (first | refine blk_drewN ?_ _ | refine blk_drew ?_ | refine blk_alloc ?_ _)); exact BK3120.out⟩, ⟨by (with_reducible repeat (first | refine blk_drewN ?_ _ | refine blk_drew ?_ | refine blk_alloc ?_ _)); exact BK3121.out⟩, ⟨by repeat (first | (with_reducible first | exact HB.out | apply below_alloc | apply pw_below_drewN | apply below_drew1 | refine below_set ?_ GE3120.out | refine below_set ?_ GE3121.out) | exact HB.out)⟩⟩
                          · replace c58 := Bool.eq_false_iff.mpr c58
                            subst c58
                            have H1 : (some false) = some r := by rw [if_neg (show ¬ (false = true) by decide)] at H; exact H
                            clear H
                            have H := H1
                            clear H1
                            obtain rfl := Option.some.inj H
                            have hnb64 := NB3120_3121.out
                            have hnc64 := NB3121_3120.out
                            have hcz65_0 : wr.cell? ⟨gb3120, 0, none⟩ = some (.int .i64 a1_0) := (blk_cell BK3120.out 0).trans rfl
                            have hcz65_1 : wr.cell? ⟨gb3120, 1, none⟩ = some (.string a1_1) := (blk_cell BK3120.out 1).trans rfl
                            have hcz65_2 : wr.cell? ⟨gb3120, 2, none⟩ = some (.bool a1_2) := (blk_cell BK3120.out 2).trans rfl
                            have hcz65_3 : wr.cell? ⟨gb3120, 3, none⟩ = some (.slice A1_3 l1_3.length c1_3) := (blk_cell BK3120.out 3).trans rfl
                            have hcz65_4 : wr.cell? ⟨gb3120, 4, none⟩ = some (.slice A1_4 l1_4.length c1_4) := (blk_cell BK3120.out 4).trans rfl
                            have hfz65_0 := blk_frozen BK3120.out 0
                            have hfz65_1 := blk_frozen BK3120.out 1
                            have hfz65_2 := blk_frozen BK3120.out 2
                            have hfz65_3 := blk_frozen BK3120.out 3
                            have hfz65_4 := blk_frozen BK3120.out 4
                            try go_wp2
                            have n0_ := Aside0.mk (Kd.R_drew HO_0.out)
                            have n1_ := Aside0.mk (blk_drew BK3120.out)
                            have n2_ := Aside0.mk (blk_drew BK3121.out)
                            have n3_ := Aside0.mk (below_drew1 HB.out)
                            clear HO_0
                            clear BK3120
                            clear BK3121
                            clear HB
                            have HO_0 := n0_
                            have BK3120 := n1_
                            have BK3121 := n2_
                            have HB := n3_
                            clear n0_ n1_ n2_ n3_
                            have p3126 : 0 ≤ (x7_4 : Int) := of_decide_eq_true (by first | (with_reducible assumption) | assumption)
                            have q3126 : x7_4 < (l1_4.length : Int) := of_decide_eq_true (by first | (with_reducible assumption) | assumption)
                            obtain ⟨ad3126, A3126_3, c3126_3, A3126_4, c3126_4, e3126, hx3126_0, hx3126_1, hx3126_2, hx3126_3, hx3126_4, hl3126_3, hi3126_3, hl3126_4, hi3126_4⟩ := at_T51 HR1_4.out x7_4 p3126 q3126
                            have hw3126_4 := hx3126_4
                            have hw3126_3 := hx3126_3
                            have hw3126_2 := hx3126_2
                            have hw3126_1 := hx3126_1
                            have hw3126_0 := hx3126_0
                            cases e3126
                            replace hx3126_0 := (HB.out.cell (World.block_lt_of_cell? w _ hx3126_0)).trans hx3126_0
                            replace hx3126_1 := (HB.out.cell (World.block_lt_of_cell? w _ hx3126_1)).trans hx3126_1
                            replace hx3126_2 := (HB.out.cell (World.block_lt_of_cell? w _ hx3126_2)).trans hx3126_2
                            replace hx3126_3 := (HB.out.cell (World.block_lt_of_cell? w _ hx3126_3)).trans hx3126_3
                            replace hx3126_4 := (HB.out.cell (World.block_lt_of_cell? w _ hx3126_4)).trans hx3126_4
                            have HR3126_3 := Aside0.mk hi3126_3
                            have HC3126_3 := Aside0.mk hl3126_3
                            clear hi3126_3 hl3126_3
                            have HR3126_4 := Aside0.mk hi3126_4
                            have HC3126_4 := Aside0.mk hl3126_4
                            clear hi3126_4 hl3126_4
                            replace p3126 := eq_true p3126
                            replace q3126 := eq_true q3126
                            have p3127 : 0 ≤ (x7_4 : Int) := of_decide_eq_true (by first | (with_reducible assumption) | assumption)
                            have q3127 : x7_4 < (l2_4.length : Int) := of_decide_eq_true (by first | (with_reducible assumption) | assumption)
                            obtain ⟨ad3127, A3127_3, c3127_3, A3127_4, c3127_4, e3127, hx3127_0, hx3127_1, hx3127_2, hx3127_3, hx3127_4, hl3127_3, hi3127_3, hl3127_4, hi3127_4⟩ := at_T51 HR2_4.out x7_4 p3127 q3127
                            have hw3127_4 := hx3127_4
                            have hw3127_3 := hx3127_3
                            have hw3127_2 := hx3127_2
                            have hw3127_1 := hx3127_1
                            have hw3127_0 := hx3127_0
                            cases e3127
                            replace hx3127_0 := (HB.out.cell (World.block_lt_of_cell? w _ hx3127_0)).trans hx3127_0
                            replace hx3127_1 := (HB.out.cell (World.block_lt_of_cell? w _ hx3127_1)).trans hx3127_1
                            replace hx3127_2 := (HB.out.cell (World.block_lt_of_cell? w _ hx3127_2)).trans hx3127_2
                            replace hx3127_3 := (HB.out.cell (World.block_lt_of_cell? w _ hx3127_3)).trans hx3127_3
                            replace hx3127_4 := (HB.out.cell (World.block_lt_of_cell? w _ hx3127_4)).trans hx3127_4
                            have HR3127_3 := Aside0.mk hi3127_3
                            have HC3127_3 := Aside0.mk hl3127_3
                            clear hi3127_3 hl3127_3
                            have HR3127_4 := Aside0.mk hi3127_4
                            have HC3127_4 := Aside0.mk hl3127_4
                            clear hi3127_4 hl3127_4
                            replace p3127 := eq_true p3127
                            replace q3127 := eq_true q3127
                            obtain ⟨Ao67, co67, eo67⟩ := Kd.R_slice HO_0.out
                            (first | subst eo67 | (injection eo67 with f1_ f2_ f3_; have f4_ := f1_.symm; have f5_ := f3_.symm; clear f1_ f2_ f3_; subst f4_; subst f5_))
                            refine start_ (n := 13) (S := fun w' => w'.cell? ⟨gb3120, 0, none⟩ = some (.int .i64 a1_0) ∧ w'.cell? ⟨gb3120, 1, none⟩ = some (.string a1_1) ∧ w'.cell? ⟨gb3120, 2, none⟩ = some (.bool a1_2) ∧ w'.cell? ⟨gb3120, 3, none⟩ = some (.slice A1_3 l1_3.length c1_3) ∧ w'.cell? ⟨gb3120, 4, none⟩ = some (.slice (some ad3126) l1_4.length c1_4) ∧ w'.cell? ⟨gb3121, 0, none⟩ = some (.int .i64 a2_0) ∧ w'.cell? ⟨gb3121, 1, none⟩ = some (.string a2_1) ∧ w'.cell? ⟨gb3121, 2, none⟩ = some (.bool a2_2) ∧ w'.cell? ⟨gb3121, 3, none⟩ = some (.slice A2_3 l2_3.length c2_3) ∧ w'.cell? ⟨gb3121, 4, none⟩ = some (.slice (some ad3127) l2_4.length c2_4) ∧ w'.cell? (ad3126.add ((x7_4).toNat * 5)) = some (.int .i64 ((rd_T51 l1_4 x7_4).f0)) ∧ w'.cell? ⟨(ad3126.add ((x7_4).toNat * 5)).block, (ad3126.add ((x7_4).toNat * 5)).off + 1, none⟩ = some (.string ((rd_T51 l1_4 x7_4).f1)) ∧ w'.cell? ⟨(ad3126.add ((x7_4).toNat * 5)).block, (ad3126.add ((x7_4).toNat * 5)).off + 2, none⟩ = some (.bool ((rd_T51 l1_4 x7_4).f2)) ∧ w'.cell? ⟨(ad3126.add ((x7_4).toNat * 5)).block, (ad3126.add ((x7_4).toNat * 5)).off + 3, none⟩ = some (.slice A3126_3 ((rd_T51 l1_4 x7_4).f3).length c3126_3) ∧ w'.cell? ⟨(ad3126.add ((x7_4).toNat * 5)).block, (ad3126.add ((x7_4).toNat * 5)).off + 4, none⟩ = some (.slice A3126_4 ((rd_T51 l1_4 x7_4).f4).length c3126_4) ∧ w'.cell? (ad3127.add ((x7_4).toNat * 5)) = some (.int .i64 ((rd_T51 l2_4 x7_4).f0)) ∧ w'.cell? ⟨(ad3127.add ((x7_4).toNat * 5)).block, (ad3127.add ((x7_4).toNat * 5)).off + 1, none⟩ = some (.string ((rd_T51 l2_4 x7_4).f1)) ∧ w'.cell? ⟨(ad3127.add ((x7_4).toNat * 5)).block, (ad3127.add ((x7_4).toNat * 5)).off + 2, none⟩ = some (.bool ((rd_T51 l2_4 x7_4).f2)) ∧ w'.cell? ⟨(ad3127.add ((x7_4).toNat * 5)).block, (ad3127.add ((x7_4).toNat * 5)).off + 3, none⟩ = some (.slice A3127_3 ((rd_T51 l2_4 x7_4).f3).length c3127_3) ∧ w'.cell? ⟨(ad3127.add ((x7_4).toNat * 5)).block, (ad3127.add ((x7_4).toNat * 5)).off + 4, none⟩ = some (.slice A3127_4 ((rd_T51 l2_4 x7_4).f4).length c3127_4)) (ds := []) #[false, false, false, false, false, false, false, false, false, false, false, false, false] (by kernel_rfl) rfl rfl ⟨(blk_cell BK3120.out 0).trans rfl, (blk_cell BK3120.out 1).trans rfl, (blk_cell BK3120.out 2).trans rfl, (blk_cell BK3120.out 3).trans rfl, (blk_cell BK3120.out 4).trans rfl, (blk_cell BK3121.out 0).trans rfl, (blk_cell BK3121.out 1).trans rfl, (blk_cell BK3121.out 2).trans rfl, (blk_cell BK3121.out 3).trans rfl, (blk_cell BK3121.out 4).trans rfl, ((HB.out.cell (World.block_lt_of_cell? w _ hw3126_0)).trans hw3126_0), ((HB.out.cell (World.block_lt_of_cell? w _ hw3126_1)).trans hw3126_1), ((HB.out.cell (World.block_lt_of_cell? w _ hw3126_2)).trans hw3126_2), ((HB.out.cell (World.block_lt_of_cell? w _ hw3126_3)).trans hw3126_3), ((HB.out.cell (World.block_lt_of_cell? w _ hw3126_4)).trans hw3126_4), ((HB.out.cell (World.block_lt_of_cell? w _ hw3127_0)).trans hw3127_0), ((HB.out.cell (World.block_lt_of_cell? w _ hw3127_1)).trans hw3127_1), ((HB.out.cell (World.block_lt_of_cell? w _ hw3127_2)).trans hw3127_2), ((HB.out.cell (World.block_lt_of_cell? w _ hw3127_3)).trans hw3127_3), ((HB.out.cell (World.block_lt_of_cell? w _ hw3127_4)).trans hw3127_4)⟩ (fun hHeld => ?_); refine with_tabW spec_l5Alpha.tab12 spec_l5Alpha.bits12 (fun HT_ HW_ => ?_)
                            generalize wr.drew = w66 at HO_0 BK3120 BK3121 HB HR3126_3 HR3126_4 HR3127_3 HR3127_4 hx3126_0 hx3126_1 hx3126_2 hx3126_3 hx3126_4 hx3127_0 hx3127_1 hx3127_2 hx3127_3 hx3127_4 hHeld ⊢
                            refine pure_ (i := 0) (N := some 76) (v := ?_) (a' := ?_) #[true, false, false, false, false, false, false, false, false, false, false, false, false] rfl rfl (any_of HT_.out (by kernel_rfl)) (fun _ _ _ h => h) (Or.inl ⟨by rfl, ?_⟩) ?_ ?_
                            rotate_left
                            · intro w'
                              go_simp
                              with_reducible rfl
                            rotate_left
                            · simp only [Act.put, List.setIfInBounds_toArray, List.set_cons_zero, List.set_cons_succ, i64_w, i32_w]
                              rfl
                            refine pure_ (i := 1) (N := some 77) (v := ?_) (a' := ?_) #[true, true, false, false, false, false, false, false, false, false, false, false, false] rfl rfl (any_of HT_.out (by kernel_rfl)) (fun _ _ _ h => h) (Or.inl ⟨by rfl, ?_⟩) ?_ ?_
                            rotate_left
                            · intro w'
                              go_simp
                              with_reducible rfl
                            rotate_left
                            · simp only [Act.put, List.setIfInBounds_toArray, List.set_cons_zero, List.set_cons_succ, i64_w, i32_w]
                              rfl
                            refine pure_ (i := 3) (N := some 79) (v := ?_) (a' := ?_) #[true, true, false, true, false, false, false, false, false, false, false, false, false] rfl rfl (any_of HT_.out (by kernel_rfl)) (fun _ _ _ h => h) (Or.inl ⟨by rfl, ?_⟩) ?_ ?_
                            rotate_left
                            · intro w'
                              go_simp
                              with_reducible rfl
                            rotate_left
                            · simp only [Act.put, List.setIfInBounds_toArray, List.set_cons_zero, List.set_cons_succ, i64_w, i32_w]
                              rfl
                            refine pure_ (i := 6) (N := some 82) (v := ?_) (a' := ?_) #[true, true, false, true, false, false, true, false, false, false, false, false, false] rfl rfl (any_of HT_.out (by kernel_rfl)) (fun _ _ _ h => h) (Or.inl ⟨by rfl, ?_⟩) ?_ ?_
                            rotate_left
                            · intro w'
                              go_simp
                              with_reducible rfl
                            rotate_left
                            · simp only [Act.put, List.setIfInBounds_toArray, List.set_cons_zero, List.set_cons_succ, i64_w, i32_w]
                              rfl
                            refine pure_ (i := 8) (N := some 84) (v := ?_) (a' := ?_) #[true, true, false, true, false, false, true, false, true, false, false, false, false] rfl rfl (any_of HT_.out (by kernel_rfl)) (fun _ _ _ h => h) (Or.inl ⟨by rfl, ?_⟩) ?_ ?_
                            rotate_left
                            · intro w'
                              go_simp
                              with_reducible rfl
                            rotate_left
                            · simp only [Act.put, List.setIfInBounds_toArray, List.set_cons_zero, List.set_cons_succ, i64_w, i32_w]
                              rfl
                            refine take_ (i := 2) (N := some 78) (v := ?_) (a' := ?_) #[true, true, true, true, false, false, true, false, true, false, false, false, false] rfl rfl (take_ofW HT_.out HW_.out (by kernel_rfl)) (fun _ _ _ h => h) (Or.inl ⟨by rfl, ?_⟩) hHeld ?_ ?_
                            rotate_left
                            · rintro w' ⟨s0, s1, s2, s3, s4, s5, s6, s7, s8, s9, s10, s11, s12, s13, s14, s15, s16, s17, s18, s19⟩
                              go_simp
                              with_reducible rfl
                            rotate_left
                            · simp only [Act.put, List.setIfInBounds_toArray, List.set_cons_zero, List.set_cons_succ, i64_w, i32_w]
                              rfl
                            refine pure_ (i := 4) (N := some 80) (v := ?_) (a' := ?_) #[true, true, true, true, true, false, true, false, true, false, false, false, false] rfl rfl (any_of HT_.out (by kernel_rfl)) (fun _ _ _ h => h) (Or.inl ⟨by rfl, ?_⟩) ?_ ?_
                            rotate_left
                            · intro w'
                              go_simp
                              with_reducible rfl
                            rotate_left
                            · simp only [Act.put, List.setIfInBounds_toArray, List.set_cons_zero, List.set_cons_succ, i64_w, i32_w]
                              rfl
                            refine take_ (i := 5) (N := some 81) (v := ?_) (a' := ?_) #[true, true, true, true, true, true, true, false, true, false, false, false, false] rfl rfl (take_ofW HT_.out HW_.out (by kernel_rfl)) (fun _ _ _ h => h) (Or.inl ⟨by rfl, ?_⟩) hHeld ?_ ?_
                            rotate_left
                            · rintro w' ⟨s0, s1, s2, s3, s4, s5, s6, s7, s8, s9, s10, s11, s12, s13, s14, s15, s16, s17, s18, s19⟩
                              go_simp
                              with_reducible rfl
                            rotate_left
                            · simp only [Act.put, List.setIfInBounds_toArray, List.set_cons_zero, List.set_cons_succ, i64_w, i32_w]
                              rfl
                            refine take_ (i := 7) (N := some 83) (v := ?_) (a' := ?_) #[true, true, true, true, true, true, true, true, true, false, false, false, false] rfl rfl (take_ofW HT_.out HW_.out (by kernel_rfl)) (fun _ _ _ h => h) (Or.inl ⟨by rfl, ?_⟩) hHeld ?_ ?_
                            rotate_left
                            · rintro w' ⟨s0, s1, s2, s3, s4, s5, s6, s7, s8, s9, s10, s11, s12, s13, s14, s15, s16, s17, s18, s19⟩
                              go_simp
                              with_reducible rfl
                            rotate_left
                            · simp only [Act.put, List.setIfInBounds_toArray, List.set_cons_zero, List.set_cons_succ, i64_w, i32_w]
                              rfl
                            refine pure_ (i := 9) (N := some 85) (v := ?_) (a' := ?_) #[true, true, true, true, true, true, true, true, true, true, false, false, false] rfl rfl (any_of HT_.out (by kernel_rfl)) (fun _ _ _ h => h) (Or.inl ⟨by rfl, ?_⟩) ?_ ?_
                            rotate_left
                            · intro w'
                              go_simp
                              with_reducible rfl
                            rotate_left
                            · simp only [Act.put, List.setIfInBounds_toArray, List.set_cons_zero, List.set_cons_succ, i64_w, i32_w]
                              rfl
                            refine take_ (i := 10) (N := some 86) (v := ?_) (a' := ?_) #[true, true, true, true, true, true, true, true, true, true, true, false, false] rfl rfl (take_ofW HT_.out HW_.out (by kernel_rfl)) (fun _ _ _ h => h) (Or.inl ⟨by rfl, ?_⟩) hHeld ?_ ?_
                            rotate_left
                            · rintro w' ⟨s0, s1, s2, s3, s4, s5, s6, s7, s8, s9, s10, s11, s12, s13, s14, s15, s16, s17, s18, s19⟩
                              go_simp
                              with_reducible rfl
                            rotate_left
                            · simp only [Act.put, List.setIfInBounds_toArray, List.set_cons_zero, List.set_cons_succ, i64_w, i32_w]
                              rfl
                            refine one_ (i := 11) (N := some 87) #[true, true, true, true, true, true, true, true, true, true, true, true, false] rfl rfl (one_of HT_.out (by kernel_rfl)) (by decide) (fun K hK => ?_)
                            refine goes_ Try.func42 (by kernel_rfl) rfl #[.slice Ao67 t3123.length co67, .agg #[.int .i64 ((rd_T51 l1_4 x7_4).f0), .string ((rd_T51 l1_4 x7_4).f1), .bool ((rd_T51 l1_4 x7_4).f2), .slice A3126_3 ((rd_T51 l1_4 x7_4).f3).length c3126_3, .slice A3126_4 ((rd_T51 l1_4 x7_4).f4).length c3126_4], .agg #[.int .i64 ((rd_T51 l2_4 x7_4).f0), .string ((rd_T51 l2_4 x7_4).f1), .bool ((rd_T51 l2_4 x7_4).f2), .slice A3127_3 ((rd_T51 l2_4 x7_4).f3).length c3127_3, .slice A3127_4 ((rd_T51 l2_4 x7_4).f4).length c3127_4]] (by rfl) rfl rfl (by (try simp only [List.map_toArray, List.map_cons, List.map_nil]); first | done | rfl | (simp only [List.length_drop, List.length_take]; rfl)) ?_
                            with_reducible refine (ih k4 (by have := HJ3.out; have := HJ22.out; have := HJ31.out; have := HK4.out; omega) _ _ t3123 ((rd_T51 l1_4 x7_4).f0) ((rd_T51 l1_4 x7_4).f1) ((rd_T51 l1_4 x7_4).f2) _ _ ((rd_T51 l1_4 x7_4).f3) _ _ ((rd_T51 l1_4 x7_4).f4) ((rd_T51 l2_4 x7_4).f0) ((rd_T51 l2_4 x7_4).f1) ((rd_T51 l2_4 x7_4).f2) _ _ ((rd_T51 l2_4 x7_4).f3) _ _ ((rd_T51 l2_4 x7_4).f4) false _ ?side1 ?side2 ?side3 ?side4 ?side5 ?side6 ?side7 ?side8 ?side9 ?side10 A57.out).mono ?_
                            (case side1 => repeat (first | exact (Kd.R_reads' HO_0.out).2.2 | (with_reducible refine Kd.C_alloc ?_ _) | (with_reducible refine Kd.C_drewN ?_ _) | (with_reducible refine Kd.C_drew ?_)))
                            (case side2 => exact (Kd.R_reads' HO_0.out).2.1)
                            (case side3 => repeat (first | exact (Kd.C_below HR3126_3.out HB.out) | (with_reducible refine Kd.C_alloc ?_ _) | (with_reducible refine Kd.C_drewN ?_ _) | (with_reducible refine Kd.C_drew ?_)))
                            (case side4 => exact HC3126_3.out)
                            (case side5 => repeat (first | exact (Kd.C_below HR3126_4.out HB.out) | (with_reducible refine Kd.C_alloc ?_ _) | (with_reducible refine Kd.C_drewN ?_ _) | (with_reducible refine Kd.C_drew ?_)))
                            (case side6 => exact HC3126_4.out)
                            (case side7 => repeat (first | exact (Kd.C_below HR3127_3.out HB.out) | (with_reducible refine Kd.C_alloc ?_ _) | (with_reducible refine Kd.C_drewN ?_ _) | (with_reducible refine Kd.C_drew ?_)))
                            (case side8 => exact HC3127_3.out)
                            (case side9 => repeat (first | exact (Kd.C_below HR3127_4.out HB.out) | (with_reducible refine Kd.C_alloc ?_ _) | (with_reducible refine Kd.C_drewN ?_ _) | (with_reducible refine Kd.C_drew ?_)))
                            (case side10 => exact HC3127_4.out)
                            rintro e w68 ⟨rfl, hb⟩
                            refine ⟨_, rfl, ?_⟩
                            have n0_ := Aside0.mk (Kd.R_below (by (with_reducible repeat (first | apply Kd.R_alloc | apply Kd.R_drewN | apply Kd.R_drew)); exact HO_0.out) hb)
                            have n1_ := Aside0.mk (blk_below (g := gb3120) (o := .cells #[.int .i64 a1_0, .string a1_1, .bool a1_2, .slice A1_3 l1_3.length c1_3, .slice (some ad3126) l1_4.length c1_4] 51 (0, 0)) (by (with_reducible repeat (first | refine blk_drewN ?_ _ | refine blk_drew ?_ | refine blk_alloc ?_ _)); exact BK3120.out) hb)
                            have n2_ := Aside0.mk (blk_below (g := gb3121) (o := .cells #[.int .i64 a2_0, .string a2_1, .bool a2_2, .slice A2_3 l2_3.length c2_3, .slice (some ad3127) l2_4.length c2_4] 51 (0, 0)) (by (with_reducible repeat (first | refine blk_drewN ?_ _ | refine blk_drew ?_ | refine blk_alloc ?_ _)); exact BK3121.out) hb)
                            have n3_ := Aside0.mk (below_step (by repeat (first | (with_reducible first | exact HB.out | apply below_alloc | apply pw_below_drewN | apply below_drew1 | refine below_set ?_ GE3120.out | refine below_set ?_ GE3121.out) | exact HB.out)) hb)
                            clear HO_0
                            clear BK3120
                            clear BK3121
                            clear HB
                            have HO_0 := n0_
                            have BK3120 := n1_
                            have BK3121 := n2_
                            have HB := n3_
                            clear n0_ n1_ n2_ n3_
                            (try clear hb)
                            (try clear hb2)
                            (try clear hk)
                            (try clear hi)
                            refine hK.out _ _ ⟨(blk_cell BK3120.out 0).trans rfl, (blk_cell BK3120.out 1).trans rfl, (blk_cell BK3120.out 2).trans rfl, (blk_cell BK3120.out 3).trans rfl, (blk_cell BK3120.out 4).trans rfl, (blk_cell BK3121.out 0).trans rfl, (blk_cell BK3121.out 1).trans rfl, (blk_cell BK3121.out 2).trans rfl, (blk_cell BK3121.out 3).trans rfl, (blk_cell BK3121.out 4).trans rfl, ((HB.out.cell (World.block_lt_of_cell? w _ hw3126_0)).trans hw3126_0), ((HB.out.cell (World.block_lt_of_cell? w _ hw3126_1)).trans hw3126_1), ((HB.out.cell (World.block_lt_of_cell? w _ hw3126_2)).trans hw3126_2), ((HB.out.cell (World.block_lt_of_cell? w _ hw3126_3)).trans hw3126_3), ((HB.out.cell (World.block_lt_of_cell? w _ hw3126_4)).trans hw3126_4), ((HB.out.cell (World.block_lt_of_cell? w _ hw3127_0)).trans hw3127_0), ((HB.out.cell (World.block_lt_of_cell? w _ hw3127_1)).trans hw3127_1), ((HB.out.cell (World.block_lt_of_cell? w _ hw3127_2)).trans hw3127_2), ((HB.out.cell (World.block_lt_of_cell? w _ hw3127_3)).trans hw3127_3), ((HB.out.cell (World.block_lt_of_cell? w _ hw3127_4)).trans hw3127_4)⟩ (fun hHeld => ?_)
                            clear hK K
                            refine norm_ (a' := ?_) ?_ ?_
                            rotate_left
                            · show Act.put _ (some 87) _ = _
                              simp only [Act.put, List.setIfInBounds_toArray, List.set_cons_zero, List.set_cons_succ, i64_w, i32_w]
                              rfl
                            refine pure_ (i := 12) (N := some 88) (v := ?_) (a' := ?_) #[true, true, true, true, true, true, true, true, true, true, true, true, true] rfl rfl (any_of HT_.out (by kernel_rfl)) (fun _ _ _ h => h) (Or.inl ⟨by rfl, ?_⟩) ?_ ?_
                            rotate_left
                            · intro w'
                              go_simp
                              with_reducible rfl
                            rotate_left
                            · simp only [Act.put, List.setIfInBounds_toArray, List.set_cons_zero, List.set_cons_succ, i64_w, i32_w]
                              rfl
                            refine done_ (done_of HT_.out (by kernel_rfl)) ?_
                            try go_wp2
                            go_ret
                            exact ⟨by first | rfl | (simp [errW_none, errW_some] <;> rfl) | (simp [*, errW_none, errW_some] <;> rfl), by repeat (first | (with_reducible first | exact HB.out | apply below_alloc | apply pw_below_drewN | apply below_drew1 | refine below_set ?_ GE3120.out | refine below_set ?_ GE3121.out) | exact HB.out)⟩
                        · rw [if_neg c56] at H
                          exact absurd H (by simp)
                      · rw [if_neg c55] at H
                        exact absurd H (by simp)
                    · rw [if_neg c54] at H
                      have c54b0 : decide (x7_4 < (l1_4.length : Int)) = false := decide_eq_false c54
                      clear c54
                      obtain rfl := Option.some.inj H
                      have hnb69 := NB3120_3121.out
                      have hnc69 := NB3121_3120.out
                      have hcz70_0 : wr.cell? ⟨gb3120, 0, none⟩ = some (.int .i64 a1_0) := (blk_cell BK3120.out 0).trans rfl
                      have hcz70_1 : wr.cell? ⟨gb3120, 1, none⟩ = some (.string a1_1) := (blk_cell BK3120.out 1).trans rfl
                      have hcz70_2 : wr.cell? ⟨gb3120, 2, none⟩ = some (.bool a1_2) := (blk_cell BK3120.out 2).trans rfl
                      have hcz70_3 : wr.cell? ⟨gb3120, 3, none⟩ = some (.slice A1_3 l1_3.length c1_3) := (blk_cell BK3120.out 3).trans rfl
                      have hcz70_4 : wr.cell? ⟨gb3120, 4, none⟩ = some (.slice A1_4 l1_4.length c1_4) := (blk_cell BK3120.out 4).trans rfl
                      have hfz70_0 := blk_frozen BK3120.out 0
                      have hfz70_1 := blk_frozen BK3120.out 1
                      have hfz70_2 := blk_frozen BK3120.out 2
                      have hfz70_3 := blk_frozen BK3120.out 3
                      have hfz70_4 := blk_frozen BK3120.out 4
                      go_wp2
                      go_ret
                      exact ⟨by first | rfl | (simp [errW_none, errW_some] <;> rfl) | (simp [*, errW_none, errW_some] <;> rfl), by repeat (first | (with_reducible first | exact HB.out | apply below_alloc | apply pw_below_drewN | apply below_drew1 | refine below_set ?_ GE3120.out | refine below_set ?_ GE3121.out) | exact HB.out)⟩

end Go.Proofs.Ytmdhanegafclmaa.PFnExactExpAlpha
