-- Laid by a program of this session (wip/tools/mkprint2.py, which turns a copy of the print); not the kit print itself.
import Derived.Test.YtmdhanegafclmaaPFnExactExpCoreShowx0
namespace Go.Proofs.Ytmdhanegafclmaa.PFnExactExpCoreShow
open Go.RowKit Go.Proofs.YtmdhanegafclmaaW.PrintWords Go.Proofs.YtmdhanegafclmaaW.PrintLast Go.Proofs.YtmdhanegafclmaaW.PrintMore
attribute [local go_sem] max2_int min2_int max_two min_two max_three min_three max_four min_four   -- for this text's walks alone
set_option linter.unusedVariables false
set_option linter.unusedSimpArgs false

/-! ### laws_eqStringS: function 31 -/
def laws_eqStringS.l0 : Nat → List ByteArray → List ByteArray → Int → Option (Bool)
  | 0, _, _, _ => none
  | k + 1, x0, x1, x5 => if x5 < (x0.length : Int) then (if 0 ≤ x5 then (if x5 < (x1.length : Int) then (if (rdOf ByteArray.empty x0 x5).toList = (rdOf ByteArray.empty x1 x5).toList then (laws_eqStringS.l0 k x0 x1 (wrap64 (x5 + 1))) else (some false)) else (none)) else (none)) else (some true)
def laws_eqStringS.f (k : Nat) (l0 : List ByteArray) (l1 : List ByteArray) : Option (Bool) := if (l0.length : Int) = (l1.length : Int) then (laws_eqStringS.l0 k l0 l1 0) else (some false)
theorem laws_eqStringS.mono_l : ∀ k, (∀ y0 y1 y2, LeO (laws_eqStringS.l0 k y0 y1 y2) (laws_eqStringS.l0 (k + 1) y0 y1 y2))
  | 0 => fun _ _ _ r h => by simp [laws_eqStringS.l0] at h
  | k + 1 => by
    have ih0 := laws_eqStringS.mono_l k
    · intro y0 y1 y2
      unfold laws_eqStringS.l0
      repeat' first
      | (with_reducible exact ih0 _ _ _)
      | (with_reducible exact LeO.refl _)
      | (with_reducible exact LeO.none _)
      | (with_reducible refine LeO.ite ?_ ?_)
      | (with_reducible refine LeO.bind ?_ (fun _ => ?_))
      | exact ih0 _ _ _
      | exact LeO.none _
      | refine LeO.ite ?_ ?_
      | refine LeO.bind ?_ (fun _ => ?_)
theorem laws_eqStringS.mono : ∀ a0 a1 k, LeO (laws_eqStringS.f k a0 a1) (laws_eqStringS.f (k + 1) a0 a1) := by
  intro a0 a1 k
  have ih0 := laws_eqStringS.mono_l k
  unfold laws_eqStringS.f
  repeat' first
      | (with_reducible exact ih0 _ _ _)
      | (with_reducible exact LeO.refl _)
      | (with_reducible exact LeO.none _)
      | (with_reducible refine LeO.ite ?_ ?_)
      | (with_reducible refine LeO.bind ?_ (fun _ => ?_))
      | exact ih0 _ _ _
      | exact LeO.none _
      | refine LeO.ite ?_ ?_
      | refine LeO.bind ?_ (fun _ => ?_)
set_option maxHeartbeats 8000000 in
set_option maxRecDepth 100000 in
theorem laws_eqStringS.calls (k : Nat) (A0 : Option Addr) (c0 : Nat) (l0 : List ByteArray) (A1 : Option Addr) (c1 : Nat) (l1 : List ByteArray) (r : Bool) (w : World) (hr0 : Kd.C Kd.string w A0 l0.length l0) (hc0 : l0.length ≤ c0) (hr1 : Kd.C Kd.string w A1 l1.length l1) (hc1 : l1.length ≤ c1) (h : laws_eqStringS.f k l0 l1 = some r) :
    Calls Try.prog 31 #[.slice A0 l0.length c0, .slice A1 l1.length c1] w fun e w' => e = .returned (.bool r) ∧ Drawn0 w w' := by
  have HR0 := Aside0.mk hr0
  have HC0 := Aside0.mk hc0
  clear hr0 hc0
  have HR1 := Aside0.mk hr1
  have HC1 := Aside0.mk hc1
  clear hr1 hc1
  have H : (if (l0.length : Int) = (l1.length : Int) then (laws_eqStringS.l0 k l0 l1 0) else (some false)) = some r := h
  clear h
  by_cases c3 : (l0.length : Int) = (l1.length : Int)
  · rw [if_pos c3] at H
    have c3b0 : ((l0.length : Int) == (l1.length : Int)) = true := beq_iff_eq.mpr c3
    have c3b1 : ((l0.length : Int) != (l1.length : Int)) = false := bne_eq_false_iff_eq.mpr c3
    have c3b2 : (l0.length == l1.length) = true := by first | simpa using c3 | (simp at c3 ⊢; omega)
    clear c3
    have H' := Aside0.mk H
    clear H
    go_enter Try.func31, Try.ntmps31
    go_wp2
    repeat (go_quiet (fail); try go_wp2)
    go_loopg [5] k (fun kq v5 w' => ∃ (x5_1 : Int), v5 = .int .i64 x5_1 ∧ Aside0 (laws_eqStringS.l0 kq l0 l1 x5_1 = some r) ∧ Aside0 (kq ≤ k) ∧ Drawn0 w w')
    case atStart => exact ⟨(0), (by first | rfl | (simp; done) | (simp [*]; done)), H', ⟨Nat.le_refl _⟩, by repeat (first | exact Drawn0.refl _ | apply Drawn0.step)⟩
    case round =>
      clear H'
      try clear c1
      try clear p2
      try clear c3
      try clear c3b0
      try clear c3b1
      try clear c3b2
      obtain ⟨x5_1, rfl, HA, HK1, ⟨m1, rfl⟩⟩ := hrel
      cases gk with
      | zero => exact absurd HA.out (by simp [laws_eqStringS.l0])
      | succ k1 =>
        have H := HA.out
        clear HA
        simp only [laws_eqStringS.l0] at H
        by_cases c4 : x5_1 < (l0.length : Int)
        · rw [if_pos c4] at H
          have c4b0 : decide (x5_1 < (l0.length : Int)) = true := decide_eq_true c4
          clear c4
          by_cases c5 : 0 ≤ x5_1
          · rw [if_pos c5] at H
            have c5b0 : decide (0 ≤ x5_1) = true := decide_eq_true c5
            clear c5
            by_cases c6 : x5_1 < (l1.length : Int)
            · rw [if_pos c6] at H
              have c6b0 : decide (x5_1 < (l1.length : Int)) = true := decide_eq_true c6
              clear c6
              by_cases c7 : (rdOf ByteArray.empty l0 x5_1).toList = (rdOf ByteArray.empty l1 x5_1).toList
              · rw [if_pos c7] at H
                have c7b0 : ((rdOf ByteArray.empty l0 x5_1).toList == (rdOf ByteArray.empty l1 x5_1).toList) = true := beq_iff_eq.mpr c7
                have c7b1 : ((rdOf ByteArray.empty l0 x5_1).toList != (rdOf ByteArray.empty l1 x5_1).toList) = false := bne_eq_false_iff_eq.mpr c7
                clear c7
                have H' := Aside0.mk H
                clear H
                have p6153 : 0 ≤ (x5_1 : Int) := of_decide_eq_true (by first | (with_reducible assumption) | assumption)
                have q6153 : x5_1 < (l0.length : Int) := of_decide_eq_true (by first | (with_reducible assumption) | assumption)
                obtain ⟨ad6153, e6153, hx6153_0⟩ := Kd.at_string HR0.out x5_1 p6153 q6153
                cases e6153
                replace p6153 := eq_true p6153
                replace q6153 := eq_true q6153
                have p6154 : 0 ≤ (x5_1 : Int) := of_decide_eq_true (by first | (with_reducible assumption) | assumption)
                have q6154 : x5_1 < (l1.length : Int) := of_decide_eq_true (by first | (with_reducible assumption) | assumption)
                obtain ⟨ad6154, e6154, hx6154_0⟩ := Kd.at_string HR1.out x5_1 p6154 q6154
                cases e6154
                replace p6154 := eq_true p6154
                replace q6154 := eq_true q6154
                go_wp2
                repeat (go_quiet (fail); try go_wp2)
                go_roundg k1
                case measure => have := HK1.out; omega
                case rel => exact ⟨(wrap64 (x5_1 + 1)), (by first | rfl | (simp; done) | (simp [*]; done)), H', ⟨by have := HK1.out; omega⟩, by repeat (first | exact Drawn0.refl _ | apply Drawn0.step)⟩
              · rw [if_neg c7] at H
                have c7b0 : ((rdOf ByteArray.empty l0 x5_1).toList == (rdOf ByteArray.empty l1 x5_1).toList) = false := beq_eq_false_iff_ne.mpr c7
                have c7b1 : ((rdOf ByteArray.empty l0 x5_1).toList != (rdOf ByteArray.empty l1 x5_1).toList) = true := bne_iff_ne.mpr c7
                obtain rfl := Option.some.inj H
                have p6153 : 0 ≤ (x5_1 : Int) := of_decide_eq_true (by first | (with_reducible assumption) | assumption)
                have q6153 : x5_1 < (l0.length : Int) := of_decide_eq_true (by first | (with_reducible assumption) | assumption)
                obtain ⟨ad6153, e6153, hx6153_0⟩ := Kd.at_string HR0.out x5_1 p6153 q6153
                cases e6153
                replace p6153 := eq_true p6153
                replace q6153 := eq_true q6153
                have p6154 : 0 ≤ (x5_1 : Int) := of_decide_eq_true (by first | (with_reducible assumption) | assumption)
                have q6154 : x5_1 < (l1.length : Int) := of_decide_eq_true (by first | (with_reducible assumption) | assumption)
                obtain ⟨ad6154, e6154, hx6154_0⟩ := Kd.at_string HR1.out x5_1 p6154 q6154
                cases e6154
                replace p6154 := eq_true p6154
                replace q6154 := eq_true q6154
                go_wp2
                repeat (go_quiet (fail); try go_wp2)
                go_ret
                exact ⟨by first | rfl | (simp; done) | (simp [*]; done), by repeat (first | exact Drawn0.refl _ | apply Drawn0.step)⟩
            · rw [if_neg c6] at H
              exact absurd H (by simp)
          · rw [if_neg c5] at H
            exact absurd H (by simp)
        · rw [if_neg c4] at H
          have c4b0 : decide (x5_1 < (l0.length : Int)) = false := decide_eq_false c4
          clear c4
          obtain rfl := Option.some.inj H
          go_wp2
          repeat (go_quiet (fail); try go_wp2)
          go_ret
          exact ⟨by first | rfl | (simp; done) | (simp [*]; done), by repeat (first | exact Drawn0.refl _ | apply Drawn0.step)⟩
  · rw [if_neg c3] at H
    have c3b0 : ((l0.length : Int) == (l1.length : Int)) = false := beq_eq_false_iff_ne.mpr c3
    have c3b1 : ((l0.length : Int) != (l1.length : Int)) = true := bne_iff_ne.mpr c3
    have c3b2 : (l0.length == l1.length) = false := by first | simpa using c3 | (simp at c3 ⊢; omega)
    obtain rfl := Option.some.inj H
    go_enter Try.func31, Try.ntmps31
    go_wp2
    repeat (go_quiet (fail); try go_wp2)
    go_ret
    exact ⟨by first | rfl | (simp; done) | (simp [*]; done), by repeat (first | exact Drawn0.refl _ | apply Drawn0.step)⟩

/-! ### laws_eqExpCoreS: function 16 -/
/-! ### laws_eqExpCore: function 26 -/
mutual
def laws_eqExpCoreS.l0 : Nat → List (S51) → List (S51) → Int → Option (Bool)
  | 0, _, _, _ => none
  | k + 1, x0, x1, x5 => if x5 < (x0.length : Int) then (if 0 ≤ x5 then (if x5 < (x1.length : Int) then ((laws_eqExpCore.f k ((rd_T51 x0 x5).f0) ((rd_T51 x0 x5).f1) ((rd_T51 x0 x5).f2) ((rd_T51 x0 x5).f3) ((rd_T51 x0 x5).f4) ((rd_T51 x1 x5).f0) ((rd_T51 x1 x5).f1) ((rd_T51 x1 x5).f2) ((rd_T51 x1 x5).f3) ((rd_T51 x1 x5).f4)).bind fun t6157 => (if t6157 = true then (laws_eqExpCoreS.l0 k x0 x1 (wrap64 (x5 + 1))) else (some false))) else (none)) else (none)) else (some true)
def laws_eqExpCoreS.f : Nat → List (S51) → List (S51) → Option (Bool)
  | 0, _, _ => none
  | k + 1, l0, l1 => if (l0.length : Int) = (l1.length : Int) then (laws_eqExpCoreS.l0 k l0 l1 0) else (some false)
def laws_eqExpCore.f : Nat → Int → ByteArray → Bool → List ByteArray → List (S51) → Int → ByteArray → Bool → List ByteArray → List (S51) → Option (Bool)
  | 0, _, _, _, _, _, _, _, _, _, _ => none
  | k + 1, a0_0, a0_1, a0_2, l0_3, l0_4, a1_0, a1_1, a1_2, l1_3, l1_4 => if a0_0 = a1_0 then (if a0_1.toList = a1_1.toList then (if (a0_2 != a1_2) = true then (some false) else ((laws_eqStringS.f k l0_3 l1_3).bind fun t9157 => (if t9157 = true then ((laws_eqExpCoreS.f k l0_4 l1_4).bind fun t9158 => (if t9158 = true then (some true) else (some false))) else (some false)))) else (some false)) else (some false)
end
theorem laws_eqExpCoreS_group.mono_l : ∀ k, (∀ y0 y1, LeO (laws_eqExpCoreS.f k y0 y1) (laws_eqExpCoreS.f (k + 1) y0 y1)) ∧ (∀ y0 y1 y2, LeO (laws_eqExpCoreS.l0 k y0 y1 y2) (laws_eqExpCoreS.l0 (k + 1) y0 y1 y2)) ∧ (∀ y0 y1 y2 y3 y4 y5 y6 y7 y8 y9, LeO (laws_eqExpCore.f k y0 y1 y2 y3 y4 y5 y6 y7 y8 y9) (laws_eqExpCore.f (k + 1) y0 y1 y2 y3 y4 y5 y6 y7 y8 y9))
  | 0 => ⟨fun _ _ r h => by simp [laws_eqExpCoreS.f] at h, fun _ _ _ r h => by simp [laws_eqExpCoreS.l0] at h, fun _ _ _ _ _ _ _ _ _ _ r h => by simp [laws_eqExpCore.f] at h⟩
  | k + 1 => by
    obtain ⟨ih0, ih1, ih2⟩ := laws_eqExpCoreS_group.mono_l k
    refine ⟨?_, ?_, ?_⟩
    · intro y0 y1
      unfold laws_eqExpCoreS.f
      repeat' first
      | (with_reducible exact ih0 _ _)
      | (with_reducible exact ih1 _ _ _)
      | (with_reducible exact ih2 _ _ _ _ _ _ _ _ _ _)
      | (with_reducible exact laws_eqStringS.mono _ _ _)
      | (with_reducible exact LeO.refl _)
      | (with_reducible exact LeO.none _)
      | (with_reducible refine LeO.ite ?_ ?_)
      | (with_reducible refine LeO.bind ?_ (fun _ => ?_))
      | exact ih0 _ _
      | exact ih1 _ _ _
      | exact ih2 _ _ _ _ _ _ _ _ _ _
      | exact laws_eqStringS.mono _ _ _
      | exact LeO.none _
      | refine LeO.ite ?_ ?_
      | refine LeO.bind ?_ (fun _ => ?_)
    · intro y0 y1 y2
      unfold laws_eqExpCoreS.l0
      repeat' first
      | (with_reducible exact ih0 _ _)
      | (with_reducible exact ih1 _ _ _)
      | (with_reducible exact ih2 _ _ _ _ _ _ _ _ _ _)
      | (with_reducible exact laws_eqStringS.mono _ _ _)
      | (with_reducible exact LeO.refl _)
      | (with_reducible exact LeO.none _)
      | (with_reducible refine LeO.ite ?_ ?_)
      | (with_reducible refine LeO.bind ?_ (fun _ => ?_))
      | exact ih0 _ _
      | exact ih1 _ _ _
      | exact ih2 _ _ _ _ _ _ _ _ _ _
      | exact laws_eqStringS.mono _ _ _
      | exact LeO.none _
      | refine LeO.ite ?_ ?_
      | refine LeO.bind ?_ (fun _ => ?_)
    · intro y0 y1 y2 y3 y4 y5 y6 y7 y8 y9
      unfold laws_eqExpCore.f
      repeat' first
      | (with_reducible exact ih0 _ _)
      | (with_reducible exact ih1 _ _ _)
      | (with_reducible exact ih2 _ _ _ _ _ _ _ _ _ _)
      | (with_reducible exact laws_eqStringS.mono _ _ _)
      | (with_reducible exact LeO.refl _)
      | (with_reducible exact LeO.none _)
      | (with_reducible refine LeO.ite ?_ ?_)
      | (with_reducible refine LeO.bind ?_ (fun _ => ?_))
      | exact ih0 _ _
      | exact ih1 _ _ _
      | exact ih2 _ _ _ _ _ _ _ _ _ _
      | exact laws_eqStringS.mono _ _ _
      | exact LeO.none _
      | refine LeO.ite ?_ ?_
      | refine LeO.bind ?_ (fun _ => ?_)
theorem laws_eqExpCoreS.mono : ∀ a0 a1 k, LeO (laws_eqExpCoreS.f k a0 a1) (laws_eqExpCoreS.f (k + 1) a0 a1) := by
  intro a0 a1 k
  obtain ⟨ih0, ih1, ih2⟩ := laws_eqExpCoreS_group.mono_l k
  exact ih0 a0 a1
theorem laws_eqExpCore.mono : ∀ a0 a1 a2 a3 a4 a5 a6 a7 a8 a9 k, LeO (laws_eqExpCore.f k a0 a1 a2 a3 a4 a5 a6 a7 a8 a9) (laws_eqExpCore.f (k + 1) a0 a1 a2 a3 a4 a5 a6 a7 a8 a9) := by
  intro a0 a1 a2 a3 a4 a5 a6 a7 a8 a9 k
  obtain ⟨ih0, ih1, ih2⟩ := laws_eqExpCoreS_group.mono_l k
  exact ih2 a0 a1 a2 a3 a4 a5 a6 a7 a8 a9
abbrev laws_eqExpCoreS.Spec (k : Nat) : Prop := ∀ (A0 : Option Addr) (c0 : Nat) (l0 : List (S51)) (A1 : Option Addr) (c1 : Nat) (l1 : List (S51)) (r : Bool) (w : World) (hr0 : Kd.C k51 w A0 l0.length l0) (hc0 : l0.length ≤ c0) (hr1 : Kd.C k51 w A1 l1.length l1) (hc1 : l1.length ≤ c1) (h : laws_eqExpCoreS.f k l0 l1 = some r),
    Calls Try.prog 16 #[.slice A0 l0.length c0, .slice A1 l1.length c1] w fun e w' => e = .returned (.bool r) ∧ Below w.heap.size w w'
abbrev laws_eqExpCore.Spec (k : Nat) : Prop := ∀ (a0_0 : Int) (a0_1 : ByteArray) (a0_2 : Bool) (A0_3 : Option Addr) (c0_3 : Nat) (l0_3 : List ByteArray) (A0_4 : Option Addr) (c0_4 : Nat) (l0_4 : List (S51)) (a1_0 : Int) (a1_1 : ByteArray) (a1_2 : Bool) (A1_3 : Option Addr) (c1_3 : Nat) (l1_3 : List ByteArray) (A1_4 : Option Addr) (c1_4 : Nat) (l1_4 : List (S51)) (r : Bool) (w : World) (hr0_3 : Kd.C Kd.string w A0_3 l0_3.length l0_3) (hc0_3 : l0_3.length ≤ c0_3) (hr0_4 : Kd.C k51 w A0_4 l0_4.length l0_4) (hc0_4 : l0_4.length ≤ c0_4) (hr1_3 : Kd.C Kd.string w A1_3 l1_3.length l1_3) (hc1_3 : l1_3.length ≤ c1_3) (hr1_4 : Kd.C k51 w A1_4 l1_4.length l1_4) (hc1_4 : l1_4.length ≤ c1_4) (h : laws_eqExpCore.f k a0_0 a0_1 a0_2 l0_3 l0_4 a1_0 a1_1 a1_2 l1_3 l1_4 = some r),
    Calls Try.prog 26 #[.agg #[.int .i64 a0_0, .string a0_1, .bool a0_2, .slice A0_3 l0_3.length c0_3, .slice A0_4 l0_4.length c0_4], .agg #[.int .i64 a1_0, .string a1_1, .bool a1_2, .slice A1_3 l1_3.length c1_3, .slice A1_4 l1_4.length c1_4]] w fun e w' => e = .returned (.bool r) ∧ Below w.heap.size w w'
set_option maxHeartbeats 8000000 in
def laws_eqExpCoreS.T6 : Bool × List (List Nat × List Nat) := (true, [([], []), ([], []), ([0, 1], [0, 1]), ([2], [2]), ([], []), ([], []), ([4, 5], [4, 5]), ([6], [6]), ([3, 7], [3, 7]), ([8], [8])])
def laws_eqExpCoreS.B6 : List Nat := [0, 0, 3, 7, 0, 0, 48, 112, 255, 511]
theorem laws_eqExpCoreS.tab6 : rtab .any (opsOf Try.f16 6) = laws_eqExpCoreS.T6 := by kernel_rfl
theorem laws_eqExpCoreS.bits6 : waitsOk laws_eqExpCoreS.T6.2 laws_eqExpCoreS.B6 = true := by kernel_rfl
set_option maxRecDepth 100000 in
theorem laws_eqExpCoreS.step (k : Nat) (ih16 : ∀ m, m < k → laws_eqExpCoreS.Spec m) (ih26 : ∀ m, m < k → laws_eqExpCore.Spec m) : ∀ (A0 : Option Addr) (c0 : Nat) (l0 : List (S51)) (A1 : Option Addr) (c1 : Nat) (l1 : List (S51)) (r : Bool) (w : World) (hr0 : Kd.C k51 w A0 l0.length l0) (hc0 : l0.length ≤ c0) (hr1 : Kd.C k51 w A1 l1.length l1) (hc1 : l1.length ≤ c1) (h : laws_eqExpCoreS.f k l0 l1 = some r),
    Calls Try.prog 16 #[.slice A0 l0.length c0, .slice A1 l1.length c1] w fun e w' => e = .returned (.bool r) ∧ Below w.heap.size w w' := by
  intro A0 c0 l0 A1 c1 l1 r w hr0 hc0 hr1 hc1 h
  cases k with
  | zero => exact absurd h (by simp [laws_eqExpCoreS.f])
  | succ k =>
  simp only [laws_eqExpCoreS.f] at h
  have hu51 := Try.underlying51
  have HR0 := Aside0.mk hr0
  have HC0 := Aside0.mk hc0
  clear hr0 hc0
  have HR1 := Aside0.mk hr1
  have HC1 := Aside0.mk hc1
  clear hr1 hc1
  have HB := Aside0.mk (Below.refl w.heap.size w)
  have H : (if (l0.length : Int) = (l1.length : Int) then (laws_eqExpCoreS.l0 k l0 l1 0) else (some false)) = some r := h
  clear h
  by_cases c3 : (l0.length : Int) = (l1.length : Int)
  · rw [if_pos c3] at H
    have c3b0 : ((l0.length : Int) == (l1.length : Int)) = true := beq_iff_eq.mpr c3
    have c3b1 : ((l0.length : Int) != (l1.length : Int)) = false := bne_eq_false_iff_eq.mpr c3
    have c3b2 : (l0.length == l1.length) = true := by first | simpa using c3 | (simp at c3 ⊢; omega)
    clear c3
    have H' := Aside0.mk H
    clear H
    go_enter Try.func16, Try.ntmps16
    go_wp2
    go_loopg [5] k (fun kq v5 w' => ∃ (x5_1 : Int), v5 = .int .i64 x5_1 ∧ Aside0 (laws_eqExpCoreS.l0 kq l0 l1 x5_1 = some r) ∧ Aside0 (kq ≤ k) ∧ Aside0 (Below w.heap.size w w'))
    case atStart => exact ⟨(0), (by first | rfl | (simp; done) | (simp [*]; done)), H', ⟨Nat.le_refl _⟩, ⟨by repeat (first | (with_reducible first | exact HB.out | apply below_alloc | apply pw_below_drewN | apply below_drew1) | exact HB.out)⟩⟩
    case round =>
      clear H'
      try clear c1
      try clear p2
      try clear c3
      try clear c3b0
      try clear c3b1
      try clear c3b2
      obtain ⟨x5_1, rfl, HA, HK1, HB⟩ := hrel
      cases gk with
      | zero => exact absurd HA.out (by simp [laws_eqExpCoreS.l0])
      | succ k1 =>
        have H := HA.out
        clear HA
        simp only [laws_eqExpCoreS.l0] at H
        by_cases c4 : x5_1 < (l0.length : Int)
        · rw [if_pos c4] at H
          have c4b0 : decide (x5_1 < (l0.length : Int)) = true := decide_eq_true c4
          clear c4
          by_cases c5 : 0 ≤ x5_1
          · rw [if_pos c5] at H
            have c5b0 : decide (0 ≤ x5_1) = true := decide_eq_true c5
            clear c5
            by_cases c6 : x5_1 < (l1.length : Int)
            · rw [if_pos c6] at H
              have c6b0 : decide (x5_1 < (l1.length : Int)) = true := decide_eq_true c6
              clear c6
              replace H := Option.bind_eq_some_iff.mp H
              obtain ⟨t6157, A70, H⟩ := H
              replace H : (if t6157 = true then (laws_eqExpCoreS.l0 k1 l0 l1 (wrap64 (x5_1 + 1))) else (some false)) = some r := H
              have A7 := Aside0.mk A70
              clear A70
              by_cases c8 : t6157 = true
              · subst c8
                have H1 : (laws_eqExpCoreS.l0 k1 l0 l1 (wrap64 (x5_1 + 1))) = some r := by rw [if_pos rfl] at H; exact H
                clear H
                have H := H1
                clear H1
                have H' := Aside0.mk H
                clear H
                try go_wp2
                have n0_ := Aside0.mk (below_drew1 HB.out)
                clear HB
                have HB := n0_
                clear n0_
                have p6155 : 0 ≤ (x5_1 : Int) := of_decide_eq_true (by first | (with_reducible assumption) | assumption)
                have q6155 : x5_1 < (l0.length : Int) := of_decide_eq_true (by first | (with_reducible assumption) | assumption)
                obtain ⟨ad6155, A6155_3, c6155_3, A6155_4, c6155_4, e6155, hx6155_0, hx6155_1, hx6155_2, hx6155_3, hx6155_4, hl6155_3, hi6155_3, hl6155_4, hi6155_4⟩ := at_T51 HR0.out x5_1 p6155 q6155
                have hw6155_4 := hx6155_4
                have hw6155_3 := hx6155_3
                have hw6155_2 := hx6155_2
                have hw6155_1 := hx6155_1
                have hw6155_0 := hx6155_0
                cases e6155
                replace hx6155_0 := (HB.out.cell (World.block_lt_of_cell? w _ hx6155_0)).trans hx6155_0
                replace hx6155_1 := (HB.out.cell (World.block_lt_of_cell? w _ hx6155_1)).trans hx6155_1
                replace hx6155_2 := (HB.out.cell (World.block_lt_of_cell? w _ hx6155_2)).trans hx6155_2
                replace hx6155_3 := (HB.out.cell (World.block_lt_of_cell? w _ hx6155_3)).trans hx6155_3
                replace hx6155_4 := (HB.out.cell (World.block_lt_of_cell? w _ hx6155_4)).trans hx6155_4
                have HR6155_3 := Aside0.mk hi6155_3
                have HC6155_3 := Aside0.mk hl6155_3
                clear hi6155_3 hl6155_3
                have HR6155_4 := Aside0.mk hi6155_4
                have HC6155_4 := Aside0.mk hl6155_4
                clear hi6155_4 hl6155_4
                replace p6155 := eq_true p6155
                replace q6155 := eq_true q6155
                have p6156 : 0 ≤ (x5_1 : Int) := of_decide_eq_true (by first | (with_reducible assumption) | assumption)
                have q6156 : x5_1 < (l1.length : Int) := of_decide_eq_true (by first | (with_reducible assumption) | assumption)
                obtain ⟨ad6156, A6156_3, c6156_3, A6156_4, c6156_4, e6156, hx6156_0, hx6156_1, hx6156_2, hx6156_3, hx6156_4, hl6156_3, hi6156_3, hl6156_4, hi6156_4⟩ := at_T51 HR1.out x5_1 p6156 q6156
                have hw6156_4 := hx6156_4
                have hw6156_3 := hx6156_3
                have hw6156_2 := hx6156_2
                have hw6156_1 := hx6156_1
                have hw6156_0 := hx6156_0
                cases e6156
                replace hx6156_0 := (HB.out.cell (World.block_lt_of_cell? w _ hx6156_0)).trans hx6156_0
                replace hx6156_1 := (HB.out.cell (World.block_lt_of_cell? w _ hx6156_1)).trans hx6156_1
                replace hx6156_2 := (HB.out.cell (World.block_lt_of_cell? w _ hx6156_2)).trans hx6156_2
                replace hx6156_3 := (HB.out.cell (World.block_lt_of_cell? w _ hx6156_3)).trans hx6156_3
                replace hx6156_4 := (HB.out.cell (World.block_lt_of_cell? w _ hx6156_4)).trans hx6156_4
                have HR6156_3 := Aside0.mk hi6156_3
                have HC6156_3 := Aside0.mk hl6156_3
                clear hi6156_3 hl6156_3
                have HR6156_4 := Aside0.mk hi6156_4
                have HC6156_4 := Aside0.mk hl6156_4
                clear hi6156_4 hl6156_4
                replace p6156 := eq_true p6156
                replace q6156 := eq_true q6156
                refine start_ (n := 10) (S := fun w' => w'.cell? (ad6155.add ((x5_1).toNat * 5)) = some (.int .i64 ((rd_T51 l0 x5_1).f0)) ∧ w'.cell? ⟨(ad6155.add ((x5_1).toNat * 5)).block, (ad6155.add ((x5_1).toNat * 5)).off + 1, none⟩ = some (.string ((rd_T51 l0 x5_1).f1)) ∧ w'.cell? ⟨(ad6155.add ((x5_1).toNat * 5)).block, (ad6155.add ((x5_1).toNat * 5)).off + 2, none⟩ = some (.bool ((rd_T51 l0 x5_1).f2)) ∧ w'.cell? ⟨(ad6155.add ((x5_1).toNat * 5)).block, (ad6155.add ((x5_1).toNat * 5)).off + 3, none⟩ = some (.slice A6155_3 ((rd_T51 l0 x5_1).f3).length c6155_3) ∧ w'.cell? ⟨(ad6155.add ((x5_1).toNat * 5)).block, (ad6155.add ((x5_1).toNat * 5)).off + 4, none⟩ = some (.slice A6155_4 ((rd_T51 l0 x5_1).f4).length c6155_4) ∧ w'.cell? (ad6156.add ((x5_1).toNat * 5)) = some (.int .i64 ((rd_T51 l1 x5_1).f0)) ∧ w'.cell? ⟨(ad6156.add ((x5_1).toNat * 5)).block, (ad6156.add ((x5_1).toNat * 5)).off + 1, none⟩ = some (.string ((rd_T51 l1 x5_1).f1)) ∧ w'.cell? ⟨(ad6156.add ((x5_1).toNat * 5)).block, (ad6156.add ((x5_1).toNat * 5)).off + 2, none⟩ = some (.bool ((rd_T51 l1 x5_1).f2)) ∧ w'.cell? ⟨(ad6156.add ((x5_1).toNat * 5)).block, (ad6156.add ((x5_1).toNat * 5)).off + 3, none⟩ = some (.slice A6156_3 ((rd_T51 l1 x5_1).f3).length c6156_3) ∧ w'.cell? ⟨(ad6156.add ((x5_1).toNat * 5)).block, (ad6156.add ((x5_1).toNat * 5)).off + 4, none⟩ = some (.slice A6156_4 ((rd_T51 l1 x5_1).f4).length c6156_4)) (ds := []) #[false, false, false, false, false, false, false, false, false, false] (by kernel_rfl) rfl rfl ⟨((HB.out.cell (World.block_lt_of_cell? w _ hw6155_0)).trans hw6155_0), ((HB.out.cell (World.block_lt_of_cell? w _ hw6155_1)).trans hw6155_1), ((HB.out.cell (World.block_lt_of_cell? w _ hw6155_2)).trans hw6155_2), ((HB.out.cell (World.block_lt_of_cell? w _ hw6155_3)).trans hw6155_3), ((HB.out.cell (World.block_lt_of_cell? w _ hw6155_4)).trans hw6155_4), ((HB.out.cell (World.block_lt_of_cell? w _ hw6156_0)).trans hw6156_0), ((HB.out.cell (World.block_lt_of_cell? w _ hw6156_1)).trans hw6156_1), ((HB.out.cell (World.block_lt_of_cell? w _ hw6156_2)).trans hw6156_2), ((HB.out.cell (World.block_lt_of_cell? w _ hw6156_3)).trans hw6156_3), ((HB.out.cell (World.block_lt_of_cell? w _ hw6156_4)).trans hw6156_4)⟩ (fun hHeld => ?_); refine with_tabW laws_eqExpCoreS.tab6 laws_eqExpCoreS.bits6 (fun HT_ HW_ => ?_)
                generalize wr.drew = w9 at HB HR6155_3 HR6155_4 HR6156_3 HR6156_4 hx6155_0 hx6155_1 hx6155_2 hx6155_3 hx6155_4 hx6156_0 hx6156_1 hx6156_2 hx6156_3 hx6156_4 hHeld ⊢
                refine pure_ (i := 0) (N := some 17) (v := ?_) (a' := ?_) #[true, false, false, false, false, false, false, false, false, false] rfl rfl (any_of HT_.out (by kernel_rfl)) (fun _ _ _ h => h) (Or.inl ⟨by rfl, ?_⟩) ?_ ?_
                rotate_left
                · intro w'
                  go_simp
                  with_reducible rfl
                rotate_left
                · simp only [Act.put, List.setIfInBounds_toArray, List.set_cons_zero, List.set_cons_succ, i64_w, i32_w]
                  rfl
                refine pure_ (i := 1) (N := some 18) (v := ?_) (a' := ?_) #[true, true, false, false, false, false, false, false, false, false] rfl rfl (any_of HT_.out (by kernel_rfl)) (fun _ _ _ h => h) (Or.inl ⟨by rfl, ?_⟩) ?_ ?_
                rotate_left
                · intro w'
                  go_simp
                  with_reducible rfl
                rotate_left
                · simp only [Act.put, List.setIfInBounds_toArray, List.set_cons_zero, List.set_cons_succ, i64_w, i32_w]
                  rfl
                refine pure_ (i := 2) (N := some 19) (v := ?_) (a' := ?_) #[true, true, true, false, false, false, false, false, false, false] rfl rfl (any_of HT_.out (by kernel_rfl)) (fun _ _ _ h => h) (Or.inl ⟨by rfl, ?_⟩) ?_ ?_
                rotate_left
                · intro w'
                  go_simp
                  with_reducible rfl
                rotate_left
                · simp only [Act.put, List.setIfInBounds_toArray, List.set_cons_zero, List.set_cons_succ, i64_w, i32_w]
                  rfl
                refine pure_ (i := 4) (N := some 21) (v := ?_) (a' := ?_) #[true, true, true, false, true, false, false, false, false, false] rfl rfl (any_of HT_.out (by kernel_rfl)) (fun _ _ _ h => h) (Or.inl ⟨by rfl, ?_⟩) ?_ ?_
                rotate_left
                · intro w'
                  go_simp
                  with_reducible rfl
                rotate_left
                · simp only [Act.put, List.setIfInBounds_toArray, List.set_cons_zero, List.set_cons_succ, i64_w, i32_w]
                  rfl
                refine pure_ (i := 5) (N := some 22) (v := ?_) (a' := ?_) #[true, true, true, false, true, true, false, false, false, false] rfl rfl (any_of HT_.out (by kernel_rfl)) (fun _ _ _ h => h) (Or.inl ⟨by rfl, ?_⟩) ?_ ?_
                rotate_left
                · intro w'
                  go_simp
                  with_reducible rfl
                rotate_left
                · simp only [Act.put, List.setIfInBounds_toArray, List.set_cons_zero, List.set_cons_succ, i64_w, i32_w]
                  rfl
                refine pure_ (i := 6) (N := some 23) (v := ?_) (a' := ?_) #[true, true, true, false, true, true, true, false, false, false] rfl rfl (any_of HT_.out (by kernel_rfl)) (fun _ _ _ h => h) (Or.inl ⟨by rfl, ?_⟩) ?_ ?_
                rotate_left
                · intro w'
                  go_simp
                  with_reducible rfl
                rotate_left
                · simp only [Act.put, List.setIfInBounds_toArray, List.set_cons_zero, List.set_cons_succ, i64_w, i32_w]
                  rfl
                refine take_ (i := 3) (N := some 20) (v := ?_) (a' := ?_) #[true, true, true, true, true, true, true, false, false, false] rfl rfl (take_ofW HT_.out HW_.out (by kernel_rfl)) (fun _ _ _ h => h) (Or.inl ⟨by rfl, ?_⟩) hHeld ?_ ?_
                rotate_left
                · rintro w' ⟨s0, s1, s2, s3, s4, s5, s6, s7, s8, s9⟩
                  go_simp
                  with_reducible rfl
                rotate_left
                · simp only [Act.put, List.setIfInBounds_toArray, List.set_cons_zero, List.set_cons_succ, i64_w, i32_w]
                  rfl
                refine take_ (i := 7) (N := some 24) (v := ?_) (a' := ?_) #[true, true, true, true, true, true, true, true, false, false] rfl rfl (take_ofW HT_.out HW_.out (by kernel_rfl)) (fun _ _ _ h => h) (Or.inl ⟨by rfl, ?_⟩) hHeld ?_ ?_
                rotate_left
                · rintro w' ⟨s0, s1, s2, s3, s4, s5, s6, s7, s8, s9⟩
                  go_simp
                  with_reducible rfl
                rotate_left
                · simp only [Act.put, List.setIfInBounds_toArray, List.set_cons_zero, List.set_cons_succ, i64_w, i32_w]
                  rfl
                refine one_ (i := 8) (N := some 25) #[true, true, true, true, true, true, true, true, true, false] rfl rfl (one_of HT_.out (by kernel_rfl)) (by decide) (fun K hK => ?_)
                refine goes_ Try.func26 (by kernel_rfl) rfl #[.agg #[.int .i64 ((rd_T51 l0 x5_1).f0), .string ((rd_T51 l0 x5_1).f1), .bool ((rd_T51 l0 x5_1).f2), .slice A6155_3 ((rd_T51 l0 x5_1).f3).length c6155_3, .slice A6155_4 ((rd_T51 l0 x5_1).f4).length c6155_4], .agg #[.int .i64 ((rd_T51 l1 x5_1).f0), .string ((rd_T51 l1 x5_1).f1), .bool ((rd_T51 l1 x5_1).f2), .slice A6156_3 ((rd_T51 l1 x5_1).f3).length c6156_3, .slice A6156_4 ((rd_T51 l1 x5_1).f4).length c6156_4]] (by rfl) rfl rfl (by (try simp only [List.map_toArray, List.map_cons, List.map_nil]); first | done | rfl | (simp only [List.length_drop, List.length_take]; rfl)) ?_
                with_reducible refine (ih26 k1 (by have := HK1.out; omega) ((rd_T51 l0 x5_1).f0) ((rd_T51 l0 x5_1).f1) ((rd_T51 l0 x5_1).f2) _ _ ((rd_T51 l0 x5_1).f3) _ _ ((rd_T51 l0 x5_1).f4) ((rd_T51 l1 x5_1).f0) ((rd_T51 l1 x5_1).f1) ((rd_T51 l1 x5_1).f2) _ _ ((rd_T51 l1 x5_1).f3) _ _ ((rd_T51 l1 x5_1).f4) true _ ?side1 ?side2 ?side3 ?side4 ?side5 ?side6 ?side7 ?side8 A7.out).mono ?_
                (case side1 => repeat (first | exact (Kd.C_below HR6155_3.out HB.out) | (with_reducible refine Kd.C_alloc ?_ _) | (with_reducible refine Kd.C_drewN ?_ _) | (with_reducible refine Kd.C_drew ?_)))
                (case side2 => exact HC6155_3.out)
                (case side3 => repeat (first | exact (Kd.C_below HR6155_4.out HB.out) | (with_reducible refine Kd.C_alloc ?_ _) | (with_reducible refine Kd.C_drewN ?_ _) | (with_reducible refine Kd.C_drew ?_)))
                (case side4 => exact HC6155_4.out)
                (case side5 => repeat (first | exact (Kd.C_below HR6156_3.out HB.out) | (with_reducible refine Kd.C_alloc ?_ _) | (with_reducible refine Kd.C_drewN ?_ _) | (with_reducible refine Kd.C_drew ?_)))
                (case side6 => exact HC6156_3.out)
                (case side7 => repeat (first | exact (Kd.C_below HR6156_4.out HB.out) | (with_reducible refine Kd.C_alloc ?_ _) | (with_reducible refine Kd.C_drewN ?_ _) | (with_reducible refine Kd.C_drew ?_)))
                (case side8 => exact HC6156_4.out)
                rintro e w10 ⟨rfl, hb⟩
                try have HR6155_3 := Aside0.mk (Kd.C_below HR6155_3.out hb)
                try have HR6155_4 := Aside0.mk (Kd.C_below HR6155_4.out hb)
                try have HR6156_3 := Aside0.mk (Kd.C_below HR6156_3.out hb)
                try have HR6156_4 := Aside0.mk (Kd.C_below HR6156_4.out hb)
                refine ⟨_, rfl, ?_⟩
                have n0_ := Aside0.mk (below_step (by repeat (first | (with_reducible first | exact HB.out | apply below_alloc | apply pw_below_drewN | apply below_drew1) | exact HB.out)) hb)
                clear HB
                have HB := n0_
                clear n0_
                (try clear hb)
                (try clear hb2)
                (try clear hk)
                (try clear hi)
                refine hK.out _ _ ⟨((HB.out.cell (World.block_lt_of_cell? w _ hw6155_0)).trans hw6155_0), ((HB.out.cell (World.block_lt_of_cell? w _ hw6155_1)).trans hw6155_1), ((HB.out.cell (World.block_lt_of_cell? w _ hw6155_2)).trans hw6155_2), ((HB.out.cell (World.block_lt_of_cell? w _ hw6155_3)).trans hw6155_3), ((HB.out.cell (World.block_lt_of_cell? w _ hw6155_4)).trans hw6155_4), ((HB.out.cell (World.block_lt_of_cell? w _ hw6156_0)).trans hw6156_0), ((HB.out.cell (World.block_lt_of_cell? w _ hw6156_1)).trans hw6156_1), ((HB.out.cell (World.block_lt_of_cell? w _ hw6156_2)).trans hw6156_2), ((HB.out.cell (World.block_lt_of_cell? w _ hw6156_3)).trans hw6156_3), ((HB.out.cell (World.block_lt_of_cell? w _ hw6156_4)).trans hw6156_4)⟩ (fun hHeld => ?_)
                clear hK K
                refine norm_ (a' := ?_) ?_ ?_
                rotate_left
                · show Act.put _ (some 25) _ = _
                  simp only [Act.put, List.setIfInBounds_toArray, List.set_cons_zero, List.set_cons_succ, i64_w, i32_w]
                  rfl
                refine pure_ (i := 9) (N := some 26) (v := ?_) (a' := ?_) #[true, true, true, true, true, true, true, true, true, true] rfl rfl (any_of HT_.out (by kernel_rfl)) (fun _ _ _ h => h) (Or.inl ⟨by rfl, ?_⟩) ?_ ?_
                rotate_left
                · intro w'
                  go_simp
                  with_reducible rfl
                rotate_left
                · simp only [Act.put, List.setIfInBounds_toArray, List.set_cons_zero, List.set_cons_succ, i64_w, i32_w]
                  rfl
                refine done_ (done_of HT_.out (by kernel_rfl)) ?_
                try go_wp2
                go_roundg k1
                case measure => have := HK1.out; omega
                case rel => exact ⟨(wrap64 (x5_1 + 1)), (by first | rfl | (simp; done) | (simp [*]; done)), H', ⟨by have := HK1.out; omega⟩, ⟨by repeat (first | (with_reducible first | exact HB.out | apply below_alloc | apply pw_below_drewN | apply below_drew1) | exact HB.out)⟩⟩
              · replace c8 := Bool.eq_false_iff.mpr c8
                subst c8
                have H1 : (some false) = some r := by rw [if_neg (show ¬ (false = true) by decide)] at H; exact H
                clear H
                have H := H1
                clear H1
                obtain rfl := Option.some.inj H
                try go_wp2
                have n0_ := Aside0.mk (below_drew1 HB.out)
                clear HB
                have HB := n0_
                clear n0_
                have p6155 : 0 ≤ (x5_1 : Int) := of_decide_eq_true (by first | (with_reducible assumption) | assumption)
                have q6155 : x5_1 < (l0.length : Int) := of_decide_eq_true (by first | (with_reducible assumption) | assumption)
                obtain ⟨ad6155, A6155_3, c6155_3, A6155_4, c6155_4, e6155, hx6155_0, hx6155_1, hx6155_2, hx6155_3, hx6155_4, hl6155_3, hi6155_3, hl6155_4, hi6155_4⟩ := at_T51 HR0.out x5_1 p6155 q6155
                have hw6155_4 := hx6155_4
                have hw6155_3 := hx6155_3
                have hw6155_2 := hx6155_2
                have hw6155_1 := hx6155_1
                have hw6155_0 := hx6155_0
                cases e6155
                replace hx6155_0 := (HB.out.cell (World.block_lt_of_cell? w _ hx6155_0)).trans hx6155_0
                replace hx6155_1 := (HB.out.cell (World.block_lt_of_cell? w _ hx6155_1)).trans hx6155_1
                replace hx6155_2 := (HB.out.cell (World.block_lt_of_cell? w _ hx6155_2)).trans hx6155_2
                replace hx6155_3 := (HB.out.cell (World.block_lt_of_cell? w _ hx6155_3)).trans hx6155_3
                replace hx6155_4 := (HB.out.cell (World.block_lt_of_cell? w _ hx6155_4)).trans hx6155_4
                have HR6155_3 := Aside0.mk hi6155_3
                have HC6155_3 := Aside0.mk hl6155_3
                clear hi6155_3 hl6155_3
                have HR6155_4 := Aside0.mk hi6155_4
                have HC6155_4 := Aside0.mk hl6155_4
                clear hi6155_4 hl6155_4
                replace p6155 := eq_true p6155
                replace q6155 := eq_true q6155
                have p6156 : 0 ≤ (x5_1 : Int) := of_decide_eq_true (by first | (with_reducible assumption) | assumption)
                have q6156 : x5_1 < (l1.length : Int) := of_decide_eq_true (by first | (with_reducible assumption) | assumption)
                obtain ⟨ad6156, A6156_3, c6156_3, A6156_4, c6156_4, e6156, hx6156_0, hx6156_1, hx6156_2, hx6156_3, hx6156_4, hl6156_3, hi6156_3, hl6156_4, hi6156_4⟩ := at_T51 HR1.out x5_1 p6156 q6156
                have hw6156_4 := hx6156_4
                have hw6156_3 := hx6156_3
                have hw6156_2 := hx6156_2
                have hw6156_1 := hx6156_1
                have hw6156_0 := hx6156_0
                cases e6156
                replace hx6156_0 := (HB.out.cell (World.block_lt_of_cell? w _ hx6156_0)).trans hx6156_0
                replace hx6156_1 := (HB.out.cell (World.block_lt_of_cell? w _ hx6156_1)).trans hx6156_1
                replace hx6156_2 := (HB.out.cell (World.block_lt_of_cell? w _ hx6156_2)).trans hx6156_2
                replace hx6156_3 := (HB.out.cell (World.block_lt_of_cell? w _ hx6156_3)).trans hx6156_3
                replace hx6156_4 := (HB.out.cell (World.block_lt_of_cell? w _ hx6156_4)).trans hx6156_4
                have HR6156_3 := Aside0.mk hi6156_3
                have HC6156_3 := Aside0.mk hl6156_3
                clear hi6156_3 hl6156_3
                have HR6156_4 := Aside0.mk hi6156_4
                have HC6156_4 := Aside0.mk hl6156_4
                clear hi6156_4 hl6156_4
                replace p6156 := eq_true p6156
                replace q6156 := eq_true q6156
                refine start_ (n := 10) (S := fun w' => w'.cell? (ad6155.add ((x5_1).toNat * 5)) = some (.int .i64 ((rd_T51 l0 x5_1).f0)) ∧ w'.cell? ⟨(ad6155.add ((x5_1).toNat * 5)).block, (ad6155.add ((x5_1).toNat * 5)).off + 1, none⟩ = some (.string ((rd_T51 l0 x5_1).f1)) ∧ w'.cell? ⟨(ad6155.add ((x5_1).toNat * 5)).block, (ad6155.add ((x5_1).toNat * 5)).off + 2, none⟩ = some (.bool ((rd_T51 l0 x5_1).f2)) ∧ w'.cell? ⟨(ad6155.add ((x5_1).toNat * 5)).block, (ad6155.add ((x5_1).toNat * 5)).off + 3, none⟩ = some (.slice A6155_3 ((rd_T51 l0 x5_1).f3).length c6155_3) ∧ w'.cell? ⟨(ad6155.add ((x5_1).toNat * 5)).block, (ad6155.add ((x5_1).toNat * 5)).off + 4, none⟩ = some (.slice A6155_4 ((rd_T51 l0 x5_1).f4).length c6155_4) ∧ w'.cell? (ad6156.add ((x5_1).toNat * 5)) = some (.int .i64 ((rd_T51 l1 x5_1).f0)) ∧ w'.cell? ⟨(ad6156.add ((x5_1).toNat * 5)).block, (ad6156.add ((x5_1).toNat * 5)).off + 1, none⟩ = some (.string ((rd_T51 l1 x5_1).f1)) ∧ w'.cell? ⟨(ad6156.add ((x5_1).toNat * 5)).block, (ad6156.add ((x5_1).toNat * 5)).off + 2, none⟩ = some (.bool ((rd_T51 l1 x5_1).f2)) ∧ w'.cell? ⟨(ad6156.add ((x5_1).toNat * 5)).block, (ad6156.add ((x5_1).toNat * 5)).off + 3, none⟩ = some (.slice A6156_3 ((rd_T51 l1 x5_1).f3).length c6156_3) ∧ w'.cell? ⟨(ad6156.add ((x5_1).toNat * 5)).block, (ad6156.add ((x5_1).toNat * 5)).off + 4, none⟩ = some (.slice A6156_4 ((rd_T51 l1 x5_1).f4).length c6156_4)) (ds := []) #[false, false, false, false, false, false, false, false, false, false] (by kernel_rfl) rfl rfl ⟨((HB.out.cell (World.block_lt_of_cell? w _ hw6155_0)).trans hw6155_0), ((HB.out.cell (World.block_lt_of_cell? w _ hw6155_1)).trans hw6155_1), ((HB.out.cell (World.block_lt_of_cell? w _ hw6155_2)).trans hw6155_2), ((HB.out.cell (World.block_lt_of_cell? w _ hw6155_3)).trans hw6155_3), ((HB.out.cell (World.block_lt_of_cell? w _ hw6155_4)).trans hw6155_4), ((HB.out.cell (World.block_lt_of_cell? w _ hw6156_0)).trans hw6156_0), ((HB.out.cell (World.block_lt_of_cell? w _ hw6156_1)).trans hw6156_1), ((HB.out.cell (World.block_lt_of_cell? w _ hw6156_2)).trans hw6156_2), ((HB.out.cell (World.block_lt_of_cell? w _ hw6156_3)).trans hw6156_3), ((HB.out.cell (World.block_lt_of_cell? w _ hw6156_4)).trans hw6156_4)⟩ (fun hHeld => ?_); refine with_tabW laws_eqExpCoreS.tab6 laws_eqExpCoreS.bits6 (fun HT_ HW_ => ?_)
                generalize wr.drew = w11 at HB HR6155_3 HR6155_4 HR6156_3 HR6156_4 hx6155_0 hx6155_1 hx6155_2 hx6155_3 hx6155_4 hx6156_0 hx6156_1 hx6156_2 hx6156_3 hx6156_4 hHeld ⊢
                refine pure_ (i := 0) (N := some 17) (v := ?_) (a' := ?_) #[true, false, false, false, false, false, false, false, false, false] rfl rfl (any_of HT_.out (by kernel_rfl)) (fun _ _ _ h => h) (Or.inl ⟨by rfl, ?_⟩) ?_ ?_
                rotate_left
                · intro w'
                  go_simp
                  with_reducible rfl
                rotate_left
                · simp only [Act.put, List.setIfInBounds_toArray, List.set_cons_zero, List.set_cons_succ, i64_w, i32_w]
                  rfl
                refine pure_ (i := 1) (N := some 18) (v := ?_) (a' := ?_) #[true, true, false, false, false, false, false, false, false, false] rfl rfl (any_of HT_.out (by kernel_rfl)) (fun _ _ _ h => h) (Or.inl ⟨by rfl, ?_⟩) ?_ ?_
                rotate_left
                · intro w'
                  go_simp
                  with_reducible rfl
                rotate_left
                · simp only [Act.put, List.setIfInBounds_toArray, List.set_cons_zero, List.set_cons_succ, i64_w, i32_w]
                  rfl
                refine pure_ (i := 2) (N := some 19) (v := ?_) (a' := ?_) #[true, true, true, false, false, false, false, false, false, false] rfl rfl (any_of HT_.out (by kernel_rfl)) (fun _ _ _ h => h) (Or.inl ⟨by rfl, ?_⟩) ?_ ?_
                rotate_left
                · intro w'
                  go_simp
                  with_reducible rfl
                rotate_left
                · simp only [Act.put, List.setIfInBounds_toArray, List.set_cons_zero, List.set_cons_succ, i64_w, i32_w]
                  rfl
                refine pure_ (i := 4) (N := some 21) (v := ?_) (a' := ?_) #[true, true, true, false, true, false, false, false, false, false] rfl rfl (any_of HT_.out (by kernel_rfl)) (fun _ _ _ h => h) (Or.inl ⟨by rfl, ?_⟩) ?_ ?_
                rotate_left
                · intro w'
                  go_simp
                  with_reducible rfl
                rotate_left
                · simp only [Act.put, List.setIfInBounds_toArray, List.set_cons_zero, List.set_cons_succ, i64_w, i32_w]
                  rfl
                refine pure_ (i := 5) (N := some 22) (v := ?_) (a' := ?_) #[true, true, true, false, true, true, false, false, false, false] rfl rfl (any_of HT_.out (by kernel_rfl)) (fun _ _ _ h => h) (Or.inl ⟨by rfl, ?_⟩) ?_ ?_
                rotate_left
                · intro w'
                  go_simp
                  with_reducible rfl
                rotate_left
                · simp only [Act.put, List.setIfInBounds_toArray, List.set_cons_zero, List.set_cons_succ, i64_w, i32_w]
                  rfl
                refine pure_ (i := 6) (N := some 23) (v := ?_) (a' := ?_) #[true, true, true, false, true, true, true, false, false, false] rfl rfl (any_of HT_.out (by kernel_rfl)) (fun _ _ _ h => h) (Or.inl ⟨by rfl, ?_⟩) ?_ ?_
                rotate_left
                · intro w'
                  go_simp
                  with_reducible rfl
                rotate_left
                · simp only [Act.put, List.setIfInBounds_toArray, List.set_cons_zero, List.set_cons_succ, i64_w, i32_w]
                  rfl
                refine take_ (i := 3) (N := some 20) (v := ?_) (a' := ?_) #[true, true, true, true, true, true, true, false, false, false] rfl rfl (take_ofW HT_.out HW_.out (by kernel_rfl)) (fun _ _ _ h => h) (Or.inl ⟨by rfl, ?_⟩) hHeld ?_ ?_
                rotate_left
                · rintro w' ⟨s0, s1, s2, s3, s4, s5, s6, s7, s8, s9⟩
                  go_simp
                  with_reducible rfl
                rotate_left
                · simp only [Act.put, List.setIfInBounds_toArray, List.set_cons_zero, List.set_cons_succ, i64_w, i32_w]
                  rfl
                refine take_ (i := 7) (N := some 24) (v := ?_) (a' := ?_) #[true, true, true, true, true, true, true, true, false, false] rfl rfl (take_ofW HT_.out HW_.out (by kernel_rfl)) (fun _ _ _ h => h) (Or.inl ⟨by rfl, ?_⟩) hHeld ?_ ?_
                rotate_left
                · rintro w' ⟨s0, s1, s2, s3, s4, s5, s6, s7, s8, s9⟩
                  go_simp
                  with_reducible rfl
                rotate_left
                · simp only [Act.put, List.setIfInBounds_toArray, List.set_cons_zero, List.set_cons_succ, i64_w, i32_w]
                  rfl
                refine one_ (i := 8) (N := some 25) #[true, true, true, true, true, true, true, true, true, false] rfl rfl (one_of HT_.out (by kernel_rfl)) (by decide) (fun K hK => ?_)
                refine goes_ Try.func26 (by kernel_rfl) rfl #[.agg #[.int .i64 ((rd_T51 l0 x5_1).f0), .string ((rd_T51 l0 x5_1).f1), .bool ((rd_T51 l0 x5_1).f2), .slice A6155_3 ((rd_T51 l0 x5_1).f3).length c6155_3, .slice A6155_4 ((rd_T51 l0 x5_1).f4).length c6155_4], .agg #[.int .i64 ((rd_T51 l1 x5_1).f0), .string ((rd_T51 l1 x5_1).f1), .bool ((rd_T51 l1 x5_1).f2), .slice A6156_3 ((rd_T51 l1 x5_1).f3).length c6156_3, .slice A6156_4 ((rd_T51 l1 x5_1).f4).length c6156_4]] (by rfl) rfl rfl (by (try simp only [List.map_toArray, List.map_cons, List.map_nil]); first | done | rfl | (simp only [List.length_drop, List.length_take]; rfl)) ?_
                with_reducible refine (ih26 k1 (by have := HK1.out; omega) ((rd_T51 l0 x5_1).f0) ((rd_T51 l0 x5_1).f1) ((rd_T51 l0 x5_1).f2) _ _ ((rd_T51 l0 x5_1).f3) _ _ ((rd_T51 l0 x5_1).f4) ((rd_T51 l1 x5_1).f0) ((rd_T51 l1 x5_1).f1) ((rd_T51 l1 x5_1).f2) _ _ ((rd_T51 l1 x5_1).f3) _ _ ((rd_T51 l1 x5_1).f4) false _ ?side1 ?side2 ?side3 ?side4 ?side5 ?side6 ?side7 ?side8 A7.out).mono ?_
                (case side1 => repeat (first | exact (Kd.C_below HR6155_3.out HB.out) | (with_reducible refine Kd.C_alloc ?_ _) | (with_reducible refine Kd.C_drewN ?_ _) | (with_reducible refine Kd.C_drew ?_)))
                (case side2 => exact HC6155_3.out)
                (case side3 => repeat (first | exact (Kd.C_below HR6155_4.out HB.out) | (with_reducible refine Kd.C_alloc ?_ _) | (with_reducible refine Kd.C_drewN ?_ _) | (with_reducible refine Kd.C_drew ?_)))
                (case side4 => exact HC6155_4.out)
                (case side5 => repeat (first | exact (Kd.C_below HR6156_3.out HB.out) | (with_reducible refine Kd.C_alloc ?_ _) | (with_reducible refine Kd.C_drewN ?_ _) | (with_reducible refine Kd.C_drew ?_)))
                (case side6 => exact HC6156_3.out)
                (case side7 => repeat (first | exact (Kd.C_below HR6156_4.out HB.out) | (with_reducible refine Kd.C_alloc ?_ _) | (with_reducible refine Kd.C_drewN ?_ _) | (with_reducible refine Kd.C_drew ?_)))
                (case side8 => exact HC6156_4.out)
                rintro e w12 ⟨rfl, hb⟩
                try have HR6155_3 := Aside0.mk (Kd.C_below HR6155_3.out hb)
                try have HR6155_4 := Aside0.mk (Kd.C_below HR6155_4.out hb)
                try have HR6156_3 := Aside0.mk (Kd.C_below HR6156_3.out hb)
                try have HR6156_4 := Aside0.mk (Kd.C_below HR6156_4.out hb)
                refine ⟨_, rfl, ?_⟩
                have n0_ := Aside0.mk (below_step (by repeat (first | (with_reducible first | exact HB.out | apply below_alloc | apply pw_below_drewN | apply below_drew1) | exact HB.out)) hb)
                clear HB
                have HB := n0_
                clear n0_
                (try clear hb)
                (try clear hb2)
                (try clear hk)
                (try clear hi)
                refine hK.out _ _ ⟨((HB.out.cell (World.block_lt_of_cell? w _ hw6155_0)).trans hw6155_0), ((HB.out.cell (World.block_lt_of_cell? w _ hw6155_1)).trans hw6155_1), ((HB.out.cell (World.block_lt_of_cell? w _ hw6155_2)).trans hw6155_2), ((HB.out.cell (World.block_lt_of_cell? w _ hw6155_3)).trans hw6155_3), ((HB.out.cell (World.block_lt_of_cell? w _ hw6155_4)).trans hw6155_4), ((HB.out.cell (World.block_lt_of_cell? w _ hw6156_0)).trans hw6156_0), ((HB.out.cell (World.block_lt_of_cell? w _ hw6156_1)).trans hw6156_1), ((HB.out.cell (World.block_lt_of_cell? w _ hw6156_2)).trans hw6156_2), ((HB.out.cell (World.block_lt_of_cell? w _ hw6156_3)).trans hw6156_3), ((HB.out.cell (World.block_lt_of_cell? w _ hw6156_4)).trans hw6156_4)⟩ (fun hHeld => ?_)
                clear hK K
                refine norm_ (a' := ?_) ?_ ?_
                rotate_left
                · show Act.put _ (some 25) _ = _
                  simp only [Act.put, List.setIfInBounds_toArray, List.set_cons_zero, List.set_cons_succ, i64_w, i32_w]
                  rfl
                refine pure_ (i := 9) (N := some 26) (v := ?_) (a' := ?_) #[true, true, true, true, true, true, true, true, true, true] rfl rfl (any_of HT_.out (by kernel_rfl)) (fun _ _ _ h => h) (Or.inl ⟨by rfl, ?_⟩) ?_ ?_
                rotate_left
                · intro w'
                  go_simp
                  with_reducible rfl
                rotate_left
                · simp only [Act.put, List.setIfInBounds_toArray, List.set_cons_zero, List.set_cons_succ, i64_w, i32_w]
                  rfl
                refine done_ (done_of HT_.out (by kernel_rfl)) ?_
                try go_wp2
                go_ret
                exact ⟨by first | rfl | (simp [errW_none, errW_some] <;> rfl) | (simp [*, errW_none, errW_some] <;> rfl), by repeat (first | (with_reducible first | exact HB.out | apply below_alloc | apply pw_below_drewN | apply below_drew1) | exact HB.out)⟩
            · rw [if_neg c6] at H
              exact absurd H (by simp)
          · rw [if_neg c5] at H
            exact absurd H (by simp)
        · rw [if_neg c4] at H
          have c4b0 : decide (x5_1 < (l0.length : Int)) = false := decide_eq_false c4
          clear c4
          obtain rfl := Option.some.inj H
          go_wp2
          go_ret
          exact ⟨by first | rfl | (simp [errW_none, errW_some] <;> rfl) | (simp [*, errW_none, errW_some] <;> rfl), by repeat (first | (with_reducible first | exact HB.out | apply below_alloc | apply pw_below_drewN | apply below_drew1) | exact HB.out)⟩
  · rw [if_neg c3] at H
    have c3b0 : ((l0.length : Int) == (l1.length : Int)) = false := beq_eq_false_iff_ne.mpr c3
    have c3b1 : ((l0.length : Int) != (l1.length : Int)) = true := bne_iff_ne.mpr c3
    have c3b2 : (l0.length == l1.length) = false := by first | simpa using c3 | (simp at c3 ⊢; omega)
    obtain rfl := Option.some.inj H
    go_enter Try.func16, Try.ntmps16
    go_wp2
    go_ret
    exact ⟨by first | rfl | (simp [errW_none, errW_some] <;> rfl) | (simp [*, errW_none, errW_some] <;> rfl), by repeat (first | (with_reducible first | exact HB.out | apply below_alloc | apply pw_below_drewN | apply below_drew1) | exact HB.out)⟩

set_option maxHeartbeats 8000000 in
set_option maxRecDepth 100000 in
theorem laws_eqExpCore.step (k : Nat) (ih16 : ∀ m, m < k → laws_eqExpCoreS.Spec m) (ih26 : ∀ m, m < k → laws_eqExpCore.Spec m) : ∀ (a0_0 : Int) (a0_1 : ByteArray) (a0_2 : Bool) (A0_3 : Option Addr) (c0_3 : Nat) (l0_3 : List ByteArray) (A0_4 : Option Addr) (c0_4 : Nat) (l0_4 : List (S51)) (a1_0 : Int) (a1_1 : ByteArray) (a1_2 : Bool) (A1_3 : Option Addr) (c1_3 : Nat) (l1_3 : List ByteArray) (A1_4 : Option Addr) (c1_4 : Nat) (l1_4 : List (S51)) (r : Bool) (w : World) (hr0_3 : Kd.C Kd.string w A0_3 l0_3.length l0_3) (hc0_3 : l0_3.length ≤ c0_3) (hr0_4 : Kd.C k51 w A0_4 l0_4.length l0_4) (hc0_4 : l0_4.length ≤ c0_4) (hr1_3 : Kd.C Kd.string w A1_3 l1_3.length l1_3) (hc1_3 : l1_3.length ≤ c1_3) (hr1_4 : Kd.C k51 w A1_4 l1_4.length l1_4) (hc1_4 : l1_4.length ≤ c1_4) (h : laws_eqExpCore.f k a0_0 a0_1 a0_2 l0_3 l0_4 a1_0 a1_1 a1_2 l1_3 l1_4 = some r),
    Calls Try.prog 26 #[.agg #[.int .i64 a0_0, .string a0_1, .bool a0_2, .slice A0_3 l0_3.length c0_3, .slice A0_4 l0_4.length c0_4], .agg #[.int .i64 a1_0, .string a1_1, .bool a1_2, .slice A1_3 l1_3.length c1_3, .slice A1_4 l1_4.length c1_4]] w fun e w' => e = .returned (.bool r) ∧ Below w.heap.size w w' := by
  intro a0_0 a0_1 a0_2 A0_3 c0_3 l0_3 A0_4 c0_4 l0_4 a1_0 a1_1 a1_2 A1_3 c1_3 l1_3 A1_4 c1_4 l1_4 r w hr0_3 hc0_3 hr0_4 hc0_4 hr1_3 hc1_3 hr1_4 hc1_4 h
  cases k with
  | zero => exact absurd h (by simp [laws_eqExpCore.f])
  | succ k =>
  simp only [laws_eqExpCore.f] at h
  have hu51 := Try.underlying51
  have HR0_3 := Aside0.mk hr0_3
  have HC0_3 := Aside0.mk hc0_3
  clear hr0_3 hc0_3
  have HR0_4 := Aside0.mk hr0_4
  have HC0_4 := Aside0.mk hc0_4
  clear hr0_4 hc0_4
  have HR1_3 := Aside0.mk hr1_3
  have HC1_3 := Aside0.mk hc1_3
  clear hr1_3 hc1_3
  have HR1_4 := Aside0.mk hr1_4
  have HC1_4 := Aside0.mk hc1_4
  clear hr1_4 hc1_4
  have HB := Aside0.mk (Below.refl w.heap.size w)
  have H : (if a0_0 = a1_0 then (if a0_1.toList = a1_1.toList then (if (a0_2 != a1_2) = true then (some false) else ((laws_eqStringS.f k l0_3 l1_3).bind fun t9157 => (if t9157 = true then ((laws_eqExpCoreS.f k l0_4 l1_4).bind fun t9158 => (if t9158 = true then (some true) else (some false))) else (some false)))) else (some false)) else (some false)) = some r := h
  clear h
  by_cases c3 : a0_0 = a1_0
  · rw [if_pos c3] at H
    have c3b0 : (a0_0 == a1_0) = true := beq_iff_eq.mpr c3
    have c3b1 : (a0_0 != a1_0) = false := bne_eq_false_iff_eq.mpr c3
    clear c3
    by_cases c4 : a0_1.toList = a1_1.toList
    · rw [if_pos c4] at H
      have c4b0 : (a0_1.toList == a1_1.toList) = true := beq_iff_eq.mpr c4
      have c4b1 : (a0_1.toList != a1_1.toList) = false := bne_eq_false_iff_eq.mpr c4
      clear c4
      by_cases c5 : (a0_2 != a1_2) = true
      · rw [if_pos c5] at H
        have c5b0 : (a0_2 != a1_2) = true := c5
        (try (have c5b1 : decide (a0_2 = a1_2) = false := by simpa using c5))
        (try (have c5b2 : (a0_2 == a1_2) = false := by simpa using c5))
        (try (have c5b3 : ¬ (a0_2 = a1_2) := by simpa using c5))
        clear c5
        obtain rfl := Option.some.inj H
        go_enter Try.func26, Try.ntmps26
        go_wp2_with (first | ((with_reducible refine gate_dst (N := 2) rfl ?_); refine box_event ?hg (N := 2) ?hd (cs := #[.int .i64 a0_0, .string a0_1, .bool a0_2, .slice A0_3 l0_3.length c0_3, .slice A0_4 l0_4.length c0_4]) (t := 51) ?hr ?_; (case hd => rfl); (case hg => rfl); (case hr => first | (go_simp; done) | (go_simp; rfl)); intro gb9155 hg w6 hbox hb; have n0_ := Aside0.mk (below_step (by repeat (first | (with_reducible first | exact HB.out | apply below_alloc | apply pw_below_drewN | apply below_drew1) | exact HB.out)) hb); have n1_ := Aside0.mk (hbox); have n2_ := Aside0.mk ((by rw [hg]; exact (below_size (by repeat (first | (with_reducible first | exact HB.out | apply below_alloc | apply pw_below_drewN | apply below_drew1) | exact HB.out))) : w.heap.size ≤ gb9155)); have n3_ := Aside0.mk ((by rw [hg]; exact (below_size (by repeat (first | (with_reducible first | exact HB.out | apply below_alloc | apply pw_below_drewN | apply below_drew1) | exact HB.out))) : w.heap.size ≤ gb9155)); clear HB; have HB := n0_; have BK9155 := n1_; have GW9155 := n2_; have GE9155 := n3_; clear n0_ n1_ n2_ n3_; clear hb hbox hg) | ((with_reducible refine gate_dst (N := 3) rfl ?_); refine box_event ?hg (N := 3) ?hd (cs := #[.int .i64 a1_0, .string a1_1, .bool a1_2, .slice A1_3 l1_3.length c1_3, .slice A1_4 l1_4.length c1_4]) (t := 51) ?hr ?_; (case hd => rfl); (case hg => rfl); (case hr => first | (go_simp; done) | (go_simp; rfl)); intro gb9156 hg w7 hbox hb; have n0_ := Aside0.mk (blk_below (g := gb9155) (o := .cells #[.int .i64 a0_0, .string a0_1, .bool a0_2, .slice A0_3 l0_3.length c0_3, .slice A0_4 l0_4.length c0_4] 51 (0, 0)) (by (with_reducible repeat (first | refine blk_drewN ?_ _ | refine blk_drew ?_ | refine blk_alloc ?_ _)); exact BK9155.out) hb); have n1_ := Aside0.mk (below_step (by repeat (first | (with_reducible first | exact HB.out | apply below_alloc | apply pw_below_drewN | apply below_drew1 | refine below_set ?_ GE9155.out) | exact HB.out)) hb); have n2_ := Aside0.mk (hbox); have n3_ := Aside0.mk ((by rw [hg]; exact (below_size (by repeat (first | (with_reducible first | exact HB.out | apply below_alloc | apply pw_below_drewN | apply below_drew1 | refine below_set ?_ GE9155.out) | exact HB.out))) : w.heap.size ≤ gb9156)); have n4_ := Aside0.mk ((by rw [hg]; exact (below_size (by repeat (first | (with_reducible first | exact HB.out | apply below_alloc | apply pw_below_drewN | apply below_drew1 | refine below_set ?_ GE9155.out) | exact HB.out))) : w.heap.size ≤ gb9156)); have n5_ := Aside0.mk ((by rw [hg]; exact Nat.ne_of_lt (blk_lt (g := gb9155) (o := .cells #[.int .i64 a0_0, .string a0_1, .bool a0_2, .slice A0_3 l0_3.length c0_3, .slice A0_4 l0_4.length c0_4] 51 (0, 0)) (by (with_reducible repeat (first | refine blk_drewN ?_ _ | refine blk_drew ?_ | refine blk_alloc ?_ _)); exact BK9155.out)) : gb9155 ≠ gb9156)); have n6_ := Aside0.mk ((by rw [hg]; exact Nat.ne_of_gt (blk_lt (g := gb9155) (o := .cells #[.int .i64 a0_0, .string a0_1, .bool a0_2, .slice A0_3 l0_3.length c0_3, .slice A0_4 l0_4.length c0_4] 51 (0, 0)) (by (with_reducible repeat (first | refine blk_drewN ?_ _ | refine blk_drew ?_ | refine blk_alloc ?_ _)); exact BK9155.out)) : gb9156 ≠ gb9155)); clear BK9155; clear HB; have BK9155 := n0_; have HB := n1_; have BK9156 := n2_; have GW9156 := n3_; have GE9156 := n4_; have NB9155_9156 := n5_; have NB9156_9155 := n6_; clear n0_ n1_ n2_ n3_ n4_ n5_ n6_; clear hb hbox hg; have hnb8 := NB9155_9156.out; have hnc8 := NB9156_9155.out; have hcz9_0 : w7.cell? ⟨gb9155, 0, none⟩ = some (.int .i64 a0_0) := (blk_cell BK9155.out 0).trans rfl; have hcz9_1 : w7.cell? ⟨gb9155, 1, none⟩ = some (.string a0_1) := (blk_cell BK9155.out 1).trans rfl; have hcz9_2 : w7.cell? ⟨gb9155, 2, none⟩ = some (.bool a0_2) := (blk_cell BK9155.out 2).trans rfl; have hcz9_3 : w7.cell? ⟨gb9155, 3, none⟩ = some (.slice A0_3 l0_3.length c0_3) := (blk_cell BK9155.out 3).trans rfl; have hcz9_4 : w7.cell? ⟨gb9155, 4, none⟩ = some (.slice A0_4 l0_4.length c0_4) := (blk_cell BK9155.out 4).trans rfl; have hfz9_0 := blk_frozen BK9155.out 0; have hfz9_1 := blk_frozen BK9155.out 1; have hfz9_2 := blk_frozen BK9155.out 2; have hfz9_3 := blk_frozen BK9155.out 3; have hfz9_4 := blk_frozen BK9155.out 4; have hcz10_0 : w7.cell? ⟨gb9156, 0, none⟩ = some (.int .i64 a1_0) := (blk_cell BK9156.out 0).trans rfl; have hcz10_1 : w7.cell? ⟨gb9156, 1, none⟩ = some (.string a1_1) := (blk_cell BK9156.out 1).trans rfl; have hcz10_2 : w7.cell? ⟨gb9156, 2, none⟩ = some (.bool a1_2) := (blk_cell BK9156.out 2).trans rfl; have hcz10_3 : w7.cell? ⟨gb9156, 3, none⟩ = some (.slice A1_3 l1_3.length c1_3) := (blk_cell BK9156.out 3).trans rfl; have hcz10_4 : w7.cell? ⟨gb9156, 4, none⟩ = some (.slice A1_4 l1_4.length c1_4) := (blk_cell BK9156.out 4).trans rfl; have hfz10_0 := blk_frozen BK9156.out 0; have hfz10_1 := blk_frozen BK9156.out 1; have hfz10_2 := blk_frozen BK9156.out 2; have hfz10_3 := blk_frozen BK9156.out 3; have hfz10_4 := blk_frozen BK9156.out 4))
        go_ret
        exact ⟨by first | rfl | (simp [errW_none, errW_some] <;> rfl) | (simp [*, errW_none, errW_some] <;> rfl), by repeat (first | (with_reducible first | exact HB.out | apply below_alloc | apply pw_below_drewN | apply below_drew1 | refine below_set ?_ GE9155.out | refine below_set ?_ GE9156.out) | exact HB.out)⟩
      · rw [if_neg c5] at H
        have c5b0 : (a0_2 != a1_2) = false := by simpa using c5
        (try (have c5b1 : decide (a0_2 = a1_2) = true := by simpa using c5))
        (try (have c5b2 : (a0_2 == a1_2) = true := by simpa using c5))
        clear c5
        replace H := Option.bind_eq_some_iff.mp H
        obtain ⟨t9157, A110, H⟩ := H
        replace H : (if t9157 = true then ((laws_eqExpCoreS.f k l0_4 l1_4).bind fun t9158 => (if t9158 = true then (some true) else (some false))) else (some false)) = some r := H
        have A11 := Aside0.mk A110
        clear A110
        by_cases c12 : t9157 = true
        · subst c12
          have H1 : ((laws_eqExpCoreS.f k l0_4 l1_4).bind fun t9158 => (if t9158 = true then (some true) else (some false))) = some r := by rw [if_pos rfl] at H; exact H
          clear H
          have H := H1
          clear H1
          replace H := Option.bind_eq_some_iff.mp H
          obtain ⟨t9158, A130, H⟩ := H
          replace H : (if t9158 = true then (some true) else (some false)) = some r := H
          have A13 := Aside0.mk A130
          clear A130
          by_cases c14 : t9158 = true
          · subst c14
            have H1 : (some true) = some r := by rw [if_pos rfl] at H; exact H
            clear H
            have H := H1
            clear H1
            obtain rfl := Option.some.inj H
            go_enter Try.func26, Try.ntmps26
            go_wp2_with (first | ((with_reducible refine gate_dst (N := 2) rfl ?_); refine box_event ?hg (N := 2) ?hd (cs := #[.int .i64 a0_0, .string a0_1, .bool a0_2, .slice A0_3 l0_3.length c0_3, .slice A0_4 l0_4.length c0_4]) (t := 51) ?hr ?_; (case hd => rfl); (case hg => rfl); (case hr => first | (go_simp; done) | (go_simp; rfl)); intro gb9155 hg w15 hbox hb; have n0_ := Aside0.mk (below_step (by repeat (first | (with_reducible first | exact HB.out | apply below_alloc | apply pw_below_drewN | apply below_drew1) | exact HB.out)) hb); have n1_ := Aside0.mk (hbox); have n2_ := Aside0.mk ((by rw [hg]; exact (below_size (by repeat (first | (with_reducible first | exact HB.out | apply below_alloc | apply pw_below_drewN | apply below_drew1) | exact HB.out))) : w.heap.size ≤ gb9155)); have n3_ := Aside0.mk ((by rw [hg]; exact (below_size (by repeat (first | (with_reducible first | exact HB.out | apply below_alloc | apply pw_below_drewN | apply below_drew1) | exact HB.out))) : w.heap.size ≤ gb9155)); clear HB; have HB := n0_; have BK9155 := n1_; have GW9155 := n2_; have GE9155 := n3_; clear n0_ n1_ n2_ n3_; clear hb hbox hg) | ((with_reducible refine gate_dst (N := 3) rfl ?_); refine box_event ?hg (N := 3) ?hd (cs := #[.int .i64 a1_0, .string a1_1, .bool a1_2, .slice A1_3 l1_3.length c1_3, .slice A1_4 l1_4.length c1_4]) (t := 51) ?hr ?_; (case hd => rfl); (case hg => rfl); (case hr => first | (go_simp; done) | (go_simp; rfl)); intro gb9156 hg w16 hbox hb; have n0_ := Aside0.mk (blk_below (g := gb9155) (o := .cells #[.int .i64 a0_0, .string a0_1, .bool a0_2, .slice A0_3 l0_3.length c0_3, .slice A0_4 l0_4.length c0_4] 51 (0, 0)) (by (with_reducible repeat (first | refine blk_drewN ?_ _ | refine blk_drew ?_ | refine blk_alloc ?_ _)); exact BK9155.out) hb); have n1_ := Aside0.mk (below_step (by repeat (first | (with_reducible first | exact HB.out | apply below_alloc | apply pw_below_drewN | apply below_drew1 | refine below_set ?_ GE9155.out) | exact HB.out)) hb); have n2_ := Aside0.mk (hbox); have n3_ := Aside0.mk ((by rw [hg]; exact (below_size (by repeat (first | (with_reducible first | exact HB.out | apply below_alloc | apply pw_below_drewN | apply below_drew1 | refine below_set ?_ GE9155.out) | exact HB.out))) : w.heap.size ≤ gb9156)); have n4_ := Aside0.mk ((by rw [hg]; exact (below_size (by repeat (first | (with_reducible first | exact HB.out | apply below_alloc | apply pw_below_drewN | apply below_drew1 | refine below_set ?_ GE9155.out) | exact HB.out))) : w.heap.size ≤ gb9156)); have n5_ := Aside0.mk ((by rw [hg]; exact Nat.ne_of_lt (blk_lt (g := gb9155) (o := .cells #[.int .i64 a0_0, .string a0_1, .bool a0_2, .slice A0_3 l0_3.length c0_3, .slice A0_4 l0_4.length c0_4] 51 (0, 0)) (by (with_reducible repeat (first | refine blk_drewN ?_ _ | refine blk_drew ?_ | refine blk_alloc ?_ _)); exact BK9155.out)) : gb9155 ≠ gb9156)); have n6_ := Aside0.mk ((by rw [hg]; exact Nat.ne_of_gt (blk_lt (g := gb9155) (o := .cells #[.int .i64 a0_0, .string a0_1, .bool a0_2, .slice A0_3 l0_3.length c0_3, .slice A0_4 l0_4.length c0_4] 51 (0, 0)) (by (with_reducible repeat (first | refine blk_drewN ?_ _ | refine blk_drew ?_ | refine blk_alloc ?_ _)); exact BK9155.out)) : gb9156 ≠ gb9155)); clear BK9155; clear HB; have BK9155 := n0_; have HB := n1_; have BK9156 := n2_; have GW9156 := n3_; have GE9156 := n4_; have NB9155_9156 := n5_; have NB9156_9155 := n6_; clear n0_ n1_ n2_ n3_ n4_ n5_ n6_; clear hb hbox hg; have hnb17 := NB9155_9156.out; have hnc17 := NB9156_9155.out; have hcz18_0 : w16.cell? ⟨gb9155, 0, none⟩ = some (.int .i64 a0_0) := (blk_cell BK9155.out 0).trans rfl; have hcz18_1 : w16.cell? ⟨gb9155, 1, none⟩ = some (.string a0_1) := (blk_cell BK9155.out 1).trans rfl; have hcz18_2 : w16.cell? ⟨gb9155, 2, none⟩ = some (.bool a0_2) := (blk_cell BK9155.out 2).trans rfl; have hcz18_3 : w16.cell? ⟨gb9155, 3, none⟩ = some (.slice A0_3 l0_3.length c0_3) := (blk_cell BK9155.out 3).trans rfl; have hcz18_4 : w16.cell? ⟨gb9155, 4, none⟩ = some (.slice A0_4 l0_4.length c0_4) := (blk_cell BK9155.out 4).trans rfl; have hfz18_0 := blk_frozen BK9155.out 0; have hfz18_1 := blk_frozen BK9155.out 1; have hfz18_2 := blk_frozen BK9155.out 2; have hfz18_3 := blk_frozen BK9155.out 3; have hfz18_4 := blk_frozen BK9155.out 4; have hcz19_0 : w16.cell? ⟨gb9156, 0, none⟩ = some (.int .i64 a1_0) := (blk_cell BK9156.out 0).trans rfl; have hcz19_1 : w16.cell? ⟨gb9156, 1, none⟩ = some (.string a1_1) := (blk_cell BK9156.out 1).trans rfl; have hcz19_2 : w16.cell? ⟨gb9156, 2, none⟩ = some (.bool a1_2) := (blk_cell BK9156.out 2).trans rfl; have hcz19_3 : w16.cell? ⟨gb9156, 3, none⟩ = some (.slice A1_3 l1_3.length c1_3) := (blk_cell BK9156.out 3).trans rfl; have hcz19_4 : w16.cell? ⟨gb9156, 4, none⟩ = some (.slice A1_4 l1_4.length c1_4) := (blk_cell BK9156.out 4).trans rfl; have hfz19_0 := blk_frozen BK9156.out 0; have hfz19_1 := blk_frozen BK9156.out 1; have hfz19_2 := blk_frozen BK9156.out 2; have hfz19_3 := blk_frozen BK9156.out 3; have hfz19_4 := blk_frozen BK9156.out 4) | ((with_reducible refine gate_callee (f := 31) rfl ?_); refine goesL_ (some 24) rfl rfl Try.func31 (by kernel_rfl) rfl #[.slice A0_3 l0_3.length c0_3, .slice A1_3 l1_3.length c1_3] rfl (by (try simp only [List.map_toArray, List.map_cons, List.map_nil]); first | done | rfl | (simp only [List.length_drop, List.length_take]; rfl)) ?_; (with_reducible refine (laws_eqStringS.calls k _ _ l0_3 _ _ l1_3 true _ ?side1 ?side2 ?side3 ?side4 A11.out).mono ?_); (case side1 => repeat (first | exact (Kd.C_below HR0_3.out HB.out) | (with_reducible refine Kd.C_alloc ?_ _) | (with_reducible refine Kd.C_drewN ?_ _) | (with_reducible refine Kd.C_drew ?_))); (case side2 => exact HC0_3.out); (case side3 => repeat (first | exact (Kd.C_below HR1_3.out HB.out) | (with_reducible refine Kd.C_alloc ?_ _) | (with_reducible refine Kd.C_drewN ?_ _) | (with_reducible refine Kd.C_drew ?_))); (case side4 => exact HC1_3.out); rintro e w' ⟨rfl, ⟨nd, rfl⟩⟩; refine ⟨_, rfl, ?_⟩) | ((with_reducible refine gate_callee (f := 16) rfl ?_); refine goesL_ (some 30) rfl rfl Try.func16 (by kernel_rfl) rfl #[.slice A0_4 l0_4.length c0_4, .slice A1_4 l1_4.length c1_4] rfl (by (try simp only [List.map_toArray, List.map_cons, List.map_nil]); first | done | rfl | (simp only [List.length_drop, List.length_take]; rfl)) ?_; (with_reducible refine (ih16 k (by omega) _ _ l0_4 _ _ l1_4 true _ ?side1 ?side2 ?side3 ?side4 A13.out).mono ?_); (case side1 => repeat (first | exact (Kd.C_below HR0_4.out (by repeat (first | (with_reducible first | exact HB.out | apply below_alloc | apply pw_below_drewN | apply below_drew1 | refine below_set ?_ GE9155.out | refine below_set ?_ GE9156.out) | exact HB.out))) | (with_reducible refine Kd.C_alloc ?_ _) | (with_reducible refine Kd.C_drewN ?_ _) | (with_reducible refine Kd.C_drew ?_))); (case side2 => exact HC0_4.out); (case side3 => repeat (first | exact (Kd.C_below HR1_4.out (by repeat (first | (with_reducible first | exact HB.out | apply below_alloc | apply pw_below_drewN | apply below_drew1 | refine below_set ?_ GE9155.out | refine below_set ?_ GE9156.out) | exact HB.out))) | (with_reducible refine Kd.C_alloc ?_ _) | (with_reducible refine Kd.C_drewN ?_ _) | (with_reducible refine Kd.C_drew ?_))); (case side4 => exact HC1_4.out); rintro e w20 ⟨rfl, hb⟩; refine ⟨_, rfl, ?_⟩; have n0_ := Aside0.mk (blk_below (g := gb9155) (o := .cells #[.int .i64 a0_0, .string a0_1, .bool a0_2, .slice A0_3 l0_3.length c0_3, .slice A0_4 l0_4.length c0_4] 51 (0, 0)) (by (with_reducible repeat (first | refine blk_drewN ?_ _ | refine blk_drew ?_ | refine blk_alloc ?_ _)); exact BK9155.out) hb); have n1_ := Aside0.mk (blk_below (g := gb9156) (o := .cells #[.int .i64 a1_0, .string a1_1, .bool a1_2, .slice A1_3 l1_3.length c1_3, .slice A1_4 l1_4.length c1_4] 51 (0, 0)) (by (with_reducible repeat (first | refine blk_drewN ?_ _ | refine blk_drew ?_ | refine blk_alloc ?_ _)); exact BK9156.out) hb); have n2_ := Aside0.mk (below_step (by repeat (first | (with_reducible first | exact HB.out | apply below_alloc | apply pw_below_drewN | apply below_drew1 | refine below_set ?_ GE9155.out | refine below_set ?_ GE9156.out) | exact HB.out)) hb); clear BK9155; clear BK9156; clear HB; have BK9155 := n0_; have BK9156 := n1_; have HB := n2_; clear n0_ n1_ n2_; (try clear hb); (try clear hb2); (try clear hk); (try clear hi)))
            go_ret
            exact ⟨by first | rfl | (simp [errW_none, errW_some] <;> rfl) | (simp [*, errW_none, errW_some] <;> rfl), by repeat (first | (with_reducible first | exact HB.out | apply below_alloc | apply pw_below_drewN | apply below_drew1 | refine below_set ?_ GE9155.out | refine below_set ?_ GE9156.out) | exact HB.out)⟩
          · replace c14 := Bool.eq_false_iff.mpr c14
            subst c14
            have H1 : (some false) = some r := by rw [if_neg (show ¬ (false = true) by decide)] at H; exact H
            clear H
            have H := H1
            clear H1
            obtain rfl := Option.some.inj H
            go_enter Try.func26, Try.ntmps26
            go_wp2_with (first | ((with_reducible refine gate_dst (N := 2) rfl ?_); refine box_event ?hg (N := 2) ?hd (cs := #[.int .i64 a0_0, .string a0_1, .bool a0_2, .slice A0_3 l0_3.length c0_3, .slice A0_4 l0_4.length c0_4]) (t := 51) ?hr ?_; (case hd => rfl); (case hg => rfl); (case hr => first | (go_simp; done) | (go_simp; rfl)); intro gb9155 hg w21 hbox hb; have n0_ := Aside0.mk (below_step (by repeat (first | (with_reducible first | exact HB.out | apply below_alloc | apply pw_below_drewN | apply below_drew1) | exact HB.out)) hb); have n1_ := Aside0.mk (hbox); have n2_ := Aside0.mk ((by rw [hg]; exact (below_size (by repeat (first | (with_reducible first | exact HB.out | apply below_alloc | apply pw_below_drewN | apply below_drew1) | exact HB.out))) : w.heap.size ≤ gb9155)); have n3_ := Aside0.mk ((by rw [hg]; exact (below_size (by repeat (first | (with_reducible first | exact HB.out | apply below_alloc | apply pw_below_drewN | apply below_drew1) | exact HB.out))) : w.heap.size ≤ gb9155)); clear HB; have HB := n0_; have BK9155 := n1_; have GW9155 := n2_; have GE9155 := n3_; clear n0_ n1_ n2_ n3_; clear hb hbox hg) | ((with_reducible refine gate_dst (N := 3) rfl ?_); refine box_event ?hg (N := 3) ?hd (cs := #[.int .i64 a1_0, .string a1_1, .bool a1_2, .slice A1_3 l1_3.length c1_3, .slice A1_4 l1_4.length c1_4]) (t := 51) ?hr ?_; (case hd => rfl); (case hg => rfl); (case hr => first | (go_simp; done) | (go_simp; rfl)); intro gb9156 hg w22 hbox hb; have n0_ := Aside0.mk (blk_below (g := gb9155) (o := .cells #[.int .i64 a0_0, .string a0_1, .bool a0_2, .slice A0_3 l0_3.length c0_3, .slice A0_4 l0_4.length c0_4] 51 (0, 0)) (by (with_reducible repeat (first | refine blk_drewN ?_ _ | refine blk_drew ?_ | refine blk_alloc ?_ _)); exact BK9155.out) hb); have n1_ := Aside0.mk (below_step (by repeat (first | (with_reducible first | exact HB.out | apply below_alloc | apply pw_below_drewN | apply below_drew1 | refine below_set ?_ GE9155.out) | exact HB.out)) hb); have n2_ := Aside0.mk (hbox); have n3_ := Aside0.mk ((by rw [hg]; exact (below_size (by repeat (first | (with_reducible first | exact HB.out | apply below_alloc | apply pw_below_drewN | apply below_drew1 | refine below_set ?_ GE9155.out) | exact HB.out))) : w.heap.size ≤ gb9156)); have n4_ := Aside0.mk ((by rw [hg]; exact (below_size (by repeat (first | (with_reducible first | exact HB.out | apply below_alloc | apply pw_below_drewN | apply below_drew1 | refine below_set ?_ GE9155.out) | exact HB.out))) : w.heap.size ≤ gb9156)); have n5_ := Aside0.mk ((by rw [hg]; exact Nat.ne_of_lt (blk_lt (g := gb9155) (o := .cells #[.int .i64 a0_0, .string a0_1, .bool a0_2, .slice A0_3 l0_3.length c0_3, .slice A0_4 l0_4.length c0_4] 51 (0, 0)) (by (with_reducible repeat (first | refine blk_drewN ?_ _ | refine blk_drew ?_ | refine blk_alloc ?_ _)); exact BK9155.out)) : gb9155 ≠ gb9156)); have n6_ := Aside0.mk ((by rw [hg]; exact Nat.ne_of_gt (blk_lt (g := gb9155) (o := .cells #[.int .i64 a0_0, .string a0_1, .bool a0_2, .slice A0_3 l0_3.length c0_3, .slice A0_4 l0_4.length c0_4] 51 (0, 0)) (by (with_reducible repeat (first | refine blk_drewN ?_ _ | refine blk_drew ?_ | refine blk_alloc ?_ _)); exact BK9155.out)) : gb9156 ≠ gb9155)); clear BK9155; clear HB; have BK9155 := n0_; have HB := n1_; have BK9156 := n2_; have GW9156 := n3_; have GE9156 := n4_; have NB9155_9156 := n5_; have NB9156_9155 := n6_; clear n0_ n1_ n2_ n3_ n4_ n5_ n6_; clear hb hbox hg; have hnb23 := NB9155_9156.out; have hnc23 := NB9156_9155.out; have hcz24_0 : w22.cell? ⟨gb9155, 0, none⟩ = some (.int .i64 a0_0) := (blk_cell BK9155.out 0).trans rfl; have hcz24_1 : w22.cell? ⟨gb9155, 1, none⟩ = some (.string a0_1) := (blk_cell BK9155.out 1).trans rfl; have hcz24_2 : w22.cell? ⟨gb9155, 2, none⟩ = some (.bool a0_2) := (blk_cell BK9155.out 2).trans rfl; have hcz24_3 : w22.cell? ⟨gb9155, 3, none⟩ = some (.slice A0_3 l0_3.length c0_3) := (blk_cell BK9155.out 3).trans rfl; have hcz24_4 : w22.cell? ⟨gb9155, 4, none⟩ = some (.slice A0_4 l0_4.length c0_4) := (blk_cell BK9155.out 4).trans rfl; have hfz24_0 := blk_frozen BK9155.out 0; have hfz24_1 := blk_frozen BK9155.out 1; have hfz24_2 := blk_frozen BK9155.out 2; have hfz24_3 := blk_frozen BK9155.out 3; have hfz24_4 := blk_frozen BK9155.out 4; have hcz25_0 : w22.cell? ⟨gb9156, 0, none⟩ = some (.int .i64 a1_0) := (blk_cell BK9156.out 0).trans rfl; have hcz25_1 : w22.cell? ⟨gb9156, 1, none⟩ = some (.string a1_1) := (blk_cell BK9156.out 1).trans rfl; have hcz25_2 : w22.cell? ⟨gb9156, 2, none⟩ = some (.bool a1_2) := (blk_cell BK9156.out 2).trans rfl; have hcz25_3 : w22.cell? ⟨gb9156, 3, none⟩ = some (.slice A1_3 l1_3.length c1_3) := (blk_cell BK9156.out 3).trans rfl; have hcz25_4 : w22.cell? ⟨gb9156, 4, none⟩ = some (.slice A1_4 l1_4.length c1_4) := (blk_cell BK9156.out 4).trans rfl; have hfz25_0 := blk_frozen BK9156.out 0; have hfz25_1 := blk_frozen BK9156.out 1; have hfz25_2 := blk_frozen BK9156.out 2; have hfz25_3 := blk_frozen BK9156.out 3; have hfz25_4 := blk_frozen BK9156.out 4) | ((with_reducible refine gate_callee (f := 31) rfl ?_); refine goesL_ (some 24) rfl rfl Try.func31 (by kernel_rfl) rfl #[.slice A0_3 l0_3.length c0_3, .slice A1_3 l1_3.length c1_3] rfl (by (try simp only [List.map_toArray, List.map_cons, List.map_nil]); first | done | rfl | (simp only [List.length_drop, List.length_take]; rfl)) ?_; (with_reducible refine (laws_eqStringS.calls k _ _ l0_3 _ _ l1_3 true _ ?side1 ?side2 ?side3 ?side4 A11.out).mono ?_); (case side1 => repeat (first | exact (Kd.C_below HR0_3.out HB.out) | (with_reducible refine Kd.C_alloc ?_ _) | (with_reducible refine Kd.C_drewN ?_ _) | (with_reducible refine Kd.C_drew ?_))); (case side2 => exact HC0_3.out); (case side3 => repeat (first | exact (Kd.C_below HR1_3.out HB.out) | (with_reducible refine Kd.C_alloc ?_ _) | (with_reducible refine Kd.C_drewN ?_ _) | (with_reducible refine Kd.C_drew ?_))); (case side4 => exact HC1_3.out); rintro e w' ⟨rfl, ⟨nd, rfl⟩⟩; refine ⟨_, rfl, ?_⟩) | ((with_reducible refine gate_callee (f := 16) rfl ?_); refine goesL_ (some 30) rfl rfl Try.func16 (by kernel_rfl) rfl #[.slice A0_4 l0_4.length c0_4, .slice A1_4 l1_4.length c1_4] rfl (by (try simp only [List.map_toArray, List.map_cons, List.map_nil]); first | done | rfl | (simp only [List.length_drop, List.length_take]; rfl)) ?_; (with_reducible refine (ih16 k (by omega) _ _ l0_4 _ _ l1_4 false _ ?side1 ?side2 ?side3 ?side4 A13.out).mono ?_); (case side1 => repeat (first | exact (Kd.C_below HR0_4.out (by repeat (first | (with_reducible first | exact HB.out | apply below_alloc | apply pw_below_drewN | apply below_drew1 | refine below_set ?_ GE9155.out | refine below_set ?_ GE9156.out) | exact HB.out))) | (with_reducible refine Kd.C_alloc ?_ _) | (with_reducible refine Kd.C_drewN ?_ _) | (with_reducible refine Kd.C_drew ?_))); (case side2 => exact HC0_4.out); (case side3 => repeat (first | exact (Kd.C_below HR1_4.out (by repeat (first | (with_reducible first | exact HB.out | apply below_alloc | apply pw_below_drewN | apply below_drew1 | refine below_set ?_ GE9155.out | refine below_set ?_ GE9156.out) | exact HB.out))) | (with_reducible refine Kd.C_alloc ?_ _) | (with_reducible refine Kd.C_drewN ?_ _) | (with_reducible refine Kd.C_drew ?_))); (case side4 => exact HC1_4.out); rintro e w26 ⟨rfl, hb⟩; refine ⟨_, rfl, ?_⟩; have n0_ := Aside0.mk (blk_below (g := gb9155) (o := .cells #[.int .i64 a0_0, .string a0_1, .bool a0_2, .slice A0_3 l0_3.length c0_3, .slice A0_4 l0_4.length c0_4] 51 (0, 0)) (by (with_reducible repeat (first | refine blk_drewN ?_ _ | refine blk_drew ?_ | refine blk_alloc ?_ _)); exact BK9155.out) hb); have n1_ := Aside0.mk (blk_below (g := gb9156) (o := .cells #[.int .i64 a1_0, .string a1_1, .bool a1_2, .slice A1_3 l1_3.length c1_3, .slice A1_4 l1_4.length c1_4] 51 (0, 0)) (by (with_reducible repeat (first | refine blk_drewN ?_ _ | refine blk_drew ?_ | refine blk_alloc ?_ _)); exact BK9156.out) hb); have n2_ := Aside0.mk (below_step (by repeat (first | (with_reducible first | exact HB.out | apply below_alloc | apply pw_below_drewN | apply below_drew1 | refine below_set ?_ GE9155.out | refine below_set ?_ GE9156.out) | exact HB.out)) hb); clear BK9155; clear BK9156; clear HB; have BK9155 := n0_; have BK9156 := n1_; have HB := n2_; clear n0_ n1_ n2_; (try clear hb); (try clear hb2); (try clear hk); (try clear hi)))
            go_ret
            exact ⟨by first | rfl | (simp [errW_none, errW_some] <;> rfl) | (simp [*, errW_none, errW_some] <;> rfl), by repeat (first | (with_reducible first | exact HB.out | apply below_alloc | apply pw_below_drewN | apply below_drew1 | refine below_set ?_ GE9155.out | refine below_set ?_ GE9156.out) | exact HB.out)⟩
        · replace c12 := Bool.eq_false_iff.mpr c12
          subst c12
          have H1 : (some false) = some r := by rw [if_neg (show ¬ (false = true) by decide)] at H; exact H
          clear H
          have H := H1
          clear H1
          obtain rfl := Option.some.inj H
          go_enter Try.func26, Try.ntmps26
          go_wp2_with (first | ((with_reducible refine gate_dst (N := 2) rfl ?_); refine box_event ?hg (N := 2) ?hd (cs := #[.int .i64 a0_0, .string a0_1, .bool a0_2, .slice A0_3 l0_3.length c0_3, .slice A0_4 l0_4.length c0_4]) (t := 51) ?hr ?_; (case hd => rfl); (case hg => rfl); (case hr => first | (go_simp; done) | (go_simp; rfl)); intro gb9155 hg w27 hbox hb; have n0_ := Aside0.mk (below_step (by repeat (first | (with_reducible first | exact HB.out | apply below_alloc | apply pw_below_drewN | apply below_drew1) | exact HB.out)) hb); have n1_ := Aside0.mk (hbox); have n2_ := Aside0.mk ((by rw [hg]; exact (below_size (by repeat (first | (with_reducible first | exact HB.out | apply below_alloc | apply pw_below_drewN | apply below_drew1) | exact HB.out))) : w.heap.size ≤ gb9155)); have n3_ := Aside0.mk ((by rw [hg]; exact (below_size (by repeat (first | (with_reducible first | exact HB.out | apply below_alloc | apply pw_below_drewN | apply below_drew1) | exact HB.out))) : w.heap.size ≤ gb9155)); clear HB; have HB := n0_; have BK9155 := n1_; have GW9155 := n2_; have GE9155 := n3_; clear n0_ n1_ n2_ n3_; clear hb hbox hg) | ((with_reducible refine gate_dst (N := 3) rfl ?_); refine box_event ?hg (N := 3) ?hd (cs := #[.int .i64 a1_0, .string a1_1, .bool a1_2, .slice A1_3 l1_3.length c1_3, .slice A1_4 l1_4.length c1_4]) (t := 51) ?hr ?_; (case hd => rfl); (case hg => rfl); (case hr => first | (go_simp; done) | (go_simp; rfl)); intro gb9156 hg w28 hbox hb; have n0_ := Aside0.mk (blk_below (g := gb9155) (o := .cells #[.int .i64 a0_0, .string a0_1, .bool a0_2, .slice A0_3 l0_3.length c0_3, .slice A0_4 l0_4.length c0_4] 51 (0, 0)) (by (with_reducible repeat (first | refine blk_drewN ?_ _ | refine blk_drew ?_ | refine blk_alloc ?_ _)); exact BK9155.out) hb); have n1_ := Aside0.mk (below_step (by repeat (first | (with_reducible first | exact HB.out | apply below_alloc | apply pw_below_drewN | apply below_drew1 | refine below_set ?_ GE9155.out) | exact HB.out)) hb); have n2_ := Aside0.mk (hbox); have n3_ := Aside0.mk ((by rw [hg]; exact (below_size (by repeat (first | (with_reducible first | exact HB.out | apply below_alloc | apply pw_below_drewN | apply below_drew1 | refine below_set ?_ GE9155.out) | exact HB.out))) : w.heap.size ≤ gb9156)); have n4_ := Aside0.mk ((by rw [hg]; exact (below_size (by repeat (first | (with_reducible first | exact HB.out | apply below_alloc | apply pw_below_drewN | apply below_drew1 | refine below_set ?_ GE9155.out) | exact HB.out))) : w.heap.size ≤ gb9156)); have n5_ := Aside0.mk ((by rw [hg]; exact Nat.ne_of_lt (blk_lt (g := gb9155) (o := .cells #[.int .i64 a0_0, .string a0_1, .bool a0_2, .slice A0_3 l0_3.length c0_3, .slice A0_4 l0_4.length c0_4] 51 (0, 0)) (by (with_reducible repeat (first | refine blk_drewN ?_ _ | refine blk_drew ?_ | refine blk_alloc ?_ _)); exact BK9155.out)) : gb9155 ≠ gb9156)); have n6_ := Aside0.mk ((by rw [hg]; exact Nat.ne_of_gt (blk_lt (g := gb9155) (o := .cells #[.int .i64 a0_0, .string a0_1, .bool a0_2, .slice A0_3 l0_3.length c0_3, .slice A0_4 l0_4.length c0_4] 51 (0, 0)) (by (with_reducible repeat (first | refine blk_drewN ?_ _ | refine blk_drew ?_ | refine blk_alloc ?_ _)); exact BK9155.out)) : gb9156 ≠ gb9155)); clear BK9155; clear HB; have BK9155 := n0_; have HB := n1_; have BK9156 := n2_; have GW9156 := n3_; have GE9156 := n4_; have NB9155_9156 := n5_; have NB9156_9155 := n6_; clear n0_ n1_ n2_ n3_ n4_ n5_ n6_; clear hb hbox hg; have hnb29 := NB9155_9156.out; have hnc29 := NB9156_9155.out; have hcz30_0 : w28.cell? ⟨gb9155, 0, none⟩ = some (.int .i64 a0_0) := (blk_cell BK9155.out 0).trans rfl; have hcz30_1 : w28.cell? ⟨gb9155, 1, none⟩ = some (.string a0_1) := (blk_cell BK9155.out 1).trans rfl; have hcz30_2 : w28.cell? ⟨gb9155, 2, none⟩ = some (.bool a0_2) := (blk_cell BK9155.out 2).trans rfl; have hcz30_3 : w28.cell? ⟨gb9155, 3, none⟩ = some (.slice A0_3 l0_3.length c0_3) := (blk_cell BK9155.out 3).trans rfl; have hcz30_4 : w28.cell? ⟨gb9155, 4, none⟩ = some (.slice A0_4 l0_4.length c0_4) := (blk_cell BK9155.out 4).trans rfl; have hfz30_0 := blk_frozen BK9155.out 0; have hfz30_1 := blk_frozen BK9155.out 1; have hfz30_2 := blk_frozen BK9155.out 2; have hfz30_3 := blk_frozen BK9155.out 3; have hfz30_4 := blk_frozen BK9155.out 4; have hcz31_0 : w28.cell? ⟨gb9156, 0, none⟩ = some (.int .i64 a1_0) := (blk_cell BK9156.out 0).trans rfl; have hcz31_1 : w28.cell? ⟨gb9156, 1, none⟩ = some (.string a1_1) := (blk_cell BK9156.out 1).trans rfl; have hcz31_2 : w28.cell? ⟨gb9156, 2, none⟩ = some (.bool a1_2) := (blk_cell BK9156.out 2).trans rfl; have hcz31_3 : w28.cell? ⟨gb9156, 3, none⟩ = some (.slice A1_3 l1_3.length c1_3) := (blk_cell BK9156.out 3).trans rfl; have hcz31_4 : w28.cell? ⟨gb9156, 4, none⟩ = some (.slice A1_4 l1_4.length c1_4) := (blk_cell BK9156.out 4).trans rfl; have hfz31_0 := blk_frozen BK9156.out 0; have hfz31_1 := blk_frozen BK9156.out 1; have hfz31_2 := blk_frozen BK9156.out 2; have hfz31_3 := blk_frozen BK9156.out 3; have hfz31_4 := blk_frozen BK9156.out 4) | ((with_reducible refine gate_callee (f := 31) rfl ?_); refine goesL_ (some 24) rfl rfl Try.func31 (by kernel_rfl) rfl #[.slice A0_3 l0_3.length c0_3, .slice A1_3 l1_3.length c1_3] rfl (by (try simp only [List.map_toArray, List.map_cons, List.map_nil]); first | done | rfl | (simp only [List.length_drop, List.length_take]; rfl)) ?_; (with_reducible refine (laws_eqStringS.calls k _ _ l0_3 _ _ l1_3 false _ ?side1 ?side2 ?side3 ?side4 A11.out).mono ?_); (case side1 => repeat (first | exact (Kd.C_below HR0_3.out HB.out) | (with_reducible refine Kd.C_alloc ?_ _) | (with_reducible refine Kd.C_drewN ?_ _) | (with_reducible refine Kd.C_drew ?_))); (case side2 => exact HC0_3.out); (case side3 => repeat (first | exact (Kd.C_below HR1_3.out HB.out) | (with_reducible refine Kd.C_alloc ?_ _) | (with_reducible refine Kd.C_drewN ?_ _) | (with_reducible refine Kd.C_drew ?_))); (case side4 => exact HC1_3.out); rintro e w' ⟨rfl, ⟨nd, rfl⟩⟩; refine ⟨_, rfl, ?_⟩))
          go_ret
          exact ⟨by first | rfl | (simp [errW_none, errW_some] <;> rfl) | (simp [*, errW_none, errW_some] <;> rfl), by repeat (first | (with_reducible first | exact HB.out | apply below_alloc | apply pw_below_drewN | apply below_drew1 | refine below_set ?_ GE9155.out | refine below_set ?_ GE9156.out) | exact HB.out)⟩
    · rw [if_neg c4] at H
      have c4b0 : (a0_1.toList == a1_1.toList) = false := beq_eq_false_iff_ne.mpr c4
      have c4b1 : (a0_1.toList != a1_1.toList) = true := bne_iff_ne.mpr c4
      obtain rfl := Option.some.inj H
      go_enter Try.func26, Try.ntmps26
      go_wp2_with (first | ((with_reducible refine gate_dst (N := 2) rfl ?_); refine box_event ?hg (N := 2) ?hd (cs := #[.int .i64 a0_0, .string a0_1, .bool a0_2, .slice A0_3 l0_3.length c0_3, .slice A0_4 l0_4.length c0_4]) (t := 51) ?hr ?_; (case hd => rfl); (case hg => rfl); (case hr => first | (go_simp; done) | (go_simp; rfl)); intro gb9155 hg w32 hbox hb; have n0_ := Aside0.mk (below_step (by repeat (first | (with_reducible first | exact HB.out | apply below_alloc | apply pw_below_drewN | apply below_drew1) | exact HB.out)) hb); have n1_ := Aside0.mk (hbox); have n2_ := Aside0.mk ((by rw [hg]; exact (below_size (by repeat (first | (with_reducible first | exact HB.out | apply below_alloc | apply pw_below_drewN | apply below_drew1) | exact HB.out))) : w.heap.size ≤ gb9155)); have n3_ := Aside0.mk ((by rw [hg]; exact (below_size (by repeat (first | (with_reducible first | exact HB.out | apply below_alloc | apply pw_below_drewN | apply below_drew1) | exact HB.out))) : w.heap.size ≤ gb9155)); clear HB; have HB := n0_; have BK9155 := n1_; have GW9155 := n2_; have GE9155 := n3_; clear n0_ n1_ n2_ n3_; clear hb hbox hg) | ((with_reducible refine gate_dst (N := 3) rfl ?_); refine box_event ?hg (N := 3) ?hd (cs := #[.int .i64 a1_0, .string a1_1, .bool a1_2, .slice A1_3 l1_3.length c1_3, .slice A1_4 l1_4.length c1_4]) (t := 51) ?hr ?_; (case hd => rfl); (case hg => rfl); (case hr => first | (go_simp; done) | (go_simp; rfl)); intro gb9156 hg w33 hbox hb; have n0_ := Aside0.mk (blk_below (g := gb9155) (o := .cells #[.int .i64 a0_0, .string a0_1, .bool a0_2, .slice A0_3 l0_3.length c0_3, .slice A0_4 l0_4.length c0_4] 51 (0, 0)) (by (with_reducible repeat (first | refine blk_drewN ?_ _ | refine blk_drew ?_ | refine blk_alloc ?_ _)); exact BK9155.out) hb); have n1_ := Aside0.mk (below_step (by repeat (first | (with_reducible first | exact HB.out | apply below_alloc | apply pw_below_drewN | apply below_drew1 | refine below_set ?_ GE9155.out) | exact HB.out)) hb); have n2_ := Aside0.mk (hbox); have n3_ := Aside0.mk ((by rw [hg]; exact (below_size (by repeat (first | (with_reducible first | exact HB.out | apply below_alloc | apply pw_below_drewN | apply below_drew1 | refine below_set ?_ GE9155.out) | exact HB.out))) : w.heap.size ≤ gb9156)); have n4_ := Aside0.mk ((by rw [hg]; exact (below_size (by repeat (first | (with_reducible first | exact HB.out | apply below_alloc | apply pw_below_drewN | apply below_drew1 | refine below_set ?_ GE9155.out) | exact HB.out))) : w.heap.size ≤ gb9156)); have n5_ := Aside0.mk ((by rw [hg]; exact Nat.ne_of_lt (blk_lt (g := gb9155) (o := .cells #[.int .i64 a0_0, .string a0_1, .bool a0_2, .slice A0_3 l0_3.length c0_3, .slice A0_4 l0_4.length c0_4] 51 (0, 0)) (by (with_reducible repeat (first | refine blk_drewN ?_ _ | refine blk_drew ?_ | refine blk_alloc ?_ _)); exact BK9155.out)) : gb9155 ≠ gb9156)); have n6_ := Aside0.mk ((by rw [hg]; exact Nat.ne_of_gt (blk_lt (g := gb9155) (o := .cells #[.int .i64 a0_0, .string a0_1, .bool a0_2, .slice A0_3 l0_3.length c0_3, .slice A0_4 l0_4.length c0_4] 51 (0, 0)) (by (with_reducible repeat (first | refine blk_drewN ?_ _ | refine blk_drew ?_ | refine blk_alloc ?_ _)); exact BK9155.out)) : gb9156 ≠ gb9155)); clear BK9155; clear HB; have BK9155 := n0_; have HB := n1_; have BK9156 := n2_; have GW9156 := n3_; have GE9156 := n4_; have NB9155_9156 := n5_; have NB9156_9155 := n6_; clear n0_ n1_ n2_ n3_ n4_ n5_ n6_; clear hb hbox hg; have hnb34 := NB9155_9156.out; have hnc34 := NB9156_9155.out; have hcz35_0 : w33.cell? ⟨gb9155, 0, none⟩ = some (.int .i64 a0_0) := (blk_cell BK9155.out 0).trans rfl; have hcz35_1 : w33.cell? ⟨gb9155, 1, none⟩ = some (.string a0_1) := (blk_cell BK9155.out 1).trans rfl; have hcz35_2 : w33.cell? ⟨gb9155, 2, none⟩ = some (.bool a0_2) := (blk_cell BK9155.out 2).trans rfl; have hcz35_3 : w33.cell? ⟨gb9155, 3, none⟩ = some (.slice A0_3 l0_3.length c0_3) := (blk_cell BK9155.out 3).trans rfl; have hcz35_4 : w33.cell? ⟨gb9155, 4, none⟩ = some (.slice A0_4 l0_4.length c0_4) := (blk_cell BK9155.out 4).trans rfl; have hfz35_0 := blk_frozen BK9155.out 0; have hfz35_1 := blk_frozen BK9155.out 1; have hfz35_2 := blk_frozen BK9155.out 2; have hfz35_3 := blk_frozen BK9155.out 3; have hfz35_4 := blk_frozen BK9155.out 4; have hcz36_0 : w33.cell? ⟨gb9156, 0, none⟩ = some (.int .i64 a1_0) := (blk_cell BK9156.out 0).trans rfl; have hcz36_1 : w33.cell? ⟨gb9156, 1, none⟩ = some (.string a1_1) := (blk_cell BK9156.out 1).trans rfl; have hcz36_2 : w33.cell? ⟨gb9156, 2, none⟩ = some (.bool a1_2) := (blk_cell BK9156.out 2).trans rfl; have hcz36_3 : w33.cell? ⟨gb9156, 3, none⟩ = some (.slice A1_3 l1_3.length c1_3) := (blk_cell BK9156.out 3).trans rfl; have hcz36_4 : w33.cell? ⟨gb9156, 4, none⟩ = some (.slice A1_4 l1_4.length c1_4) := (blk_cell BK9156.out 4).trans rfl; have hfz36_0 := blk_frozen BK9156.out 0; have hfz36_1 := blk_frozen BK9156.out 1; have hfz36_2 := blk_frozen BK9156.out 2; have hfz36_3 := blk_frozen BK9156.out 3; have hfz36_4 := blk_frozen BK9156.out 4))
      go_ret
      exact ⟨by first | rfl | (simp [errW_none, errW_some] <;> rfl) | (simp [*, errW_none, errW_some] <;> rfl), by repeat (first | (with_reducible first | exact HB.out | apply below_alloc | apply pw_below_drewN | apply below_drew1 | refine below_set ?_ GE9155.out | refine below_set ?_ GE9156.out) | exact HB.out)⟩
  · rw [if_neg c3] at H
    have c3b0 : (a0_0 == a1_0) = false := beq_eq_false_iff_ne.mpr c3
    have c3b1 : (a0_0 != a1_0) = true := bne_iff_ne.mpr c3
    obtain rfl := Option.some.inj H
    go_enter Try.func26, Try.ntmps26
    go_wp2_with (first | ((with_reducible refine gate_dst (N := 2) rfl ?_); refine box_event ?hg (N := 2) ?hd (cs := #[.int .i64 a0_0, .string a0_1, .bool a0_2, .slice A0_3 l0_3.length c0_3, .slice A0_4 l0_4.length c0_4]) (t := 51) ?hr ?_; (case hd => rfl); (case hg => rfl); (case hr => first | (go_simp; done) | (go_simp; rfl)); intro gb9155 hg w37 hbox hb; have n0_ := Aside0.mk (below_step (by repeat (first | (with_reducible first | exact HB.out | apply below_alloc | apply pw_below_drewN | apply below_drew1) | exact HB.out)) hb); have n1_ := Aside0.mk (hbox); have n2_ := Aside0.mk ((by rw [hg]; exact (below_size (by repeat (first | (with_reducible first | exact HB.out | apply below_alloc | apply pw_below_drewN | apply below_drew1) | exact HB.out))) : w.heap.size ≤ gb9155)); have n3_ := Aside0.mk ((by rw [hg]; exact (below_size (by repeat (first | (with_reducible first | exact HB.out | apply below_alloc | apply pw_below_drewN | apply below_drew1) | exact HB.out))) : w.heap.size ≤ gb9155)); clear HB; have HB := n0_; have BK9155 := n1_; have GW9155 := n2_; have GE9155 := n3_; clear n0_ n1_ n2_ n3_; clear hb hbox hg) | ((with_reducible refine gate_dst (N := 3) rfl ?_); refine box_event ?hg (N := 3) ?hd (cs := #[.int .i64 a1_0, .string a1_1, .bool a1_2, .slice A1_3 l1_3.length c1_3, .slice A1_4 l1_4.length c1_4]) (t := 51) ?hr ?_; (case hd => rfl); (case hg => rfl); (case hr => first | (go_simp; done) | (go_simp; rfl)); intro gb9156 hg w38 hbox hb; have n0_ := Aside0.mk (blk_below (g := gb9155) (o := .cells #[.int .i64 a0_0, .string a0_1, .bool a0_2, .slice A0_3 l0_3.length c0_3, .slice A0_4 l0_4.length c0_4] 51 (0, 0)) (by (with_reducible repeat (first | refine blk_drewN ?_ _ | refine blk_drew ?_ | refine blk_alloc ?_ _)); exact BK9155.out) hb); have n1_ := Aside0.mk (below_step (by repeat (first | (with_reducible first | exact HB.out | apply below_alloc | apply pw_below_drewN | apply below_drew1 | refine below_set ?_ GE9155.out) | exact HB.out)) hb); have n2_ := Aside0.mk (hbox); have n3_ := Aside0.mk ((by rw [hg]; exact (below_size (by repeat (first | (with_reducible first | exact HB.out | apply below_alloc | apply pw_below_drewN | apply below_drew1 | refine below_set ?_ GE9155.out) | exact HB.out))) : w.heap.size ≤ gb9156)); have n4_ := Aside0.mk ((by rw [hg]; exact (below_size (by repeat (first | (with_reducible first | exact HB.out | apply below_alloc | apply pw_below_drewN | apply below_drew1 | refine below_set ?_ GE9155.out) | exact HB.out))) : w.heap.size ≤ gb9156)); have n5_ := Aside0.mk ((by rw [hg]; exact Nat.ne_of_lt (blk_lt (g := gb9155) (o := .cells #[.int .i64 a0_0, .string a0_1, .bool a0_2, .slice A0_3 l0_3.length c0_3, .slice A0_4 l0_4.length c0_4] 51 (0, 0)) (by (with_reducible repeat (first | refine blk_drewN ?_ _ | refine blk_drew ?_ | refine blk_alloc ?_ _)); exact BK9155.out)) : gb9155 ≠ gb9156)); have n6_ := Aside0.mk ((by rw [hg]; exact Nat.ne_of_gt (blk_lt (g := gb9155) (o := .cells #[.int .i64 a0_0, .string a0_1, .bool a0_2, .slice A0_3 l0_3.length c0_3, .slice A0_4 l0_4.length c0_4] 51 (0, 0)) (by (with_reducible repeat (first | refine blk_drewN ?_ _ | refine blk_drew ?_ | refine blk_alloc ?_ _)); exact BK9155.out)) : gb9156 ≠ gb9155)); clear BK9155; clear HB; have BK9155 := n0_; have HB := n1_; have BK9156 := n2_; have GW9156 := n3_; have GE9156 := n4_; have NB9155_9156 := n5_; have NB9156_9155 := n6_; clear n0_ n1_ n2_ n3_ n4_ n5_ n6_; clear hb hbox hg; have hnb39 := NB9155_9156.out; have hnc39 := NB9156_9155.out; have hcz40_0 : w38.cell? ⟨gb9155, 0, none⟩ = some (.int .i64 a0_0) := (blk_cell BK9155.out 0).trans rfl; have hcz40_1 : w38.cell? ⟨gb9155, 1, none⟩ = some (.string a0_1) := (blk_cell BK9155.out 1).trans rfl; have hcz40_2 : w38.cell? ⟨gb9155, 2, none⟩ = some (.bool a0_2) := (blk_cell BK9155.out 2).trans rfl; have hcz40_3 : w38.cell? ⟨gb9155, 3, none⟩ = some (.slice A0_3 l0_3.length c0_3) := (blk_cell BK9155.out 3).trans rfl; have hcz40_4 : w38.cell? ⟨gb9155, 4, none⟩ = some (.slice A0_4 l0_4.length c0_4) := (blk_cell BK9155.out 4).trans rfl; have hfz40_0 := blk_frozen BK9155.out 0; have hfz40_1 := blk_frozen BK9155.out 1; have hfz40_2 := blk_frozen BK9155.out 2; have hfz40_3 := blk_frozen BK9155.out 3; have hfz40_4 := blk_frozen BK9155.out 4; have hcz41_0 : w38.cell? ⟨gb9156, 0, none⟩ = some (.int .i64 a1_0) := (blk_cell BK9156.out 0).trans rfl; have hcz41_1 : w38.cell? ⟨gb9156, 1, none⟩ = some (.string a1_1) := (blk_cell BK9156.out 1).trans rfl; have hcz41_2 : w38.cell? ⟨gb9156, 2, none⟩ = some (.bool a1_2) := (blk_cell BK9156.out 2).trans rfl; have hcz41_3 : w38.cell? ⟨gb9156, 3, none⟩ = some (.slice A1_3 l1_3.length c1_3) := (blk_cell BK9156.out 3).trans rfl; have hcz41_4 : w38.cell? ⟨gb9156, 4, none⟩ = some (.slice A1_4 l1_4.length c1_4) := (blk_cell BK9156.out 4).trans rfl; have hfz41_0 := blk_frozen BK9156.out 0; have hfz41_1 := blk_frozen BK9156.out 1; have hfz41_2 := blk_frozen BK9156.out 2; have hfz41_3 := blk_frozen BK9156.out 3; have hfz41_4 := blk_frozen BK9156.out 4))
    go_ret
    exact ⟨by first | rfl | (simp [errW_none, errW_some] <;> rfl) | (simp [*, errW_none, errW_some] <;> rfl), by repeat (first | (with_reducible first | exact HB.out | apply below_alloc | apply pw_below_drewN | apply below_drew1 | refine below_set ?_ GE9155.out | refine below_set ?_ GE9156.out) | exact HB.out)⟩

theorem laws_eqExpCoreS_group.all (k : Nat) : laws_eqExpCoreS.Spec k ∧ laws_eqExpCore.Spec k := by
  induction k using Nat.strongRecOn with
  | _ k ih => exact ⟨laws_eqExpCoreS.step k (fun m hm => (ih m hm).1) (fun m hm => (ih m hm).2), laws_eqExpCore.step k (fun m hm => (ih m hm).1) (fun m hm => (ih m hm).2)⟩
theorem laws_eqExpCoreS.calls (k : Nat) : ∀ (A0 : Option Addr) (c0 : Nat) (l0 : List (S51)) (A1 : Option Addr) (c1 : Nat) (l1 : List (S51)) (r : Bool) (w : World) (hr0 : Kd.C k51 w A0 l0.length l0) (hc0 : l0.length ≤ c0) (hr1 : Kd.C k51 w A1 l1.length l1) (hc1 : l1.length ≤ c1) (h : laws_eqExpCoreS.f k l0 l1 = some r),
    Calls Try.prog 16 #[.slice A0 l0.length c0, .slice A1 l1.length c1] w fun e w' => e = .returned (.bool r) ∧ Below w.heap.size w w' := (laws_eqExpCoreS_group.all k).1
theorem laws_eqExpCore.calls (k : Nat) : ∀ (a0_0 : Int) (a0_1 : ByteArray) (a0_2 : Bool) (A0_3 : Option Addr) (c0_3 : Nat) (l0_3 : List ByteArray) (A0_4 : Option Addr) (c0_4 : Nat) (l0_4 : List (S51)) (a1_0 : Int) (a1_1 : ByteArray) (a1_2 : Bool) (A1_3 : Option Addr) (c1_3 : Nat) (l1_3 : List ByteArray) (A1_4 : Option Addr) (c1_4 : Nat) (l1_4 : List (S51)) (r : Bool) (w : World) (hr0_3 : Kd.C Kd.string w A0_3 l0_3.length l0_3) (hc0_3 : l0_3.length ≤ c0_3) (hr0_4 : Kd.C k51 w A0_4 l0_4.length l0_4) (hc0_4 : l0_4.length ≤ c0_4) (hr1_3 : Kd.C Kd.string w A1_3 l1_3.length l1_3) (hc1_3 : l1_3.length ≤ c1_3) (hr1_4 : Kd.C k51 w A1_4 l1_4.length l1_4) (hc1_4 : l1_4.length ≤ c1_4) (h : laws_eqExpCore.f k a0_0 a0_1 a0_2 l0_3 l0_4 a1_0 a1_1 a1_2 l1_3 l1_4 = some r),
    Calls Try.prog 26 #[.agg #[.int .i64 a0_0, .string a0_1, .bool a0_2, .slice A0_3 l0_3.length c0_3, .slice A0_4 l0_4.length c0_4], .agg #[.int .i64 a1_0, .string a1_1, .bool a1_2, .slice A1_3 l1_3.length c1_3, .slice A1_4 l1_4.length c1_4]] w fun e w' => e = .returned (.bool r) ∧ Below w.heap.size w w' := (laws_eqExpCoreS_group.all k).2

end Go.Proofs.Ytmdhanegafclmaa.PFnExactExpCoreShow
