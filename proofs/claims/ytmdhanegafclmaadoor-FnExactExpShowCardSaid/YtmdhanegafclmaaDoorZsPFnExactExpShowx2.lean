/- PFnExactExpShowx2 of the seat's texts, cut down by prune.py to what the theorem comes to. -/
import Derived.Test.YtmdhanegafclmaaDoorZsPFnExactExpShowx0
import Derived.Test.YtmdhanegafclmaaDoorZsPFnExactExpShowx1
namespace Go.Proofs.YtmdhanegafclmaaDoor.PFnExactExpShow
open Go.RowKit Go.Proofs.YtmdhanegafclmaaDoorW.PrintWords Go.Proofs.YtmdhanegafclmaaDoorW.PrintLast Go.Proofs.YtmdhanegafclmaaDoorW.PrintMore
attribute [local go_sem] max2_int min2_int max_two min_two max_three min_three max_four min_four
set_option linter.unusedVariables false
set_option linter.unusedSimpArgs false
mutual
def laws_eqExpFormS.l0 : Nat → List (S35) → List (S35) → Int → Option (Bool)
 | 0, _, _, _ => none
 | k + 1, x0, x1, x5 => if x5 < (x0.length : Int) then (if 0 ≤ x5 then (if x5 < (x1.length : Int) then ((laws_eqExpForm.f k ((rd_T35 x0 x5).f0) ((rd_T35 x0 x5).f1) ((rd_T35 x0 x5).f2) ((rd_T35 x0 x5).f3) ((rd_T35 x0 x5).f4) ((rd_T35 x1 x5).f0) ((rd_T35 x1 x5).f1) ((rd_T35 x1 x5).f2) ((rd_T35 x1 x5).f3) ((rd_T35 x1 x5).f4)).bind fun t6122 => (if t6122 = true then (laws_eqExpFormS.l0 k x0 x1 (wrap64 (x5 + 1))) else (some false))) else (none)) else (none)) else (some true)
def laws_eqExpFormS.f : Nat → List (S35) → List (S35) → Option (Bool)
 | 0, _, _ => none
 | k + 1, l0, l1 => if (l0.length : Int) = (l1.length : Int) then (laws_eqExpFormS.l0 k l0 l1 0) else (some false)
def laws_eqExpForm.f : Nat → Int → ByteArray → List Int → Int → List (S35) → Int → ByteArray → List Int → Int → List (S35) → Option (Bool)
 | 0, _, _, _, _, _, _, _, _, _, _ => none
 | k + 1, a0_0, a0_1, l0_2, a0_3, l0_4, a1_0, a1_1, l1_2, a1_3, l1_4 => if a0_0 = a1_0 then (if a0_1.toList = a1_1.toList then ((laws_eqIntS.f k l0_2 l1_2).bind fun t9122 => (if t9122 = true then (if a0_3 = a1_3 then ((laws_eqExpFormS.f k l0_4 l1_4).bind fun t9123 => (if t9123 = true then (some true) else (some false))) else (some false)) else (some false))) else (some false)) else (some false)
end
theorem laws_eqExpFormS_group.mono_l : ∀ k, (∀ y0 y1, LeO (laws_eqExpFormS.f k y0 y1) (laws_eqExpFormS.f (k + 1) y0 y1)) ∧ (∀ y0 y1 y2, LeO (laws_eqExpFormS.l0 k y0 y1 y2) (laws_eqExpFormS.l0 (k + 1) y0 y1 y2)) ∧ (∀ y0 y1 y2 y3 y4 y5 y6 y7 y8 y9, LeO (laws_eqExpForm.f k y0 y1 y2 y3 y4 y5 y6 y7 y8 y9) (laws_eqExpForm.f (k + 1) y0 y1 y2 y3 y4 y5 y6 y7 y8 y9))
 | 0 => ⟨fun _ _ r h => by simp [laws_eqExpFormS.f] at h, fun _ _ _ r h => by simp [laws_eqExpFormS.l0] at h, fun _ _ _ _ _ _ _ _ _ _ r h => by simp [laws_eqExpForm.f] at h⟩
 | k + 1 => by
  obtain ⟨ih0, ih1, ih2⟩ := laws_eqExpFormS_group.mono_l k
  refine ⟨?_, ?_, ?_⟩
  ·intro y0 y1
   unfold laws_eqExpFormS.f
   repeat' first
   | (with_reducible exact ih0 _ _)
   | (with_reducible exact ih1 _ _ _)
   | (with_reducible exact ih2 _ _ _ _ _ _ _ _ _ _)
   | (with_reducible exact laws_eqIntS.mono _ _ _)
   | (with_reducible exact LeO.refl _)
   | (with_reducible exact LeO.none _)
   | (with_reducible refine LeO.ite ?_ ?_)
   | (with_reducible refine LeO.bind ?_ (fun _ => ?_))
   | exact ih0 _ _
   | exact ih1 _ _ _
   | exact ih2 _ _ _ _ _ _ _ _ _ _
   | exact laws_eqIntS.mono _ _ _
   | exact LeO.none _
   | refine LeO.ite ?_ ?_
   | refine LeO.bind ?_ (fun _ => ?_)
  ·intro y0 y1 y2
   unfold laws_eqExpFormS.l0
   repeat' first
   | (with_reducible exact ih0 _ _)
   | (with_reducible exact ih1 _ _ _)
   | (with_reducible exact ih2 _ _ _ _ _ _ _ _ _ _)
   | (with_reducible exact laws_eqIntS.mono _ _ _)
   | (with_reducible exact LeO.refl _)
   | (with_reducible exact LeO.none _)
   | (with_reducible refine LeO.ite ?_ ?_)
   | (with_reducible refine LeO.bind ?_ (fun _ => ?_))
   | exact ih0 _ _
   | exact ih1 _ _ _
   | exact ih2 _ _ _ _ _ _ _ _ _ _
   | exact laws_eqIntS.mono _ _ _
   | exact LeO.none _
   | refine LeO.ite ?_ ?_
   | refine LeO.bind ?_ (fun _ => ?_)
  ·intro y0 y1 y2 y3 y4 y5 y6 y7 y8 y9
   unfold laws_eqExpForm.f
   repeat' first
   | (with_reducible exact ih0 _ _)
   | (with_reducible exact ih1 _ _ _)
   | (with_reducible exact ih2 _ _ _ _ _ _ _ _ _ _)
   | (with_reducible exact laws_eqIntS.mono _ _ _)
   | (with_reducible exact LeO.refl _)
   | (with_reducible exact LeO.none _)
   | (with_reducible refine LeO.ite ?_ ?_)
   | (with_reducible refine LeO.bind ?_ (fun _ => ?_))
   | exact ih0 _ _
   | exact ih1 _ _ _
   | exact ih2 _ _ _ _ _ _ _ _ _ _
   | exact laws_eqIntS.mono _ _ _
   | exact LeO.none _
   | refine LeO.ite ?_ ?_
   | refine LeO.bind ?_ (fun _ => ?_)
theorem laws_eqExpFormS.mono : ∀ a0 a1 k, LeO (laws_eqExpFormS.f k a0 a1) (laws_eqExpFormS.f (k + 1) a0 a1) := by
 intro a0 a1 k
 obtain ⟨ih0, ih1, ih2⟩ := laws_eqExpFormS_group.mono_l k
 exact ih0 a0 a1
theorem laws_eqExpForm.mono : ∀ a0 a1 a2 a3 a4 a5 a6 a7 a8 a9 k, LeO (laws_eqExpForm.f k a0 a1 a2 a3 a4 a5 a6 a7 a8 a9) (laws_eqExpForm.f (k + 1) a0 a1 a2 a3 a4 a5 a6 a7 a8 a9) := by
 intro a0 a1 a2 a3 a4 a5 a6 a7 a8 a9 k
 obtain ⟨ih0, ih1, ih2⟩ := laws_eqExpFormS_group.mono_l k
 exact ih2 a0 a1 a2 a3 a4 a5 a6 a7 a8 a9
abbrev laws_eqExpFormS.Spec (k : Nat) : Prop := ∀ (A0 : Option Addr) (c0 : Nat) (l0 : List (S35)) (A1 : Option Addr) (c1 : Nat) (l1 : List (S35)) (r : Bool) (w : World) (hr0 : Kd.C k35 w A0 l0.length l0) (hc0 : l0.length ≤ c0) (hr1 : Kd.C k35 w A1 l1.length l1) (hc1 : l1.length ≤ c1) (h : laws_eqExpFormS.f k l0 l1 = some r),
  Calls Tryd.prog 26 #[.slice A0 l0.length c0, .slice A1 l1.length c1] w fun e w' => e = .returned (.bool r) ∧ Below w.heap.size w w'
abbrev laws_eqExpForm.Spec (k : Nat) : Prop := ∀ (a0_0 : Int) (a0_1 : ByteArray) (A0_2 : Option Addr) (c0_2 : Nat) (l0_2 : List Int) (a0_3 : Int) (A0_4 : Option Addr) (c0_4 : Nat) (l0_4 : List (S35)) (a1_0 : Int) (a1_1 : ByteArray) (A1_2 : Option Addr) (c1_2 : Nat) (l1_2 : List Int) (a1_3 : Int) (A1_4 : Option Addr) (c1_4 : Nat) (l1_4 : List (S35)) (r : Bool) (w : World) (hr0_2 : Kd.C (Kd.int .i64) w A0_2 l0_2.length l0_2) (hc0_2 : l0_2.length ≤ c0_2) (hr0_4 : Kd.C k35 w A0_4 l0_4.length l0_4) (hc0_4 : l0_4.length ≤ c0_4) (hr1_2 : Kd.C (Kd.int .i64) w A1_2 l1_2.length l1_2) (hc1_2 : l1_2.length ≤ c1_2) (hr1_4 : Kd.C k35 w A1_4 l1_4.length l1_4) (hc1_4 : l1_4.length ≤ c1_4) (h : laws_eqExpForm.f k a0_0 a0_1 l0_2 a0_3 l0_4 a1_0 a1_1 l1_2 a1_3 l1_4 = some r),
  Calls Tryd.prog 15 #[.agg #[.int .i64 a0_0, .string a0_1, .slice A0_2 l0_2.length c0_2, .int .i64 a0_3, .slice A0_4 l0_4.length c0_4], .agg #[.int .i64 a1_0, .string a1_1, .slice A1_2 l1_2.length c1_2, .int .i64 a1_3, .slice A1_4 l1_4.length c1_4]] w fun e w' => e = .returned (.bool r) ∧ Below w.heap.size w w'
set_option maxHeartbeats 8000000 in
def laws_eqExpFormS.T6 : Bool × List (List Nat × List Nat) := (true, [([], []), ([], []), ([0, 1], [0, 1]), ([2], [2]), ([], []), ([], []), ([4, 5], [4, 5]), ([6], [6]), ([3, 7], [3, 7]), ([8], [8])])
def laws_eqExpFormS.B6 : List Nat := [0, 0, 3, 7, 0, 0, 48, 112, 255, 511]
theorem laws_eqExpFormS.tab6 : rtab .any (opsOf Tryd.f26 6) = laws_eqExpFormS.T6 := by kernel_rfl
theorem laws_eqExpFormS.bits6 : waitsOk laws_eqExpFormS.T6.2 laws_eqExpFormS.B6 = true := by kernel_rfl
set_option maxRecDepth 100000 in
theorem laws_eqExpFormS.step (k : Nat) (ih26 : ∀ m, m < k → laws_eqExpFormS.Spec m) (ih15 : ∀ m, m < k → laws_eqExpForm.Spec m) : ∀ (A0 : Option Addr) (c0 : Nat) (l0 : List (S35)) (A1 : Option Addr) (c1 : Nat) (l1 : List (S35)) (r : Bool) (w : World) (hr0 : Kd.C k35 w A0 l0.length l0) (hc0 : l0.length ≤ c0) (hr1 : Kd.C k35 w A1 l1.length l1) (hc1 : l1.length ≤ c1) (h : laws_eqExpFormS.f k l0 l1 = some r),
  Calls Tryd.prog 26 #[.slice A0 l0.length c0, .slice A1 l1.length c1] w fun e w' => e = .returned (.bool r) ∧ Below w.heap.size w w' := by
 intro A0 c0 l0 A1 c1 l1 r w hr0 hc0 hr1 hc1 h
 cases k with
 | zero => exact absurd h (by simp [laws_eqExpFormS.f])
 | succ k =>
 simp only [laws_eqExpFormS.f] at h
 have hu35 := Tryd.underlying35
 have HR0 := Aq hr0
 have HC0 := Aq hc0
 clear hr0 hc0
 have HR1 := Aq hr1
 have HC1 := Aq hc1
 clear hr1 hc1
 have HB := Aq (Below.refl w.heap.size w)
 have H : (if (l0.length : Int) = (l1.length : Int) then (laws_eqExpFormS.l0 k l0 l1 0) else (some false)) = some r := h
 clear h
 by_cases c3 : (l0.length : Int) = (l1.length : Int)
 ·rw [if_pos c3] at H
  have c3b0 : ((l0.length : Int) == (l1.length : Int)) = true := beq_iff_eq.mpr c3
  have c3b1 : ((l0.length : Int) != (l1.length : Int)) = false := bne_eq_false_iff_eq.mpr c3
  have c3b2 : (l0.length == l1.length) = true := by first | simpa using c3 | (simp at c3 ⊢; omega)
  clear c3
  have H' := Aq H
  clear H
  go_enter Tryd.func26, Tryd.ntmps26
  go_wp2
  go_loopg [5] k (fun kq v5 w' => ∃ (x5_1 : Int), v5 = .int .i64 x5_1 ∧ Aside0 (laws_eqExpFormS.l0 kq l0 l1 x5_1 = some r) ∧ Aside0 (kq ≤ k) ∧ Aside0 (Below w.heap.size w w'))
  case atStart => exact ⟨(0), (by first | rfl | (simp; done) | (simp [*]; done)), H', ⟨Nat.le_refl _⟩, ⟨by repeat (first | (with_reducible first | exact HB.out | apply zB | apply zC | apply zE) | exact HB.out)⟩⟩
  case round =>
   clear H'
   try clear c1
   try clear c2
   try clear p2
   try clear c3
   try clear c3b0
   try clear c3b1
   try clear c3b2
   obtain ⟨x5_1, rfl, HA, HK1, HB⟩ := hrel
   cases gk with
   | zero => exact absurd HA.out (by simp [laws_eqExpFormS.l0])
   | succ k1 =>
    have H := HA.out
    clear HA
    simp only [laws_eqExpFormS.l0] at H
    by_cases c4 : x5_1 < (l0.length : Int)
    ·rw [if_pos c4] at H
     have c4b0 : decide (x5_1 < (l0.length : Int)) = true := decide_eq_true c4
     clear c4
     by_cases c5 : 0 ≤ x5_1
     ·rw [if_pos c5] at H
      have c5b0 : decide (0 ≤ x5_1) = true := decide_eq_true c5
      clear c5
      by_cases c6 : x5_1 < (l1.length : Int)
      ·rw [if_pos c6] at H
       have c6b0 : decide (x5_1 < (l1.length : Int)) = true := decide_eq_true c6
       clear c6
       replace H := Option.bind_eq_some_iff.mp H
       obtain ⟨t6122, A70, H⟩ := H
       replace H : (if t6122 = true then (laws_eqExpFormS.l0 k1 l0 l1 (wrap64 (x5_1 + 1))) else (some false)) = some r := H
       have A7 := Aq A70
       clear A70
       by_cases c8 : t6122 = true
       ·subst c8
        have H1 : (laws_eqExpFormS.l0 k1 l0 l1 (wrap64 (x5_1 + 1))) = some r := by rw [if_pos rfl] at H; exact H
        clear H
        have H := H1
        clear H1
        have H' := Aq H
        clear H
        try go_wp2
        have n0_ := Aq (zE HB.out)
        clear HB
        have HB := n0_
        clear n0_
        have p6120 : 0 ≤ (x5_1 : Int) := of_decide_eq_true (by first | (with_reducible assumption) | assumption)
        have q6120 : x5_1 < (l0.length : Int) := of_decide_eq_true (by first | (with_reducible assumption) | assumption)
        obtain ⟨ad6120, A6120_2, c6120_2, A6120_4, c6120_4, e6120, hx6120_0, hx6120_1, hx6120_2, hx6120_3, hx6120_4, hl6120_2, hi6120_2, hl6120_4, hi6120_4⟩ := at_T35 HR0.out x5_1 p6120 q6120
        have hw6120_4 := hx6120_4
        have hw6120_3 := hx6120_3
        have hw6120_2 := hx6120_2
        have hw6120_1 := hx6120_1
        have hw6120_0 := hx6120_0
        cases e6120
        replace hx6120_0 := (HB.out.cell (World.block_lt_of_cell? w _ hx6120_0)).trans hx6120_0
        replace hx6120_1 := (HB.out.cell (World.block_lt_of_cell? w _ hx6120_1)).trans hx6120_1
        replace hx6120_2 := (HB.out.cell (World.block_lt_of_cell? w _ hx6120_2)).trans hx6120_2
        replace hx6120_3 := (HB.out.cell (World.block_lt_of_cell? w _ hx6120_3)).trans hx6120_3
        replace hx6120_4 := (HB.out.cell (World.block_lt_of_cell? w _ hx6120_4)).trans hx6120_4
        have HR6120_2 := Aq hi6120_2
        have HC6120_2 := Aq hl6120_2
        clear hi6120_2 hl6120_2
        have HR6120_4 := Aq hi6120_4
        have HC6120_4 := Aq hl6120_4
        clear hi6120_4 hl6120_4
        replace p6120 := eq_true p6120
        replace q6120 := eq_true q6120
        have p6121 : 0 ≤ (x5_1 : Int) := of_decide_eq_true (by first | (with_reducible assumption) | assumption)
        have q6121 : x5_1 < (l1.length : Int) := of_decide_eq_true (by first | (with_reducible assumption) | assumption)
        obtain ⟨ad6121, A6121_2, c6121_2, A6121_4, c6121_4, e6121, hx6121_0, hx6121_1, hx6121_2, hx6121_3, hx6121_4, hl6121_2, hi6121_2, hl6121_4, hi6121_4⟩ := at_T35 HR1.out x5_1 p6121 q6121
        have hw6121_4 := hx6121_4
        have hw6121_3 := hx6121_3
        have hw6121_2 := hx6121_2
        have hw6121_1 := hx6121_1
        have hw6121_0 := hx6121_0
        cases e6121
        replace hx6121_0 := (HB.out.cell (World.block_lt_of_cell? w _ hx6121_0)).trans hx6121_0
        replace hx6121_1 := (HB.out.cell (World.block_lt_of_cell? w _ hx6121_1)).trans hx6121_1
        replace hx6121_2 := (HB.out.cell (World.block_lt_of_cell? w _ hx6121_2)).trans hx6121_2
        replace hx6121_3 := (HB.out.cell (World.block_lt_of_cell? w _ hx6121_3)).trans hx6121_3
        replace hx6121_4 := (HB.out.cell (World.block_lt_of_cell? w _ hx6121_4)).trans hx6121_4
        have HR6121_2 := Aq hi6121_2
        have HC6121_2 := Aq hl6121_2
        clear hi6121_2 hl6121_2
        have HR6121_4 := Aq hi6121_4
        have HC6121_4 := Aq hl6121_4
        clear hi6121_4 hl6121_4
        replace p6121 := eq_true p6121
        replace q6121 := eq_true q6121
        refine start_ (n := 10) (S := fun w' => w'.cell? (ad6120.add ((x5_1).toNat * 5)) = some (.int .i64 ((rd_T35 l0 x5_1).f0)) ∧ w'.cell? ⟨(ad6120.add ((x5_1).toNat * 5)).block, (ad6120.add ((x5_1).toNat * 5)).off + 1, none⟩ = some (.string ((rd_T35 l0 x5_1).f1)) ∧ w'.cell? ⟨(ad6120.add ((x5_1).toNat * 5)).block, (ad6120.add ((x5_1).toNat * 5)).off + 2, none⟩ = some (.slice A6120_2 ((rd_T35 l0 x5_1).f2).length c6120_2) ∧ w'.cell? ⟨(ad6120.add ((x5_1).toNat * 5)).block, (ad6120.add ((x5_1).toNat * 5)).off + 3, none⟩ = some (.int .i64 ((rd_T35 l0 x5_1).f3)) ∧ w'.cell? ⟨(ad6120.add ((x5_1).toNat * 5)).block, (ad6120.add ((x5_1).toNat * 5)).off + 4, none⟩ = some (.slice A6120_4 ((rd_T35 l0 x5_1).f4).length c6120_4) ∧ w'.cell? (ad6121.add ((x5_1).toNat * 5)) = some (.int .i64 ((rd_T35 l1 x5_1).f0)) ∧ w'.cell? ⟨(ad6121.add ((x5_1).toNat * 5)).block, (ad6121.add ((x5_1).toNat * 5)).off + 1, none⟩ = some (.string ((rd_T35 l1 x5_1).f1)) ∧ w'.cell? ⟨(ad6121.add ((x5_1).toNat * 5)).block, (ad6121.add ((x5_1).toNat * 5)).off + 2, none⟩ = some (.slice A6121_2 ((rd_T35 l1 x5_1).f2).length c6121_2) ∧ w'.cell? ⟨(ad6121.add ((x5_1).toNat * 5)).block, (ad6121.add ((x5_1).toNat * 5)).off + 3, none⟩ = some (.int .i64 ((rd_T35 l1 x5_1).f3)) ∧ w'.cell? ⟨(ad6121.add ((x5_1).toNat * 5)).block, (ad6121.add ((x5_1).toNat * 5)).off + 4, none⟩ = some (.slice A6121_4 ((rd_T35 l1 x5_1).f4).length c6121_4)) (ds := []) #[false, false, false, false, false, false, false, false, false, false] (by kernel_rfl) rfl rfl ⟨((HB.out.cell (World.block_lt_of_cell? w _ hw6120_0)).trans hw6120_0), ((HB.out.cell (World.block_lt_of_cell? w _ hw6120_1)).trans hw6120_1), ((HB.out.cell (World.block_lt_of_cell? w _ hw6120_2)).trans hw6120_2), ((HB.out.cell (World.block_lt_of_cell? w _ hw6120_3)).trans hw6120_3), ((HB.out.cell (World.block_lt_of_cell? w _ hw6120_4)).trans hw6120_4), ((HB.out.cell (World.block_lt_of_cell? w _ hw6121_0)).trans hw6121_0), ((HB.out.cell (World.block_lt_of_cell? w _ hw6121_1)).trans hw6121_1), ((HB.out.cell (World.block_lt_of_cell? w _ hw6121_2)).trans hw6121_2), ((HB.out.cell (World.block_lt_of_cell? w _ hw6121_3)).trans hw6121_3), ((HB.out.cell (World.block_lt_of_cell? w _ hw6121_4)).trans hw6121_4)⟩ (fun hHeld => ?_); refine with_tabW laws_eqExpFormS.tab6 laws_eqExpFormS.bits6 (fun HT_ HW_ => ?_)
        generalize wr.drew = w9 at HB HR6120_2 HR6120_4 HR6121_2 HR6121_4 hx6120_0 hx6120_1 hx6120_2 hx6120_3 hx6120_4 hx6121_0 hx6121_1 hx6121_2 hx6121_3 hx6121_4 hHeld ⊢
        refine pure_ (i := 0) (N := some 17) (v := ?_) (a' := ?_) #[true, false, false, false, false, false, false, false, false, false] rfl rfl (any_of HT_.out (by kernel_rfl)) (fun _ _ _ h => h) (Or.inl ⟨by rfl, ?_⟩) ?_ ?_
        rotate_left
        ·intro w'
         go_simp
         with_reducible rfl
        rotate_left
        ·simp only [Act.put, sA, sB, sC, i64_w, i32_w]
         rfl
        refine pure_ (i := 1) (N := some 18) (v := ?_) (a' := ?_) #[true, true, false, false, false, false, false, false, false, false] rfl rfl (any_of HT_.out (by kernel_rfl)) (fun _ _ _ h => h) (Or.inl ⟨by rfl, ?_⟩) ?_ ?_
        rotate_left
        ·intro w'
         go_simp
         with_reducible rfl
        rotate_left
        ·simp only [Act.put, sA, sB, sC, i64_w, i32_w]
         rfl
        refine pure_ (i := 2) (N := some 19) (v := ?_) (a' := ?_) #[true, true, true, false, false, false, false, false, false, false] rfl rfl (any_of HT_.out (by kernel_rfl)) (fun _ _ _ h => h) (Or.inl ⟨by rfl, ?_⟩) ?_ ?_
        rotate_left
        ·intro w'
         go_simp
         with_reducible rfl
        rotate_left
        ·simp only [Act.put, sA, sB, sC, i64_w, i32_w]
         rfl
        refine pure_ (i := 4) (N := some 21) (v := ?_) (a' := ?_) #[true, true, true, false, true, false, false, false, false, false] rfl rfl (any_of HT_.out (by kernel_rfl)) (fun _ _ _ h => h) (Or.inl ⟨by rfl, ?_⟩) ?_ ?_
        rotate_left
        ·intro w'
         go_simp
         with_reducible rfl
        rotate_left
        ·simp only [Act.put, sA, sB, sC, i64_w, i32_w]
         rfl
        refine pure_ (i := 5) (N := some 22) (v := ?_) (a' := ?_) #[true, true, true, false, true, true, false, false, false, false] rfl rfl (any_of HT_.out (by kernel_rfl)) (fun _ _ _ h => h) (Or.inl ⟨by rfl, ?_⟩) ?_ ?_
        rotate_left
        ·intro w'
         go_simp
         with_reducible rfl
        rotate_left
        ·simp only [Act.put, sA, sB, sC, i64_w, i32_w]
         rfl
        refine pure_ (i := 6) (N := some 23) (v := ?_) (a' := ?_) #[true, true, true, false, true, true, true, false, false, false] rfl rfl (any_of HT_.out (by kernel_rfl)) (fun _ _ _ h => h) (Or.inl ⟨by rfl, ?_⟩) ?_ ?_
        rotate_left
        ·intro w'
         go_simp
         with_reducible rfl
        rotate_left
        ·simp only [Act.put, sA, sB, sC, i64_w, i32_w]
         rfl
        refine take_ (i := 3) (N := some 20) (v := ?_) (a' := ?_) #[true, true, true, true, true, true, true, false, false, false] rfl rfl (take_ofW HT_.out HW_.out (by kernel_rfl)) (fun _ _ _ h => h) (Or.inl ⟨by rfl, ?_⟩) hHeld ?_ ?_
        rotate_left
        ·rintro w' ⟨s0, s1, s2, s3, s4, s5, s6, s7, s8, s9⟩
         go_simp
         with_reducible rfl
        rotate_left
        ·simp only [Act.put, sA, sB, sC, i64_w, i32_w]
         rfl
        refine take_ (i := 7) (N := some 24) (v := ?_) (a' := ?_) #[true, true, true, true, true, true, true, true, false, false] rfl rfl (take_ofW HT_.out HW_.out (by kernel_rfl)) (fun _ _ _ h => h) (Or.inl ⟨by rfl, ?_⟩) hHeld ?_ ?_
        rotate_left
        ·rintro w' ⟨s0, s1, s2, s3, s4, s5, s6, s7, s8, s9⟩
         go_simp
         with_reducible rfl
        rotate_left
        ·simp only [Act.put, sA, sB, sC, i64_w, i32_w]
         rfl
        refine one_ (i := 8) (N := some 25) #[true, true, true, true, true, true, true, true, true, false] rfl rfl (one_of HT_.out (by kernel_rfl)) (by decide) (fun K hK => ?_)
        refine goes_ Tryd.func15 (by kernel_rfl) rfl #[.agg #[.int .i64 ((rd_T35 l0 x5_1).f0), .string ((rd_T35 l0 x5_1).f1), .slice A6120_2 ((rd_T35 l0 x5_1).f2).length c6120_2, .int .i64 ((rd_T35 l0 x5_1).f3), .slice A6120_4 ((rd_T35 l0 x5_1).f4).length c6120_4], .agg #[.int .i64 ((rd_T35 l1 x5_1).f0), .string ((rd_T35 l1 x5_1).f1), .slice A6121_2 ((rd_T35 l1 x5_1).f2).length c6121_2, .int .i64 ((rd_T35 l1 x5_1).f3), .slice A6121_4 ((rd_T35 l1 x5_1).f4).length c6121_4]] (by rfl) rfl rfl (by (try simp only [List.map_toArray, List.map_cons, List.map_nil]); first | done | rfl | (simp only [List.length_drop, List.length_take]; rfl)) ?_
        with_reducible refine (ih15 k1 (by have := HK1.out; omega) ((rd_T35 l0 x5_1).f0) ((rd_T35 l0 x5_1).f1) _ _ ((rd_T35 l0 x5_1).f2) ((rd_T35 l0 x5_1).f3) _ _ ((rd_T35 l0 x5_1).f4) ((rd_T35 l1 x5_1).f0) ((rd_T35 l1 x5_1).f1) _ _ ((rd_T35 l1 x5_1).f2) ((rd_T35 l1 x5_1).f3) _ _ ((rd_T35 l1 x5_1).f4) true _ ?side1 ?side2 ?side3 ?side4 ?side5 ?side6 ?side7 ?side8 A7.out).mono ?_
        (case side1 => repeat (first | exact (Kd.C_below HR6120_2.out HB.out) | (with_reducible refine Kd.C_alloc ?_ _) | (with_reducible refine Kd.C_drewN ?_ _) | (with_reducible refine Kd.C_drew ?_)))
        (case side2 => exact HC6120_2.out)
        (case side3 => repeat (first | exact (Kd.C_below HR6120_4.out HB.out) | (with_reducible refine Kd.C_alloc ?_ _) | (with_reducible refine Kd.C_drewN ?_ _) | (with_reducible refine Kd.C_drew ?_)))
        (case side4 => exact HC6120_4.out)
        (case side5 => repeat (first | exact (Kd.C_below HR6121_2.out HB.out) | (with_reducible refine Kd.C_alloc ?_ _) | (with_reducible refine Kd.C_drewN ?_ _) | (with_reducible refine Kd.C_drew ?_)))
        (case side6 => exact HC6121_2.out)
        (case side7 => repeat (first | exact (Kd.C_below HR6121_4.out HB.out) | (with_reducible refine Kd.C_alloc ?_ _) | (with_reducible refine Kd.C_drewN ?_ _) | (with_reducible refine Kd.C_drew ?_)))
        (case side8 => exact HC6121_4.out)
        rintro e w10 ⟨rfl, hb⟩
        try have HR6120_2 := Aq (Kd.C_below HR6120_2.out hb)
        try have HR6120_4 := Aq (Kd.C_below HR6120_4.out hb)
        try have HR6121_2 := Aq (Kd.C_below HR6121_2.out hb)
        try have HR6121_4 := Aq (Kd.C_below HR6121_4.out hb)
        refine ⟨_, rfl, ?_⟩
        have n0_ := Aq (below_step (by repeat (first | (with_reducible first | exact HB.out | apply zB | apply zC | apply zE) | exact HB.out)) hb)
        clear HB
        have HB := n0_
        clear n0_
        (try clear hb)
        (try clear hb2)
        (try clear hk)
        (try clear hi)
        refine hK.out _ _ ⟨((HB.out.cell (World.block_lt_of_cell? w _ hw6120_0)).trans hw6120_0), ((HB.out.cell (World.block_lt_of_cell? w _ hw6120_1)).trans hw6120_1), ((HB.out.cell (World.block_lt_of_cell? w _ hw6120_2)).trans hw6120_2), ((HB.out.cell (World.block_lt_of_cell? w _ hw6120_3)).trans hw6120_3), ((HB.out.cell (World.block_lt_of_cell? w _ hw6120_4)).trans hw6120_4), ((HB.out.cell (World.block_lt_of_cell? w _ hw6121_0)).trans hw6121_0), ((HB.out.cell (World.block_lt_of_cell? w _ hw6121_1)).trans hw6121_1), ((HB.out.cell (World.block_lt_of_cell? w _ hw6121_2)).trans hw6121_2), ((HB.out.cell (World.block_lt_of_cell? w _ hw6121_3)).trans hw6121_3), ((HB.out.cell (World.block_lt_of_cell? w _ hw6121_4)).trans hw6121_4)⟩ (fun hHeld => ?_)
        clear hK K
        refine norm_ (a' := ?_) ?_ ?_
        rotate_left
        ·show Act.put _ (some 25) _ = _
         simp only [Act.put, sA, sB, sC, i64_w, i32_w]
         rfl
        refine pure_ (i := 9) (N := some 26) (v := ?_) (a' := ?_) #[true, true, true, true, true, true, true, true, true, true] rfl rfl (any_of HT_.out (by kernel_rfl)) (fun _ _ _ h => h) (Or.inl ⟨by rfl, ?_⟩) ?_ ?_
        rotate_left
        ·intro w'
         go_simp
         with_reducible rfl
        rotate_left
        ·simp only [Act.put, sA, sB, sC, i64_w, i32_w]
         rfl
        refine done_ (done_of HT_.out (by kernel_rfl)) ?_
        try go_wp2
        go_roundg k1
        case measure => have := HK1.out; omega
        case rel => exact ⟨(wrap64 (x5_1 + 1)), (by first | rfl | (simp; done) | (simp [*]; done)), H', ⟨by have := HK1.out; omega⟩, ⟨by repeat (first | (with_reducible first | exact HB.out | apply zB | apply zC | apply zE) | exact HB.out)⟩⟩
       ·replace c8 := Bool.eq_false_iff.mpr c8
        subst c8
        have H1 : (some false) = some r := by rw [if_neg (show ¬ (false = true) by decide)] at H; exact H
        clear H
        have H := H1
        clear H1
        obtain rfl := Option.some.inj H
        try go_wp2
        have n0_ := Aq (zE HB.out)
        clear HB
        have HB := n0_
        clear n0_
        have p6120 : 0 ≤ (x5_1 : Int) := of_decide_eq_true (by first | (with_reducible assumption) | assumption)
        have q6120 : x5_1 < (l0.length : Int) := of_decide_eq_true (by first | (with_reducible assumption) | assumption)
        obtain ⟨ad6120, A6120_2, c6120_2, A6120_4, c6120_4, e6120, hx6120_0, hx6120_1, hx6120_2, hx6120_3, hx6120_4, hl6120_2, hi6120_2, hl6120_4, hi6120_4⟩ := at_T35 HR0.out x5_1 p6120 q6120
        have hw6120_4 := hx6120_4
        have hw6120_3 := hx6120_3
        have hw6120_2 := hx6120_2
        have hw6120_1 := hx6120_1
        have hw6120_0 := hx6120_0
        cases e6120
        replace hx6120_0 := (HB.out.cell (World.block_lt_of_cell? w _ hx6120_0)).trans hx6120_0
        replace hx6120_1 := (HB.out.cell (World.block_lt_of_cell? w _ hx6120_1)).trans hx6120_1
        replace hx6120_2 := (HB.out.cell (World.block_lt_of_cell? w _ hx6120_2)).trans hx6120_2
        replace hx6120_3 := (HB.out.cell (World.block_lt_of_cell? w _ hx6120_3)).trans hx6120_3
        replace hx6120_4 := (HB.out.cell (World.block_lt_of_cell? w _ hx6120_4)).trans hx6120_4
        have HR6120_2 := Aq hi6120_2
        have HC6120_2 := Aq hl6120_2
        clear hi6120_2 hl6120_2
        have HR6120_4 := Aq hi6120_4
        have HC6120_4 := Aq hl6120_4
        clear hi6120_4 hl6120_4
        replace p6120 := eq_true p6120
        replace q6120 := eq_true q6120
        have p6121 : 0 ≤ (x5_1 : Int) := of_decide_eq_true (by first | (with_reducible assumption) | assumption)
        have q6121 : x5_1 < (l1.length : Int) := of_decide_eq_true (by first | (with_reducible assumption) | assumption)
        obtain ⟨ad6121, A6121_2, c6121_2, A6121_4, c6121_4, e6121, hx6121_0, hx6121_1, hx6121_2, hx6121_3, hx6121_4, hl6121_2, hi6121_2, hl6121_4, hi6121_4⟩ := at_T35 HR1.out x5_1 p6121 q6121
        have hw6121_4 := hx6121_4
        have hw6121_3 := hx6121_3
        have hw6121_2 := hx6121_2
        have hw6121_1 := hx6121_1
        have hw6121_0 := hx6121_0
        cases e6121
        replace hx6121_0 := (HB.out.cell (World.block_lt_of_cell? w _ hx6121_0)).trans hx6121_0
        replace hx6121_1 := (HB.out.cell (World.block_lt_of_cell? w _ hx6121_1)).trans hx6121_1
        replace hx6121_2 := (HB.out.cell (World.block_lt_of_cell? w _ hx6121_2)).trans hx6121_2
        replace hx6121_3 := (HB.out.cell (World.block_lt_of_cell? w _ hx6121_3)).trans hx6121_3
        replace hx6121_4 := (HB.out.cell (World.block_lt_of_cell? w _ hx6121_4)).trans hx6121_4
        have HR6121_2 := Aq hi6121_2
        have HC6121_2 := Aq hl6121_2
        clear hi6121_2 hl6121_2
        have HR6121_4 := Aq hi6121_4
        have HC6121_4 := Aq hl6121_4
        clear hi6121_4 hl6121_4
        replace p6121 := eq_true p6121
        replace q6121 := eq_true q6121
        refine start_ (n := 10) (S := fun w' => w'.cell? (ad6120.add ((x5_1).toNat * 5)) = some (.int .i64 ((rd_T35 l0 x5_1).f0)) ∧ w'.cell? ⟨(ad6120.add ((x5_1).toNat * 5)).block, (ad6120.add ((x5_1).toNat * 5)).off + 1, none⟩ = some (.string ((rd_T35 l0 x5_1).f1)) ∧ w'.cell? ⟨(ad6120.add ((x5_1).toNat * 5)).block, (ad6120.add ((x5_1).toNat * 5)).off + 2, none⟩ = some (.slice A6120_2 ((rd_T35 l0 x5_1).f2).length c6120_2) ∧ w'.cell? ⟨(ad6120.add ((x5_1).toNat * 5)).block, (ad6120.add ((x5_1).toNat * 5)).off + 3, none⟩ = some (.int .i64 ((rd_T35 l0 x5_1).f3)) ∧ w'.cell? ⟨(ad6120.add ((x5_1).toNat * 5)).block, (ad6120.add ((x5_1).toNat * 5)).off + 4, none⟩ = some (.slice A6120_4 ((rd_T35 l0 x5_1).f4).length c6120_4) ∧ w'.cell? (ad6121.add ((x5_1).toNat * 5)) = some (.int .i64 ((rd_T35 l1 x5_1).f0)) ∧ w'.cell? ⟨(ad6121.add ((x5_1).toNat * 5)).block, (ad6121.add ((x5_1).toNat * 5)).off + 1, none⟩ = some (.string ((rd_T35 l1 x5_1).f1)) ∧ w'.cell? ⟨(ad6121.add ((x5_1).toNat * 5)).block, (ad6121.add ((x5_1).toNat * 5)).off + 2, none⟩ = some (.slice A6121_2 ((rd_T35 l1 x5_1).f2).length c6121_2) ∧ w'.cell? ⟨(ad6121.add ((x5_1).toNat * 5)).block, (ad6121.add ((x5_1).toNat * 5)).off + 3, none⟩ = some (.int .i64 ((rd_T35 l1 x5_1).f3)) ∧ w'.cell? ⟨(ad6121.add ((x5_1).toNat * 5)).block, (ad6121.add ((x5_1).toNat * 5)).off + 4, none⟩ = some (.slice A6121_4 ((rd_T35 l1 x5_1).f4).length c6121_4)) (ds := []) #[false, false, false, false, false, false, false, false, false, false] (by kernel_rfl) rfl rfl ⟨((HB.out.cell (World.block_lt_of_cell? w _ hw6120_0)).trans hw6120_0), ((HB.out.cell (World.block_lt_of_cell? w _ hw6120_1)).trans hw6120_1), ((HB.out.cell (World.block_lt_of_cell? w _ hw6120_2)).trans hw6120_2), ((HB.out.cell (World.block_lt_of_cell? w _ hw6120_3)).trans hw6120_3), ((HB.out.cell (World.block_lt_of_cell? w _ hw6120_4)).trans hw6120_4), ((HB.out.cell (World.block_lt_of_cell? w _ hw6121_0)).trans hw6121_0), ((HB.out.cell (World.block_lt_of_cell? w _ hw6121_1)).trans hw6121_1), ((HB.out.cell (World.block_lt_of_cell? w _ hw6121_2)).trans hw6121_2), ((HB.out.cell (World.block_lt_of_cell? w _ hw6121_3)).trans hw6121_3), ((HB.out.cell (World.block_lt_of_cell? w _ hw6121_4)).trans hw6121_4)⟩ (fun hHeld => ?_); refine with_tabW laws_eqExpFormS.tab6 laws_eqExpFormS.bits6 (fun HT_ HW_ => ?_)
        generalize wr.drew = w11 at HB HR6120_2 HR6120_4 HR6121_2 HR6121_4 hx6120_0 hx6120_1 hx6120_2 hx6120_3 hx6120_4 hx6121_0 hx6121_1 hx6121_2 hx6121_3 hx6121_4 hHeld ⊢
        refine pure_ (i := 0) (N := some 17) (v := ?_) (a' := ?_) #[true, false, false, false, false, false, false, false, false, false] rfl rfl (any_of HT_.out (by kernel_rfl)) (fun _ _ _ h => h) (Or.inl ⟨by rfl, ?_⟩) ?_ ?_
        rotate_left
        ·intro w'
         go_simp
         with_reducible rfl
        rotate_left
        ·simp only [Act.put, sA, sB, sC, i64_w, i32_w]
         rfl
        refine pure_ (i := 1) (N := some 18) (v := ?_) (a' := ?_) #[true, true, false, false, false, false, false, false, false, false] rfl rfl (any_of HT_.out (by kernel_rfl)) (fun _ _ _ h => h) (Or.inl ⟨by rfl, ?_⟩) ?_ ?_
        rotate_left
        ·intro w'
         go_simp
         with_reducible rfl
        rotate_left
        ·simp only [Act.put, sA, sB, sC, i64_w, i32_w]
         rfl
        refine pure_ (i := 2) (N := some 19) (v := ?_) (a' := ?_) #[true, true, true, false, false, false, false, false, false, false] rfl rfl (any_of HT_.out (by kernel_rfl)) (fun _ _ _ h => h) (Or.inl ⟨by rfl, ?_⟩) ?_ ?_
        rotate_left
        ·intro w'
         go_simp
         with_reducible rfl
        rotate_left
        ·simp only [Act.put, sA, sB, sC, i64_w, i32_w]
         rfl
        refine pure_ (i := 4) (N := some 21) (v := ?_) (a' := ?_) #[true, true, true, false, true, false, false, false, false, false] rfl rfl (any_of HT_.out (by kernel_rfl)) (fun _ _ _ h => h) (Or.inl ⟨by rfl, ?_⟩) ?_ ?_
        rotate_left
        ·intro w'
         go_simp
         with_reducible rfl
        rotate_left
        ·simp only [Act.put, sA, sB, sC, i64_w, i32_w]
         rfl
        refine pure_ (i := 5) (N := some 22) (v := ?_) (a' := ?_) #[true, true, true, false, true, true, false, false, false, false] rfl rfl (any_of HT_.out (by kernel_rfl)) (fun _ _ _ h => h) (Or.inl ⟨by rfl, ?_⟩) ?_ ?_
        rotate_left
        ·intro w'
         go_simp
         with_reducible rfl
        rotate_left
        ·simp only [Act.put, sA, sB, sC, i64_w, i32_w]
         rfl
        refine pure_ (i := 6) (N := some 23) (v := ?_) (a' := ?_) #[true, true, true, false, true, true, true, false, false, false] rfl rfl (any_of HT_.out (by kernel_rfl)) (fun _ _ _ h => h) (Or.inl ⟨by rfl, ?_⟩) ?_ ?_
        rotate_left
        ·intro w'
         go_simp
         with_reducible rfl
        rotate_left
        ·simp only [Act.put, sA, sB, sC, i64_w, i32_w]
         rfl
        refine take_ (i := 3) (N := some 20) (v := ?_) (a' := ?_) #[true, true, true, true, true, true, true, false, false, false] rfl rfl (take_ofW HT_.out HW_.out (by kernel_rfl)) (fun _ _ _ h => h) (Or.inl ⟨by rfl, ?_⟩) hHeld ?_ ?_
        rotate_left
        ·rintro w' ⟨s0, s1, s2, s3, s4, s5, s6, s7, s8, s9⟩
         go_simp
         with_reducible rfl
        rotate_left
        ·simp only [Act.put, sA, sB, sC, i64_w, i32_w]
         rfl
        refine take_ (i := 7) (N := some 24) (v := ?_) (a' := ?_) #[true, true, true, true, true, true, true, true, false, false] rfl rfl (take_ofW HT_.out HW_.out (by kernel_rfl)) (fun _ _ _ h => h) (Or.inl ⟨by rfl, ?_⟩) hHeld ?_ ?_
        rotate_left
        ·rintro w' ⟨s0, s1, s2, s3, s4, s5, s6, s7, s8, s9⟩
         go_simp
         with_reducible rfl
        rotate_left
        ·simp only [Act.put, sA, sB, sC, i64_w, i32_w]
         rfl
        refine one_ (i := 8) (N := some 25) #[true, true, true, true, true, true, true, true, true, false] rfl rfl (one_of HT_.out (by kernel_rfl)) (by decide) (fun K hK => ?_)
        refine goes_ Tryd.func15 (by kernel_rfl) rfl #[.agg #[.int .i64 ((rd_T35 l0 x5_1).f0), .string ((rd_T35 l0 x5_1).f1), .slice A6120_2 ((rd_T35 l0 x5_1).f2).length c6120_2, .int .i64 ((rd_T35 l0 x5_1).f3), .slice A6120_4 ((rd_T35 l0 x5_1).f4).length c6120_4], .agg #[.int .i64 ((rd_T35 l1 x5_1).f0), .string ((rd_T35 l1 x5_1).f1), .slice A6121_2 ((rd_T35 l1 x5_1).f2).length c6121_2, .int .i64 ((rd_T35 l1 x5_1).f3), .slice A6121_4 ((rd_T35 l1 x5_1).f4).length c6121_4]] (by rfl) rfl rfl (by (try simp only [List.map_toArray, List.map_cons, List.map_nil]); first | done | rfl | (simp only [List.length_drop, List.length_take]; rfl)) ?_
        with_reducible refine (ih15 k1 (by have := HK1.out; omega) ((rd_T35 l0 x5_1).f0) ((rd_T35 l0 x5_1).f1) _ _ ((rd_T35 l0 x5_1).f2) ((rd_T35 l0 x5_1).f3) _ _ ((rd_T35 l0 x5_1).f4) ((rd_T35 l1 x5_1).f0) ((rd_T35 l1 x5_1).f1) _ _ ((rd_T35 l1 x5_1).f2) ((rd_T35 l1 x5_1).f3) _ _ ((rd_T35 l1 x5_1).f4) false _ ?side1 ?side2 ?side3 ?side4 ?side5 ?side6 ?side7 ?side8 A7.out).mono ?_
        (case side1 => repeat (first | exact (Kd.C_below HR6120_2.out HB.out) | (with_reducible refine Kd.C_alloc ?_ _) | (with_reducible refine Kd.C_drewN ?_ _) | (with_reducible refine Kd.C_drew ?_)))
        (case side2 => exact HC6120_2.out)
        (case side3 => repeat (first | exact (Kd.C_below HR6120_4.out HB.out) | (with_reducible refine Kd.C_alloc ?_ _) | (with_reducible refine Kd.C_drewN ?_ _) | (with_reducible refine Kd.C_drew ?_)))
        (case side4 => exact HC6120_4.out)
        (case side5 => repeat (first | exact (Kd.C_below HR6121_2.out HB.out) | (with_reducible refine Kd.C_alloc ?_ _) | (with_reducible refine Kd.C_drewN ?_ _) | (with_reducible refine Kd.C_drew ?_)))
        (case side6 => exact HC6121_2.out)
        (case side7 => repeat (first | exact (Kd.C_below HR6121_4.out HB.out) | (with_reducible refine Kd.C_alloc ?_ _) | (with_reducible refine Kd.C_drewN ?_ _) | (with_reducible refine Kd.C_drew ?_)))
        (case side8 => exact HC6121_4.out)
        rintro e w12 ⟨rfl, hb⟩
        try have HR6120_2 := Aq (Kd.C_below HR6120_2.out hb)
        try have HR6120_4 := Aq (Kd.C_below HR6120_4.out hb)
        try have HR6121_2 := Aq (Kd.C_below HR6121_2.out hb)
        try have HR6121_4 := Aq (Kd.C_below HR6121_4.out hb)
        refine ⟨_, rfl, ?_⟩
        have n0_ := Aq (below_step (by repeat (first | (with_reducible first | exact HB.out | apply zB | apply zC | apply zE) | exact HB.out)) hb)
        clear HB
        have HB := n0_
        clear n0_
        (try clear hb)
        (try clear hb2)
        (try clear hk)
        (try clear hi)
        refine hK.out _ _ ⟨((HB.out.cell (World.block_lt_of_cell? w _ hw6120_0)).trans hw6120_0), ((HB.out.cell (World.block_lt_of_cell? w _ hw6120_1)).trans hw6120_1), ((HB.out.cell (World.block_lt_of_cell? w _ hw6120_2)).trans hw6120_2), ((HB.out.cell (World.block_lt_of_cell? w _ hw6120_3)).trans hw6120_3), ((HB.out.cell (World.block_lt_of_cell? w _ hw6120_4)).trans hw6120_4), ((HB.out.cell (World.block_lt_of_cell? w _ hw6121_0)).trans hw6121_0), ((HB.out.cell (World.block_lt_of_cell? w _ hw6121_1)).trans hw6121_1), ((HB.out.cell (World.block_lt_of_cell? w _ hw6121_2)).trans hw6121_2), ((HB.out.cell (World.block_lt_of_cell? w _ hw6121_3)).trans hw6121_3), ((HB.out.cell (World.block_lt_of_cell? w _ hw6121_4)).trans hw6121_4)⟩ (fun hHeld => ?_)
        clear hK K
        refine norm_ (a' := ?_) ?_ ?_
        rotate_left
        ·show Act.put _ (some 25) _ = _
         simp only [Act.put, sA, sB, sC, i64_w, i32_w]
         rfl
        refine pure_ (i := 9) (N := some 26) (v := ?_) (a' := ?_) #[true, true, true, true, true, true, true, true, true, true] rfl rfl (any_of HT_.out (by kernel_rfl)) (fun _ _ _ h => h) (Or.inl ⟨by rfl, ?_⟩) ?_ ?_
        rotate_left
        ·intro w'
         go_simp
         with_reducible rfl
        rotate_left
        ·simp only [Act.put, sA, sB, sC, i64_w, i32_w]
         rfl
        refine done_ (done_of HT_.out (by kernel_rfl)) ?_
        try go_wp2
        go_ret
        exact ⟨by first | rfl | (simp [errW_none, errW_some] <;> rfl) | (simp [*, errW_none, errW_some] <;> rfl), by repeat (first | (with_reducible first | exact HB.out | apply zB | apply zC | apply zE) | exact HB.out)⟩
      ·rw [if_neg c6] at H
       exact absurd H (by simp)
     ·rw [if_neg c5] at H
      exact absurd H (by simp)
    ·rw [if_neg c4] at H
     have c4b0 : decide (x5_1 < (l0.length : Int)) = false := decide_eq_false c4
     clear c4
     obtain rfl := Option.some.inj H
     go_wp2
     go_ret
     exact ⟨by first | rfl | (simp [errW_none, errW_some] <;> rfl) | (simp [*, errW_none, errW_some] <;> rfl), by repeat (first | (with_reducible first | exact HB.out | apply zB | apply zC | apply zE) | exact HB.out)⟩
 ·rw [if_neg c3] at H
  have c3b0 : ((l0.length : Int) == (l1.length : Int)) = false := beq_eq_false_iff_ne.mpr c3
  have c3b1 : ((l0.length : Int) != (l1.length : Int)) = true := bne_iff_ne.mpr c3
  have c3b2 : (l0.length == l1.length) = false := by first | simpa using c3 | (simp at c3 ⊢; omega)
  obtain rfl := Option.some.inj H
  go_enter Tryd.func26, Tryd.ntmps26
  go_wp2
  go_ret
  exact ⟨by first | rfl | (simp [errW_none, errW_some] <;> rfl) | (simp [*, errW_none, errW_some] <;> rfl), by repeat (first | (with_reducible first | exact HB.out | apply zB | apply zC | apply zE) | exact HB.out)⟩
set_option maxHeartbeats 8000000 in
set_option maxRecDepth 100000 in
theorem laws_eqExpForm.step (k : Nat) (ih26 : ∀ m, m < k → laws_eqExpFormS.Spec m) (ih15 : ∀ m, m < k → laws_eqExpForm.Spec m) : ∀ (a0_0 : Int) (a0_1 : ByteArray) (A0_2 : Option Addr) (c0_2 : Nat) (l0_2 : List Int) (a0_3 : Int) (A0_4 : Option Addr) (c0_4 : Nat) (l0_4 : List (S35)) (a1_0 : Int) (a1_1 : ByteArray) (A1_2 : Option Addr) (c1_2 : Nat) (l1_2 : List Int) (a1_3 : Int) (A1_4 : Option Addr) (c1_4 : Nat) (l1_4 : List (S35)) (r : Bool) (w : World) (hr0_2 : Kd.C (Kd.int .i64) w A0_2 l0_2.length l0_2) (hc0_2 : l0_2.length ≤ c0_2) (hr0_4 : Kd.C k35 w A0_4 l0_4.length l0_4) (hc0_4 : l0_4.length ≤ c0_4) (hr1_2 : Kd.C (Kd.int .i64) w A1_2 l1_2.length l1_2) (hc1_2 : l1_2.length ≤ c1_2) (hr1_4 : Kd.C k35 w A1_4 l1_4.length l1_4) (hc1_4 : l1_4.length ≤ c1_4) (h : laws_eqExpForm.f k a0_0 a0_1 l0_2 a0_3 l0_4 a1_0 a1_1 l1_2 a1_3 l1_4 = some r),
  Calls Tryd.prog 15 #[.agg #[.int .i64 a0_0, .string a0_1, .slice A0_2 l0_2.length c0_2, .int .i64 a0_3, .slice A0_4 l0_4.length c0_4], .agg #[.int .i64 a1_0, .string a1_1, .slice A1_2 l1_2.length c1_2, .int .i64 a1_3, .slice A1_4 l1_4.length c1_4]] w fun e w' => e = .returned (.bool r) ∧ Below w.heap.size w w' := by
 intro a0_0 a0_1 A0_2 c0_2 l0_2 a0_3 A0_4 c0_4 l0_4 a1_0 a1_1 A1_2 c1_2 l1_2 a1_3 A1_4 c1_4 l1_4 r w hr0_2 hc0_2 hr0_4 hc0_4 hr1_2 hc1_2 hr1_4 hc1_4 h
 cases k with
 | zero => exact absurd h (by simp [laws_eqExpForm.f])
 | succ k =>
 simp only [laws_eqExpForm.f] at h
 have hu35 := Tryd.underlying35
 have HR0_2 := Aq hr0_2
 have HC0_2 := Aq hc0_2
 clear hr0_2 hc0_2
 have HR0_4 := Aq hr0_4
 have HC0_4 := Aq hc0_4
 clear hr0_4 hc0_4
 have HR1_2 := Aq hr1_2
 have HC1_2 := Aq hc1_2
 clear hr1_2 hc1_2
 have HR1_4 := Aq hr1_4
 have HC1_4 := Aq hc1_4
 clear hr1_4 hc1_4
 have HB := Aq (Below.refl w.heap.size w)
 have H : (if a0_0 = a1_0 then (if a0_1.toList = a1_1.toList then ((laws_eqIntS.f k l0_2 l1_2).bind fun t9122 => (if t9122 = true then (if a0_3 = a1_3 then ((laws_eqExpFormS.f k l0_4 l1_4).bind fun t9123 => (if t9123 = true then (some true) else (some false))) else (some false)) else (some false))) else (some false)) else (some false)) = some r := h
 clear h
 by_cases c3 : a0_0 = a1_0
 ·rw [if_pos c3] at H
  have c3b0 : (a0_0 == a1_0) = true := beq_iff_eq.mpr c3
  have c3b1 : (a0_0 != a1_0) = false := bne_eq_false_iff_eq.mpr c3
  clear c3
  by_cases c4 : a0_1.toList = a1_1.toList
  ·rw [if_pos c4] at H
   have c4b0 : (a0_1.toList == a1_1.toList) = true := beq_iff_eq.mpr c4
   have c4b1 : (a0_1.toList != a1_1.toList) = false := bne_eq_false_iff_eq.mpr c4
   clear c4
   replace H := Option.bind_eq_some_iff.mp H
   obtain ⟨t9122, A50, H⟩ := H
   replace H : (if t9122 = true then (if a0_3 = a1_3 then ((laws_eqExpFormS.f k l0_4 l1_4).bind fun t9123 => (if t9123 = true then (some true) else (some false))) else (some false)) else (some false)) = some r := H
   have A5 := Aq A50
   clear A50
   by_cases c6 : t9122 = true
   ·subst c6
    have H1 : (if a0_3 = a1_3 then ((laws_eqExpFormS.f k l0_4 l1_4).bind fun t9123 => (if t9123 = true then (some true) else (some false))) else (some false)) = some r := by rw [if_pos rfl] at H; exact H
    clear H
    have H := H1
    clear H1
    by_cases c7 : a0_3 = a1_3
    ·rw [if_pos c7] at H
     have c7b0 : (a0_3 == a1_3) = true := beq_iff_eq.mpr c7
     have c7b1 : (a0_3 != a1_3) = false := bne_eq_false_iff_eq.mpr c7
     clear c7
     replace H := Option.bind_eq_some_iff.mp H
     obtain ⟨t9123, A80, H⟩ := H
     replace H : (if t9123 = true then (some true) else (some false)) = some r := H
     have A8 := Aq A80
     clear A80
     by_cases c9 : t9123 = true
     ·subst c9
      have H1 : (some true) = some r := by rw [if_pos rfl] at H; exact H
      clear H
      have H := H1
      clear H1
      obtain rfl := Option.some.inj H
      go_enter Tryd.func15, Tryd.ntmps15
      go_wp2_with (first | ((with_reducible refine gate_dst (N := 2) rfl ?_); refine box_event ?hg (N := 2) ?hd (cs := #[.int .i64 a0_0, .string a0_1, .slice A0_2 l0_2.length c0_2, .int .i64 a0_3, .slice A0_4 l0_4.length c0_4]) (t := 35) ?hr ?_; (case hd => rfl); (case hg => rfl); (case hr => first | (go_simp; done) | (go_simp; rfl)); intro gb9120 hg w10 hbox hb; have n0_ := Aq (below_step (by repeat (first | (with_reducible first | exact HB.out | apply zB | apply zC | apply zE) | exact HB.out)) hb); have n1_ := Aq (hbox); have n2_ := Aq ((by rw [hg]; exact (below_size (by repeat (first | (with_reducible first | exact HB.out | apply zB | apply zC | apply zE) | exact HB.out))) : w.heap.size ≤ gb9120)); have n3_ := Aq ((by rw [hg]; exact (below_size (by repeat (first | (with_reducible first | exact HB.out | apply zB | apply zC | apply zE) | exact HB.out))) : w.heap.size ≤ gb9120)); clear HB; have HB := n0_; have BK9120 := n1_; have GW9120 := n2_; have GE9120 := n3_; clear n0_ n1_ n2_ n3_ hb hbox hg) | ((with_reducible refine gate_dst (N := 3) rfl ?_); refine box_event ?hg (N := 3) ?hd (cs := #[.int .i64 a1_0, .string a1_1, .slice A1_2 l1_2.length c1_2, .int .i64 a1_3, .slice A1_4 l1_4.length c1_4]) (t := 35) ?hr ?_; (case hd => rfl); (case hg => rfl); (case hr => first | (go_simp; done) | (go_simp; rfl)); intro gb9121 hg w11 hbox hb; have n0_ := Aq (blk_below (g := gb9120) (o := .cells #[.int .i64 a0_0, .string a0_1, .slice A0_2 l0_2.length c0_2, .int .i64 a0_3, .slice A0_4 l0_4.length c0_4] 35 (0, 0)) (by (with_reducible repeat (first | refine zN ?_ _ | refine zD ?_ | refine zA ?_ _)); exact BK9120.out) hb); have n1_ := Aq (below_step (by repeat (first | (with_reducible first | exact HB.out | apply zB | apply zC | apply zE | refine below_set ?_ GE9120.out) | exact HB.out)) hb); have n2_ := Aq (hbox); have n3_ := Aq ((by rw [hg]; exact (below_size (by repeat (first | (with_reducible first | exact HB.out | apply zB | apply zC | apply zE | refine below_set ?_ GE9120.out) | exact HB.out))) : w.heap.size ≤ gb9121)); have n4_ := Aq ((by rw [hg]; exact (below_size (by repeat (first | (with_reducible first | exact HB.out | apply zB | apply zC | apply zE | refine below_set ?_ GE9120.out) | exact HB.out))) : w.heap.size ≤ gb9121)); have n5_ := Aq ((by rw [hg]; exact Nat.ne_of_lt (blk_lt (g := gb9120) (o := .cells #[.int .i64 a0_0, .string a0_1, .slice A0_2 l0_2.length c0_2, .int .i64 a0_3, .slice A0_4 l0_4.length c0_4] 35 (0, 0)) (by (with_reducible repeat (first | refine zN ?_ _ | refine zD ?_ | refine zA ?_ _)); exact BK9120.out)) : gb9120 ≠ gb9121)); have n6_ := Aq ((by rw [hg]; exact Nat.ne_of_gt (blk_lt (g := gb9120) (o := .cells #[.int .i64 a0_0, .string a0_1, .slice A0_2 l0_2.length c0_2, .int .i64 a0_3, .slice A0_4 l0_4.length c0_4] 35 (0, 0)) (by (with_reducible repeat (first | refine zN ?_ _ | refine zD ?_ | refine zA ?_ _)); exact BK9120.out)) : gb9121 ≠ gb9120)); clear BK9120 HB; have BK9120 := n0_; have HB := n1_; have BK9121 := n2_; have GW9121 := n3_; have GE9121 := n4_; have NB9120_9121 := n5_; have NB9121_9120 := n6_; clear n0_ n1_ n2_ n3_ n4_ n5_ n6_ hb hbox hg; have hnb12 := NB9120_9121.out; have hnc12 := NB9121_9120.out; have hcz13_0 : w11.cell? ⟨gb9120, 0, none⟩ = some (.int .i64 a0_0) := (blk_cell BK9120.out 0).trans rfl; have hcz13_1 : w11.cell? ⟨gb9120, 1, none⟩ = some (.string a0_1) := (blk_cell BK9120.out 1).trans rfl; have hcz13_2 : w11.cell? ⟨gb9120, 2, none⟩ = some (.slice A0_2 l0_2.length c0_2) := (blk_cell BK9120.out 2).trans rfl; have hcz13_3 : w11.cell? ⟨gb9120, 3, none⟩ = some (.int .i64 a0_3) := (blk_cell BK9120.out 3).trans rfl; have hcz13_4 : w11.cell? ⟨gb9120, 4, none⟩ = some (.slice A0_4 l0_4.length c0_4) := (blk_cell BK9120.out 4).trans rfl; have hfz13_0 := blk_frozen BK9120.out 0; have hfz13_1 := blk_frozen BK9120.out 1; have hfz13_2 := blk_frozen BK9120.out 2; have hfz13_3 := blk_frozen BK9120.out 3; have hfz13_4 := blk_frozen BK9120.out 4; have hcz14_0 : w11.cell? ⟨gb9121, 0, none⟩ = some (.int .i64 a1_0) := (blk_cell BK9121.out 0).trans rfl; have hcz14_1 : w11.cell? ⟨gb9121, 1, none⟩ = some (.string a1_1) := (blk_cell BK9121.out 1).trans rfl; have hcz14_2 : w11.cell? ⟨gb9121, 2, none⟩ = some (.slice A1_2 l1_2.length c1_2) := (blk_cell BK9121.out 2).trans rfl; have hcz14_3 : w11.cell? ⟨gb9121, 3, none⟩ = some (.int .i64 a1_3) := (blk_cell BK9121.out 3).trans rfl; have hcz14_4 : w11.cell? ⟨gb9121, 4, none⟩ = some (.slice A1_4 l1_4.length c1_4) := (blk_cell BK9121.out 4).trans rfl; have hfz14_0 := blk_frozen BK9121.out 0; have hfz14_1 := blk_frozen BK9121.out 1; have hfz14_2 := blk_frozen BK9121.out 2; have hfz14_3 := blk_frozen BK9121.out 3; have hfz14_4 := blk_frozen BK9121.out 4) | ((with_reducible refine gate_callee (f := 35) rfl ?_); refine goesL_ (some 19) rfl rfl Tryd.func35 (by kernel_rfl) rfl #[.slice A0_2 l0_2.length c0_2, .slice A1_2 l1_2.length c1_2] rfl (by (try simp only [List.map_toArray, List.map_cons, List.map_nil]); first | done | rfl | (simp only [List.length_drop, List.length_take]; rfl)) ?_; (with_reducible refine (laws_eqIntS.calls k _ _ l0_2 _ _ l1_2 true _ ?side1 ?side2 ?side3 ?side4 A5.out).mono ?_); (case side1 => repeat (first | exact (Kd.C_below HR0_2.out HB.out) | (with_reducible refine Kd.C_alloc ?_ _) | (with_reducible refine Kd.C_drewN ?_ _) | (with_reducible refine Kd.C_drew ?_))); (case side2 => exact HC0_2.out); (case side3 => repeat (first | exact (Kd.C_below HR1_2.out HB.out) | (with_reducible refine Kd.C_alloc ?_ _) | (with_reducible refine Kd.C_drewN ?_ _) | (with_reducible refine Kd.C_drew ?_))); (case side4 => exact HC1_2.out); rintro e w' ⟨rfl, ⟨nd, rfl⟩⟩; refine ⟨_, rfl, ?_⟩) | ((with_reducible refine gate_callee (f := 26) rfl ?_); refine goesL_ (some 30) rfl rfl Tryd.func26 (by kernel_rfl) rfl #[.slice A0_4 l0_4.length c0_4, .slice A1_4 l1_4.length c1_4] rfl (by (try simp only [List.map_toArray, List.map_cons, List.map_nil]); first | done | rfl | (simp only [List.length_drop, List.length_take]; rfl)) ?_; (with_reducible refine (ih26 k (by omega) _ _ l0_4 _ _ l1_4 true _ ?side1 ?side2 ?side3 ?side4 A8.out).mono ?_); (case side1 => repeat (first | exact (Kd.C_below HR0_4.out (by repeat (first | (with_reducible first | exact HB.out | apply zB | apply zC | apply zE | refine below_set ?_ GE9120.out | refine below_set ?_ GE9121.out) | exact HB.out))) | (with_reducible refine Kd.C_alloc ?_ _) | (with_reducible refine Kd.C_drewN ?_ _) | (with_reducible refine Kd.C_drew ?_))); (case side2 => exact HC0_4.out); (case side3 => repeat (first | exact (Kd.C_below HR1_4.out (by repeat (first | (with_reducible first | exact HB.out | apply zB | apply zC | apply zE | refine below_set ?_ GE9120.out | refine below_set ?_ GE9121.out) | exact HB.out))) | (with_reducible refine Kd.C_alloc ?_ _) | (with_reducible refine Kd.C_drewN ?_ _) | (with_reducible refine Kd.C_drew ?_))); (case side4 => exact HC1_4.out); rintro e w15 ⟨rfl, hb⟩; refine ⟨_, rfl, ?_⟩; have n0_ := Aq (blk_below (g := gb9120) (o := .cells #[.int .i64 a0_0, .string a0_1, .slice A0_2 l0_2.length c0_2, .int .i64 a0_3, .slice A0_4 l0_4.length c0_4] 35 (0, 0)) (by (with_reducible repeat (first | refine zN ?_ _ | refine zD ?_ | refine zA ?_ _)); exact BK9120.out) hb); have n1_ := Aq (blk_below (g := gb9121) (o := .cells #[.int .i64 a1_0, .string a1_1, .slice A1_2 l1_2.length c1_2, .int .i64 a1_3, .slice A1_4 l1_4.length c1_4] 35 (0, 0)) (by (with_reducible repeat (first | refine zN ?_ _ | refine zD ?_ | refine zA ?_ _)); exact BK9121.out) hb); have n2_ := Aq (below_step (by repeat (first | (with_reducible first | exact HB.out | apply zB | apply zC | apply zE | refine below_set ?_ GE9120.out | refine below_set ?_ GE9121.out) | exact HB.out)) hb); clear BK9120 BK9121 HB; have BK9120 := n0_; have BK9121 := n1_; have HB := n2_; clear n0_ n1_ n2_; (try clear hb); (try clear hb2); (try clear hk); (try clear hi)))
      go_ret
      exact ⟨by first | rfl | (simp [errW_none, errW_some] <;> rfl) | (simp [*, errW_none, errW_some] <;> rfl), by repeat (first | (with_reducible first | exact HB.out | apply zB | apply zC | apply zE | refine below_set ?_ GE9120.out | refine below_set ?_ GE9121.out) | exact HB.out)⟩
     ·replace c9 := Bool.eq_false_iff.mpr c9
      subst c9
      have H1 : (some false) = some r := by rw [if_neg (show ¬ (false = true) by decide)] at H; exact H
      clear H
      have H := H1
      clear H1
      obtain rfl := Option.some.inj H
      go_enter Tryd.func15, Tryd.ntmps15
      go_wp2_with (first | ((with_reducible refine gate_dst (N := 2) rfl ?_); refine box_event ?hg (N := 2) ?hd (cs := #[.int .i64 a0_0, .string a0_1, .slice A0_2 l0_2.length c0_2, .int .i64 a0_3, .slice A0_4 l0_4.length c0_4]) (t := 35) ?hr ?_; (case hd => rfl); (case hg => rfl); (case hr => first | (go_simp; done) | (go_simp; rfl)); intro gb9120 hg w16 hbox hb; have n0_ := Aq (below_step (by repeat (first | (with_reducible first | exact HB.out | apply zB | apply zC | apply zE) | exact HB.out)) hb); have n1_ := Aq (hbox); have n2_ := Aq ((by rw [hg]; exact (below_size (by repeat (first | (with_reducible first | exact HB.out | apply zB | apply zC | apply zE) | exact HB.out))) : w.heap.size ≤ gb9120)); have n3_ := Aq ((by rw [hg]; exact (below_size (by repeat (first | (with_reducible first | exact HB.out | apply zB | apply zC | apply zE) | exact HB.out))) : w.heap.size ≤ gb9120)); clear HB; have HB := n0_; have BK9120 := n1_; have GW9120 := n2_; have GE9120 := n3_; clear n0_ n1_ n2_ n3_ hb hbox hg) | ((with_reducible refine gate_dst (N := 3) rfl ?_); refine box_event ?hg (N := 3) ?hd (cs := #[.int .i64 a1_0, .string a1_1, .slice A1_2 l1_2.length c1_2, .int .i64 a1_3, .slice A1_4 l1_4.length c1_4]) (t := 35) ?hr ?_; (case hd => rfl); (case hg => rfl); (case hr => first | (go_simp; done) | (go_simp; rfl)); intro gb9121 hg w17 hbox hb; have n0_ := Aq (blk_below (g := gb9120) (o := .cells #[.int .i64 a0_0, .string a0_1, .slice A0_2 l0_2.length c0_2, .int .i64 a0_3, .slice A0_4 l0_4.length c0_4] 35 (0, 0)) (by (with_reducible repeat (first | refine zN ?_ _ | refine zD ?_ | refine zA ?_ _)); exact BK9120.out) hb); have n1_ := Aq (below_step (by repeat (first | (with_reducible first | exact HB.out | apply zB | apply zC | apply zE | refine below_set ?_ GE9120.out) | exact HB.out)) hb); have n2_ := Aq (hbox); have n3_ := Aq ((by rw [hg]; exact (below_size (by repeat (first | (with_reducible first | exact HB.out | apply zB | apply zC | apply zE | refine below_set ?_ GE9120.out) | exact HB.out))) : w.heap.size ≤ gb9121)); have n4_ := Aq ((by rw [hg]; exact (below_size (by repeat (first | (with_reducible first | exact HB.out | apply zB | apply zC | apply zE | refine below_set ?_ GE9120.out) | exact HB.out))) : w.heap.size ≤ gb9121)); have n5_ := Aq ((by rw [hg]; exact Nat.ne_of_lt (blk_lt (g := gb9120) (o := .cells #[.int .i64 a0_0, .string a0_1, .slice A0_2 l0_2.length c0_2, .int .i64 a0_3, .slice A0_4 l0_4.length c0_4] 35 (0, 0)) (by (with_reducible repeat (first | refine zN ?_ _ | refine zD ?_ | refine zA ?_ _)); exact BK9120.out)) : gb9120 ≠ gb9121)); have n6_ := Aq ((by rw [hg]; exact Nat.ne_of_gt (blk_lt (g := gb9120) (o := .cells #[.int .i64 a0_0, .string a0_1, .slice A0_2 l0_2.length c0_2, .int .i64 a0_3, .slice A0_4 l0_4.length c0_4] 35 (0, 0)) (by (with_reducible repeat (first | refine zN ?_ _ | refine zD ?_ | refine zA ?_ _)); exact BK9120.out)) : gb9121 ≠ gb9120)); clear BK9120 HB; have BK9120 := n0_; have HB := n1_; have BK9121 := n2_; have GW9121 := n3_; have GE9121 := n4_; have NB9120_9121 := n5_; have NB9121_9120 := n6_; clear n0_ n1_ n2_ n3_ n4_ n5_ n6_ hb hbox hg; have hnb18 := NB9120_9121.out; have hnc18 := NB9121_9120.out; have hcz19_0 : w17.cell? ⟨gb9120, 0, none⟩ = some (.int .i64 a0_0) := (blk_cell BK9120.out 0).trans rfl; have hcz19_1 : w17.cell? ⟨gb9120, 1, none⟩ = some (.string a0_1) := (blk_cell BK9120.out 1).trans rfl; have hcz19_2 : w17.cell? ⟨gb9120, 2, none⟩ = some (.slice A0_2 l0_2.length c0_2) := (blk_cell BK9120.out 2).trans rfl; have hcz19_3 : w17.cell? ⟨gb9120, 3, none⟩ = some (.int .i64 a0_3) := (blk_cell BK9120.out 3).trans rfl; have hcz19_4 : w17.cell? ⟨gb9120, 4, none⟩ = some (.slice A0_4 l0_4.length c0_4) := (blk_cell BK9120.out 4).trans rfl; have hfz19_0 := blk_frozen BK9120.out 0; have hfz19_1 := blk_frozen BK9120.out 1; have hfz19_2 := blk_frozen BK9120.out 2; have hfz19_3 := blk_frozen BK9120.out 3; have hfz19_4 := blk_frozen BK9120.out 4; have hcz20_0 : w17.cell? ⟨gb9121, 0, none⟩ = some (.int .i64 a1_0) := (blk_cell BK9121.out 0).trans rfl; have hcz20_1 : w17.cell? ⟨gb9121, 1, none⟩ = some (.string a1_1) := (blk_cell BK9121.out 1).trans rfl; have hcz20_2 : w17.cell? ⟨gb9121, 2, none⟩ = some (.slice A1_2 l1_2.length c1_2) := (blk_cell BK9121.out 2).trans rfl; have hcz20_3 : w17.cell? ⟨gb9121, 3, none⟩ = some (.int .i64 a1_3) := (blk_cell BK9121.out 3).trans rfl; have hcz20_4 : w17.cell? ⟨gb9121, 4, none⟩ = some (.slice A1_4 l1_4.length c1_4) := (blk_cell BK9121.out 4).trans rfl; have hfz20_0 := blk_frozen BK9121.out 0; have hfz20_1 := blk_frozen BK9121.out 1; have hfz20_2 := blk_frozen BK9121.out 2; have hfz20_3 := blk_frozen BK9121.out 3; have hfz20_4 := blk_frozen BK9121.out 4) | ((with_reducible refine gate_callee (f := 35) rfl ?_); refine goesL_ (some 19) rfl rfl Tryd.func35 (by kernel_rfl) rfl #[.slice A0_2 l0_2.length c0_2, .slice A1_2 l1_2.length c1_2] rfl (by (try simp only [List.map_toArray, List.map_cons, List.map_nil]); first | done | rfl | (simp only [List.length_drop, List.length_take]; rfl)) ?_; (with_reducible refine (laws_eqIntS.calls k _ _ l0_2 _ _ l1_2 true _ ?side1 ?side2 ?side3 ?side4 A5.out).mono ?_); (case side1 => repeat (first | exact (Kd.C_below HR0_2.out HB.out) | (with_reducible refine Kd.C_alloc ?_ _) | (with_reducible refine Kd.C_drewN ?_ _) | (with_reducible refine Kd.C_drew ?_))); (case side2 => exact HC0_2.out); (case side3 => repeat (first | exact (Kd.C_below HR1_2.out HB.out) | (with_reducible refine Kd.C_alloc ?_ _) | (with_reducible refine Kd.C_drewN ?_ _) | (with_reducible refine Kd.C_drew ?_))); (case side4 => exact HC1_2.out); rintro e w' ⟨rfl, ⟨nd, rfl⟩⟩; refine ⟨_, rfl, ?_⟩) | ((with_reducible refine gate_callee (f := 26) rfl ?_); refine goesL_ (some 30) rfl rfl Tryd.func26 (by kernel_rfl) rfl #[.slice A0_4 l0_4.length c0_4, .slice A1_4 l1_4.length c1_4] rfl (by (try simp only [List.map_toArray, List.map_cons, List.map_nil]); first | done | rfl | (simp only [List.length_drop, List.length_take]; rfl)) ?_; (with_reducible refine (ih26 k (by omega) _ _ l0_4 _ _ l1_4 false _ ?side1 ?side2 ?side3 ?side4 A8.out).mono ?_); (case side1 => repeat (first | exact (Kd.C_below HR0_4.out (by repeat (first | (with_reducible first | exact HB.out | apply zB | apply zC | apply zE | refine below_set ?_ GE9120.out | refine below_set ?_ GE9121.out) | exact HB.out))) | (with_reducible refine Kd.C_alloc ?_ _) | (with_reducible refine Kd.C_drewN ?_ _) | (with_reducible refine Kd.C_drew ?_))); (case side2 => exact HC0_4.out); (case side3 => repeat (first | exact (Kd.C_below HR1_4.out (by repeat (first | (with_reducible first | exact HB.out | apply zB | apply zC | apply zE | refine below_set ?_ GE9120.out | refine below_set ?_ GE9121.out) | exact HB.out))) | (with_reducible refine Kd.C_alloc ?_ _) | (with_reducible refine Kd.C_drewN ?_ _) | (with_reducible refine Kd.C_drew ?_))); (case side4 => exact HC1_4.out); rintro e w21 ⟨rfl, hb⟩; refine ⟨_, rfl, ?_⟩; have n0_ := Aq (blk_below (g := gb9120) (o := .cells #[.int .i64 a0_0, .string a0_1, .slice A0_2 l0_2.length c0_2, .int .i64 a0_3, .slice A0_4 l0_4.length c0_4] 35 (0, 0)) (by (with_reducible repeat (first | refine zN ?_ _ | refine zD ?_ | refine zA ?_ _)); exact BK9120.out) hb); have n1_ := Aq (blk_below (g := gb9121) (o := .cells #[.int .i64 a1_0, .string a1_1, .slice A1_2 l1_2.length c1_2, .int .i64 a1_3, .slice A1_4 l1_4.length c1_4] 35 (0, 0)) (by (with_reducible repeat (first | refine zN ?_ _ | refine zD ?_ | refine zA ?_ _)); exact BK9121.out) hb); have n2_ := Aq (below_step (by repeat (first | (with_reducible first | exact HB.out | apply zB | apply zC | apply zE | refine below_set ?_ GE9120.out | refine below_set ?_ GE9121.out) | exact HB.out)) hb); clear BK9120 BK9121 HB; have BK9120 := n0_; have BK9121 := n1_; have HB := n2_; clear n0_ n1_ n2_; (try clear hb); (try clear hb2); (try clear hk); (try clear hi)))
      go_ret
      exact ⟨by first | rfl | (simp [errW_none, errW_some] <;> rfl) | (simp [*, errW_none, errW_some] <;> rfl), by repeat (first | (with_reducible first | exact HB.out | apply zB | apply zC | apply zE | refine below_set ?_ GE9120.out | refine below_set ?_ GE9121.out) | exact HB.out)⟩
    ·rw [if_neg c7] at H
     have c7b0 : (a0_3 == a1_3) = false := beq_eq_false_iff_ne.mpr c7
     have c7b1 : (a0_3 != a1_3) = true := bne_iff_ne.mpr c7
     obtain rfl := Option.some.inj H
     go_enter Tryd.func15, Tryd.ntmps15
     go_wp2_with (first | ((with_reducible refine gate_dst (N := 2) rfl ?_); refine box_event ?hg (N := 2) ?hd (cs := #[.int .i64 a0_0, .string a0_1, .slice A0_2 l0_2.length c0_2, .int .i64 a0_3, .slice A0_4 l0_4.length c0_4]) (t := 35) ?hr ?_; (case hd => rfl); (case hg => rfl); (case hr => first | (go_simp; done) | (go_simp; rfl)); intro gb9120 hg w22 hbox hb; have n0_ := Aq (below_step (by repeat (first | (with_reducible first | exact HB.out | apply zB | apply zC | apply zE) | exact HB.out)) hb); have n1_ := Aq (hbox); have n2_ := Aq ((by rw [hg]; exact (below_size (by repeat (first | (with_reducible first | exact HB.out | apply zB | apply zC | apply zE) | exact HB.out))) : w.heap.size ≤ gb9120)); have n3_ := Aq ((by rw [hg]; exact (below_size (by repeat (first | (with_reducible first | exact HB.out | apply zB | apply zC | apply zE) | exact HB.out))) : w.heap.size ≤ gb9120)); clear HB; have HB := n0_; have BK9120 := n1_; have GW9120 := n2_; have GE9120 := n3_; clear n0_ n1_ n2_ n3_ hb hbox hg) | ((with_reducible refine gate_dst (N := 3) rfl ?_); refine box_event ?hg (N := 3) ?hd (cs := #[.int .i64 a1_0, .string a1_1, .slice A1_2 l1_2.length c1_2, .int .i64 a1_3, .slice A1_4 l1_4.length c1_4]) (t := 35) ?hr ?_; (case hd => rfl); (case hg => rfl); (case hr => first | (go_simp; done) | (go_simp; rfl)); intro gb9121 hg w23 hbox hb; have n0_ := Aq (blk_below (g := gb9120) (o := .cells #[.int .i64 a0_0, .string a0_1, .slice A0_2 l0_2.length c0_2, .int .i64 a0_3, .slice A0_4 l0_4.length c0_4] 35 (0, 0)) (by (with_reducible repeat (first | refine zN ?_ _ | refine zD ?_ | refine zA ?_ _)); exact BK9120.out) hb); have n1_ := Aq (below_step (by repeat (first | (with_reducible first | exact HB.out | apply zB | apply zC | apply zE | refine below_set ?_ GE9120.out) | exact HB.out)) hb); have n2_ := Aq (hbox); have n3_ := Aq ((by rw [hg]; exact (below_size (by repeat (first | (with_reducible first | exact HB.out | apply zB | apply zC | apply zE | refine below_set ?_ GE9120.out) | exact HB.out))) : w.heap.size ≤ gb9121)); have n4_ := Aq ((by rw [hg]; exact (below_size (by repeat (first | (with_reducible first | exact HB.out | apply zB | apply zC | apply zE | refine below_set ?_ GE9120.out) | exact HB.out))) : w.heap.size ≤ gb9121)); have n5_ := Aq ((by rw [hg]; exact Nat.ne_of_lt (blk_lt (g := gb9120) (o := .cells #[.int .i64 a0_0, .string a0_1, .slice A0_2 l0_2.length c0_2, .int .i64 a0_3, .slice A0_4 l0_4.length c0_4] 35 (0, 0)) (by (with_reducible repeat (first | refine zN ?_ _ | refine zD ?_ | refine zA ?_ _)); exact BK9120.out)) : gb9120 ≠ gb9121)); have n6_ := Aq ((by rw [hg]; exact Nat.ne_of_gt (blk_lt (g := gb9120) (o := .cells #[.int .i64 a0_0, .string a0_1, .slice A0_2 l0_2.length c0_2, .int .i64 a0_3, .slice A0_4 l0_4.length c0_4] 35 (0, 0)) (by (with_reducible repeat (first | refine zN ?_ _ | refine zD ?_ | refine zA ?_ _)); exact BK9120.out)) : gb9121 ≠ gb9120)); clear BK9120 HB; have BK9120 := n0_; have HB := n1_; have BK9121 := n2_; have GW9121 := n3_; have GE9121 := n4_; have NB9120_9121 := n5_; have NB9121_9120 := n6_; clear n0_ n1_ n2_ n3_ n4_ n5_ n6_ hb hbox hg; have hnb24 := NB9120_9121.out; have hnc24 := NB9121_9120.out; have hcz25_0 : w23.cell? ⟨gb9120, 0, none⟩ = some (.int .i64 a0_0) := (blk_cell BK9120.out 0).trans rfl; have hcz25_1 : w23.cell? ⟨gb9120, 1, none⟩ = some (.string a0_1) := (blk_cell BK9120.out 1).trans rfl; have hcz25_2 : w23.cell? ⟨gb9120, 2, none⟩ = some (.slice A0_2 l0_2.length c0_2) := (blk_cell BK9120.out 2).trans rfl; have hcz25_3 : w23.cell? ⟨gb9120, 3, none⟩ = some (.int .i64 a0_3) := (blk_cell BK9120.out 3).trans rfl; have hcz25_4 : w23.cell? ⟨gb9120, 4, none⟩ = some (.slice A0_4 l0_4.length c0_4) := (blk_cell BK9120.out 4).trans rfl; have hfz25_0 := blk_frozen BK9120.out 0; have hfz25_1 := blk_frozen BK9120.out 1; have hfz25_2 := blk_frozen BK9120.out 2; have hfz25_3 := blk_frozen BK9120.out 3; have hfz25_4 := blk_frozen BK9120.out 4; have hcz26_0 : w23.cell? ⟨gb9121, 0, none⟩ = some (.int .i64 a1_0) := (blk_cell BK9121.out 0).trans rfl; have hcz26_1 : w23.cell? ⟨gb9121, 1, none⟩ = some (.string a1_1) := (blk_cell BK9121.out 1).trans rfl; have hcz26_2 : w23.cell? ⟨gb9121, 2, none⟩ = some (.slice A1_2 l1_2.length c1_2) := (blk_cell BK9121.out 2).trans rfl; have hcz26_3 : w23.cell? ⟨gb9121, 3, none⟩ = some (.int .i64 a1_3) := (blk_cell BK9121.out 3).trans rfl; have hcz26_4 : w23.cell? ⟨gb9121, 4, none⟩ = some (.slice A1_4 l1_4.length c1_4) := (blk_cell BK9121.out 4).trans rfl; have hfz26_0 := blk_frozen BK9121.out 0; have hfz26_1 := blk_frozen BK9121.out 1; have hfz26_2 := blk_frozen BK9121.out 2; have hfz26_3 := blk_frozen BK9121.out 3; have hfz26_4 := blk_frozen BK9121.out 4) | ((with_reducible refine gate_callee (f := 35) rfl ?_); refine goesL_ (some 19) rfl rfl Tryd.func35 (by kernel_rfl) rfl #[.slice A0_2 l0_2.length c0_2, .slice A1_2 l1_2.length c1_2] rfl (by (try simp only [List.map_toArray, List.map_cons, List.map_nil]); first | done | rfl | (simp only [List.length_drop, List.length_take]; rfl)) ?_; (with_reducible refine (laws_eqIntS.calls k _ _ l0_2 _ _ l1_2 true _ ?side1 ?side2 ?side3 ?side4 A5.out).mono ?_); (case side1 => repeat (first | exact (Kd.C_below HR0_2.out HB.out) | (with_reducible refine Kd.C_alloc ?_ _) | (with_reducible refine Kd.C_drewN ?_ _) | (with_reducible refine Kd.C_drew ?_))); (case side2 => exact HC0_2.out); (case side3 => repeat (first | exact (Kd.C_below HR1_2.out HB.out) | (with_reducible refine Kd.C_alloc ?_ _) | (with_reducible refine Kd.C_drewN ?_ _) | (with_reducible refine Kd.C_drew ?_))); (case side4 => exact HC1_2.out); rintro e w' ⟨rfl, ⟨nd, rfl⟩⟩; refine ⟨_, rfl, ?_⟩))
     go_ret
     exact ⟨by first | rfl | (simp [errW_none, errW_some] <;> rfl) | (simp [*, errW_none, errW_some] <;> rfl), by repeat (first | (with_reducible first | exact HB.out | apply zB | apply zC | apply zE | refine below_set ?_ GE9120.out | refine below_set ?_ GE9121.out) | exact HB.out)⟩
   ·replace c6 := Bool.eq_false_iff.mpr c6
    subst c6
    have H1 : (some false) = some r := by rw [if_neg (show ¬ (false = true) by decide)] at H; exact H
    clear H
    have H := H1
    clear H1
    obtain rfl := Option.some.inj H
    go_enter Tryd.func15, Tryd.ntmps15
    go_wp2_with (first | ((with_reducible refine gate_dst (N := 2) rfl ?_); refine box_event ?hg (N := 2) ?hd (cs := #[.int .i64 a0_0, .string a0_1, .slice A0_2 l0_2.length c0_2, .int .i64 a0_3, .slice A0_4 l0_4.length c0_4]) (t := 35) ?hr ?_; (case hd => rfl); (case hg => rfl); (case hr => first | (go_simp; done) | (go_simp; rfl)); intro gb9120 hg w27 hbox hb; have n0_ := Aq (below_step (by repeat (first | (with_reducible first | exact HB.out | apply zB | apply zC | apply zE) | exact HB.out)) hb); have n1_ := Aq (hbox); have n2_ := Aq ((by rw [hg]; exact (below_size (by repeat (first | (with_reducible first | exact HB.out | apply zB | apply zC | apply zE) | exact HB.out))) : w.heap.size ≤ gb9120)); have n3_ := Aq ((by rw [hg]; exact (below_size (by repeat (first | (with_reducible first | exact HB.out | apply zB | apply zC | apply zE) | exact HB.out))) : w.heap.size ≤ gb9120)); clear HB; have HB := n0_; have BK9120 := n1_; have GW9120 := n2_; have GE9120 := n3_; clear n0_ n1_ n2_ n3_ hb hbox hg) | ((with_reducible refine gate_dst (N := 3) rfl ?_); refine box_event ?hg (N := 3) ?hd (cs := #[.int .i64 a1_0, .string a1_1, .slice A1_2 l1_2.length c1_2, .int .i64 a1_3, .slice A1_4 l1_4.length c1_4]) (t := 35) ?hr ?_; (case hd => rfl); (case hg => rfl); (case hr => first | (go_simp; done) | (go_simp; rfl)); intro gb9121 hg w28 hbox hb; have n0_ := Aq (blk_below (g := gb9120) (o := .cells #[.int .i64 a0_0, .string a0_1, .slice A0_2 l0_2.length c0_2, .int .i64 a0_3, .slice A0_4 l0_4.length c0_4] 35 (0, 0)) (by (with_reducible repeat (first | refine zN ?_ _ | refine zD ?_ | refine zA ?_ _)); exact BK9120.out) hb); have n1_ := Aq (below_step (by repeat (first | (with_reducible first | exact HB.out | apply zB | apply zC | apply zE | refine below_set ?_ GE9120.out) | exact HB.out)) hb); have n2_ := Aq (hbox); have n3_ := Aq ((by rw [hg]; exact (below_size (by repeat (first | (with_reducible first | exact HB.out | apply zB | apply zC | apply zE | refine below_set ?_ GE9120.out) | exact HB.out))) : w.heap.size ≤ gb9121)); have n4_ := Aq ((by rw [hg]; exact (below_size (by repeat (first | (with_reducible first | exact HB.out | apply zB | apply zC | apply zE | refine below_set ?_ GE9120.out) | exact HB.out))) : w.heap.size ≤ gb9121)); have n5_ := Aq ((by rw [hg]; exact Nat.ne_of_lt (blk_lt (g := gb9120) (o := .cells #[.int .i64 a0_0, .string a0_1, .slice A0_2 l0_2.length c0_2, .int .i64 a0_3, .slice A0_4 l0_4.length c0_4] 35 (0, 0)) (by (with_reducible repeat (first | refine zN ?_ _ | refine zD ?_ | refine zA ?_ _)); exact BK9120.out)) : gb9120 ≠ gb9121)); have n6_ := Aq ((by rw [hg]; exact Nat.ne_of_gt (blk_lt (g := gb9120) (o := .cells #[.int .i64 a0_0, .string a0_1, .slice A0_2 l0_2.length c0_2, .int .i64 a0_3, .slice A0_4 l0_4.length c0_4] 35 (0, 0)) (by (with_reducible repeat (first | refine zN ?_ _ | refine zD ?_ | refine zA ?_ _)); exact BK9120.out)) : gb9121 ≠ gb9120)); clear BK9120 HB; have BK9120 := n0_; have HB := n1_; have BK9121 := n2_; have GW9121 := n3_; have GE9121 := n4_; have NB9120_9121 := n5_; have NB9121_9120 := n6_; clear n0_ n1_ n2_ n3_ n4_ n5_ n6_ hb hbox hg; have hnb29 := NB9120_9121.out; have hnc29 := NB9121_9120.out; have hcz30_0 : w28.cell? ⟨gb9120, 0, none⟩ = some (.int .i64 a0_0) := (blk_cell BK9120.out 0).trans rfl; have hcz30_1 : w28.cell? ⟨gb9120, 1, none⟩ = some (.string a0_1) := (blk_cell BK9120.out 1).trans rfl; have hcz30_2 : w28.cell? ⟨gb9120, 2, none⟩ = some (.slice A0_2 l0_2.length c0_2) := (blk_cell BK9120.out 2).trans rfl; have hcz30_3 : w28.cell? ⟨gb9120, 3, none⟩ = some (.int .i64 a0_3) := (blk_cell BK9120.out 3).trans rfl; have hcz30_4 : w28.cell? ⟨gb9120, 4, none⟩ = some (.slice A0_4 l0_4.length c0_4) := (blk_cell BK9120.out 4).trans rfl; have hfz30_0 := blk_frozen BK9120.out 0; have hfz30_1 := blk_frozen BK9120.out 1; have hfz30_2 := blk_frozen BK9120.out 2; have hfz30_3 := blk_frozen BK9120.out 3; have hfz30_4 := blk_frozen BK9120.out 4; have hcz31_0 : w28.cell? ⟨gb9121, 0, none⟩ = some (.int .i64 a1_0) := (blk_cell BK9121.out 0).trans rfl; have hcz31_1 : w28.cell? ⟨gb9121, 1, none⟩ = some (.string a1_1) := (blk_cell BK9121.out 1).trans rfl; have hcz31_2 : w28.cell? ⟨gb9121, 2, none⟩ = some (.slice A1_2 l1_2.length c1_2) := (blk_cell BK9121.out 2).trans rfl; have hcz31_3 : w28.cell? ⟨gb9121, 3, none⟩ = some (.int .i64 a1_3) := (blk_cell BK9121.out 3).trans rfl; have hcz31_4 : w28.cell? ⟨gb9121, 4, none⟩ = some (.slice A1_4 l1_4.length c1_4) := (blk_cell BK9121.out 4).trans rfl; have hfz31_0 := blk_frozen BK9121.out 0; have hfz31_1 := blk_frozen BK9121.out 1; have hfz31_2 := blk_frozen BK9121.out 2; have hfz31_3 := blk_frozen BK9121.out 3; have hfz31_4 := blk_frozen BK9121.out 4) | ((with_reducible refine gate_callee (f := 35) rfl ?_); refine goesL_ (some 19) rfl rfl Tryd.func35 (by kernel_rfl) rfl #[.slice A0_2 l0_2.length c0_2, .slice A1_2 l1_2.length c1_2] rfl (by (try simp only [List.map_toArray, List.map_cons, List.map_nil]); first | done | rfl | (simp only [List.length_drop, List.length_take]; rfl)) ?_; (with_reducible refine (laws_eqIntS.calls k _ _ l0_2 _ _ l1_2 false _ ?side1 ?side2 ?side3 ?side4 A5.out).mono ?_); (case side1 => repeat (first | exact (Kd.C_below HR0_2.out HB.out) | (with_reducible refine Kd.C_alloc ?_ _) | (with_reducible refine Kd.C_drewN ?_ _) | (with_reducible refine Kd.C_drew ?_))); (case side2 => exact HC0_2.out); (case side3 => repeat (first | exact (Kd.C_below HR1_2.out HB.out) | (with_reducible refine Kd.C_alloc ?_ _) | (with_reducible refine Kd.C_drewN ?_ _) | (with_reducible refine Kd.C_drew ?_))); (case side4 => exact HC1_2.out); rintro e w' ⟨rfl, ⟨nd, rfl⟩⟩; refine ⟨_, rfl, ?_⟩))
    go_ret
    exact ⟨by first | rfl | (simp [errW_none, errW_some] <;> rfl) | (simp [*, errW_none, errW_some] <;> rfl), by repeat (first | (with_reducible first | exact HB.out | apply zB | apply zC | apply zE | refine below_set ?_ GE9120.out | refine below_set ?_ GE9121.out) | exact HB.out)⟩
  ·rw [if_neg c4] at H
   have c4b0 : (a0_1.toList == a1_1.toList) = false := beq_eq_false_iff_ne.mpr c4
   have c4b1 : (a0_1.toList != a1_1.toList) = true := bne_iff_ne.mpr c4
   obtain rfl := Option.some.inj H
   go_enter Tryd.func15, Tryd.ntmps15
   go_wp2_with (first | ((with_reducible refine gate_dst (N := 2) rfl ?_); refine box_event ?hg (N := 2) ?hd (cs := #[.int .i64 a0_0, .string a0_1, .slice A0_2 l0_2.length c0_2, .int .i64 a0_3, .slice A0_4 l0_4.length c0_4]) (t := 35) ?hr ?_; (case hd => rfl); (case hg => rfl); (case hr => first | (go_simp; done) | (go_simp; rfl)); intro gb9120 hg w32 hbox hb; have n0_ := Aq (below_step (by repeat (first | (with_reducible first | exact HB.out | apply zB | apply zC | apply zE) | exact HB.out)) hb); have n1_ := Aq (hbox); have n2_ := Aq ((by rw [hg]; exact (below_size (by repeat (first | (with_reducible first | exact HB.out | apply zB | apply zC | apply zE) | exact HB.out))) : w.heap.size ≤ gb9120)); have n3_ := Aq ((by rw [hg]; exact (below_size (by repeat (first | (with_reducible first | exact HB.out | apply zB | apply zC | apply zE) | exact HB.out))) : w.heap.size ≤ gb9120)); clear HB; have HB := n0_; have BK9120 := n1_; have GW9120 := n2_; have GE9120 := n3_; clear n0_ n1_ n2_ n3_ hb hbox hg) | ((with_reducible refine gate_dst (N := 3) rfl ?_); refine box_event ?hg (N := 3) ?hd (cs := #[.int .i64 a1_0, .string a1_1, .slice A1_2 l1_2.length c1_2, .int .i64 a1_3, .slice A1_4 l1_4.length c1_4]) (t := 35) ?hr ?_; (case hd => rfl); (case hg => rfl); (case hr => first | (go_simp; done) | (go_simp; rfl)); intro gb9121 hg w33 hbox hb; have n0_ := Aq (blk_below (g := gb9120) (o := .cells #[.int .i64 a0_0, .string a0_1, .slice A0_2 l0_2.length c0_2, .int .i64 a0_3, .slice A0_4 l0_4.length c0_4] 35 (0, 0)) (by (with_reducible repeat (first | refine zN ?_ _ | refine zD ?_ | refine zA ?_ _)); exact BK9120.out) hb); have n1_ := Aq (below_step (by repeat (first | (with_reducible first | exact HB.out | apply zB | apply zC | apply zE | refine below_set ?_ GE9120.out) | exact HB.out)) hb); have n2_ := Aq (hbox); have n3_ := Aq ((by rw [hg]; exact (below_size (by repeat (first | (with_reducible first | exact HB.out | apply zB | apply zC | apply zE | refine below_set ?_ GE9120.out) | exact HB.out))) : w.heap.size ≤ gb9121)); have n4_ := Aq ((by rw [hg]; exact (below_size (by repeat (first | (with_reducible first | exact HB.out | apply zB | apply zC | apply zE | refine below_set ?_ GE9120.out) | exact HB.out))) : w.heap.size ≤ gb9121)); have n5_ := Aq ((by rw [hg]; exact Nat.ne_of_lt (blk_lt (g := gb9120) (o := .cells #[.int .i64 a0_0, .string a0_1, .slice A0_2 l0_2.length c0_2, .int .i64 a0_3, .slice A0_4 l0_4.length c0_4] 35 (0, 0)) (by (with_reducible repeat (first | refine zN ?_ _ | refine zD ?_ | refine zA ?_ _)); exact BK9120.out)) : gb9120 ≠ gb9121)); have n6_ := Aq ((by rw [hg]; exact Nat.ne_of_gt (blk_lt (g := gb9120) (o := .cells #[.int .i64 a0_0, .string a0_1, .slice A0_2 l0_2.length c0_2, .int .i64 a0_3, .slice A0_4 l0_4.length c0_4] 35 (0, 0)) (by (with_reducible repeat (first | refine zN ?_ _ | refine zD ?_ | refine zA ?_ _)); exact BK9120.out)) : gb9121 ≠ gb9120)); clear BK9120 HB; have BK9120 := n0_; have HB := n1_; have BK9121 := n2_; have GW9121 := n3_; have GE9121 := n4_; have NB9120_9121 := n5_; have NB9121_9120 := n6_; clear n0_ n1_ n2_ n3_ n4_ n5_ n6_ hb hbox hg; have hnb34 := NB9120_9121.out; have hnc34 := NB9121_9120.out; have hcz35_0 : w33.cell? ⟨gb9120, 0, none⟩ = some (.int .i64 a0_0) := (blk_cell BK9120.out 0).trans rfl; have hcz35_1 : w33.cell? ⟨gb9120, 1, none⟩ = some (.string a0_1) := (blk_cell BK9120.out 1).trans rfl; have hcz35_2 : w33.cell? ⟨gb9120, 2, none⟩ = some (.slice A0_2 l0_2.length c0_2) := (blk_cell BK9120.out 2).trans rfl; have hcz35_3 : w33.cell? ⟨gb9120, 3, none⟩ = some (.int .i64 a0_3) := (blk_cell BK9120.out 3).trans rfl; have hcz35_4 : w33.cell? ⟨gb9120, 4, none⟩ = some (.slice A0_4 l0_4.length c0_4) := (blk_cell BK9120.out 4).trans rfl; have hfz35_0 := blk_frozen BK9120.out 0; have hfz35_1 := blk_frozen BK9120.out 1; have hfz35_2 := blk_frozen BK9120.out 2; have hfz35_3 := blk_frozen BK9120.out 3; have hfz35_4 := blk_frozen BK9120.out 4; have hcz36_0 : w33.cell? ⟨gb9121, 0, none⟩ = some (.int .i64 a1_0) := (blk_cell BK9121.out 0).trans rfl; have hcz36_1 : w33.cell? ⟨gb9121, 1, none⟩ = some (.string a1_1) := (blk_cell BK9121.out 1).trans rfl; have hcz36_2 : w33.cell? ⟨gb9121, 2, none⟩ = some (.slice A1_2 l1_2.length c1_2) := (blk_cell BK9121.out 2).trans rfl; have hcz36_3 : w33.cell? ⟨gb9121, 3, none⟩ = some (.int .i64 a1_3) := (blk_cell BK9121.out 3).trans rfl; have hcz36_4 : w33.cell? ⟨gb9121, 4, none⟩ = some (.slice A1_4 l1_4.length c1_4) := (blk_cell BK9121.out 4).trans rfl; have hfz36_0 := blk_frozen BK9121.out 0; have hfz36_1 := blk_frozen BK9121.out 1; have hfz36_2 := blk_frozen BK9121.out 2; have hfz36_3 := blk_frozen BK9121.out 3; have hfz36_4 := blk_frozen BK9121.out 4))
   go_ret
   exact ⟨by first | rfl | (simp [errW_none, errW_some] <;> rfl) | (simp [*, errW_none, errW_some] <;> rfl), by repeat (first | (with_reducible first | exact HB.out | apply zB | apply zC | apply zE | refine below_set ?_ GE9120.out | refine below_set ?_ GE9121.out) | exact HB.out)⟩
 ·rw [if_neg c3] at H
  have c3b0 : (a0_0 == a1_0) = false := beq_eq_false_iff_ne.mpr c3
  have c3b1 : (a0_0 != a1_0) = true := bne_iff_ne.mpr c3
  obtain rfl := Option.some.inj H
  go_enter Tryd.func15, Tryd.ntmps15
  go_wp2_with (first | ((with_reducible refine gate_dst (N := 2) rfl ?_); refine box_event ?hg (N := 2) ?hd (cs := #[.int .i64 a0_0, .string a0_1, .slice A0_2 l0_2.length c0_2, .int .i64 a0_3, .slice A0_4 l0_4.length c0_4]) (t := 35) ?hr ?_; (case hd => rfl); (case hg => rfl); (case hr => first | (go_simp; done) | (go_simp; rfl)); intro gb9120 hg w37 hbox hb; have n0_ := Aq (below_step (by repeat (first | (with_reducible first | exact HB.out | apply zB | apply zC | apply zE) | exact HB.out)) hb); have n1_ := Aq (hbox); have n2_ := Aq ((by rw [hg]; exact (below_size (by repeat (first | (with_reducible first | exact HB.out | apply zB | apply zC | apply zE) | exact HB.out))) : w.heap.size ≤ gb9120)); have n3_ := Aq ((by rw [hg]; exact (below_size (by repeat (first | (with_reducible first | exact HB.out | apply zB | apply zC | apply zE) | exact HB.out))) : w.heap.size ≤ gb9120)); clear HB; have HB := n0_; have BK9120 := n1_; have GW9120 := n2_; have GE9120 := n3_; clear n0_ n1_ n2_ n3_ hb hbox hg) | ((with_reducible refine gate_dst (N := 3) rfl ?_); refine box_event ?hg (N := 3) ?hd (cs := #[.int .i64 a1_0, .string a1_1, .slice A1_2 l1_2.length c1_2, .int .i64 a1_3, .slice A1_4 l1_4.length c1_4]) (t := 35) ?hr ?_; (case hd => rfl); (case hg => rfl); (case hr => first | (go_simp; done) | (go_simp; rfl)); intro gb9121 hg w38 hbox hb; have n0_ := Aq (blk_below (g := gb9120) (o := .cells #[.int .i64 a0_0, .string a0_1, .slice A0_2 l0_2.length c0_2, .int .i64 a0_3, .slice A0_4 l0_4.length c0_4] 35 (0, 0)) (by (with_reducible repeat (first | refine zN ?_ _ | refine zD ?_ | refine zA ?_ _)); exact BK9120.out) hb); have n1_ := Aq (below_step (by repeat (first | (with_reducible first | exact HB.out | apply zB | apply zC | apply zE | refine below_set ?_ GE9120.out) | exact HB.out)) hb); have n2_ := Aq (hbox); have n3_ := Aq ((by rw [hg]; exact (below_size (by repeat (first | (with_reducible first | exact HB.out | apply zB | apply zC | apply zE | refine below_set ?_ GE9120.out) | exact HB.out))) : w.heap.size ≤ gb9121)); have n4_ := Aq ((by rw [hg]; exact (below_size (by repeat (first | (with_reducible first | exact HB.out | apply zB | apply zC | apply zE | refine below_set ?_ GE9120.out) | exact HB.out))) : w.heap.size ≤ gb9121)); have n5_ := Aq ((by rw [hg]; exact Nat.ne_of_lt (blk_lt (g := gb9120) (o := .cells #[.int .i64 a0_0, .string a0_1, .slice A0_2 l0_2.length c0_2, .int .i64 a0_3, .slice A0_4 l0_4.length c0_4] 35 (0, 0)) (by (with_reducible repeat (first | refine zN ?_ _ | refine zD ?_ | refine zA ?_ _)); exact BK9120.out)) : gb9120 ≠ gb9121)); have n6_ := Aq ((by rw [hg]; exact Nat.ne_of_gt (blk_lt (g := gb9120) (o := .cells #[.int .i64 a0_0, .string a0_1, .slice A0_2 l0_2.length c0_2, .int .i64 a0_3, .slice A0_4 l0_4.length c0_4] 35 (0, 0)) (by (with_reducible repeat (first | refine zN ?_ _ | refine zD ?_ | refine zA ?_ _)); exact BK9120.out)) : gb9121 ≠ gb9120)); clear BK9120 HB; have BK9120 := n0_; have HB := n1_; have BK9121 := n2_; have GW9121 := n3_; have GE9121 := n4_; have NB9120_9121 := n5_; have NB9121_9120 := n6_; clear n0_ n1_ n2_ n3_ n4_ n5_ n6_ hb hbox hg; have hnb39 := NB9120_9121.out; have hnc39 := NB9121_9120.out; have hcz40_0 : w38.cell? ⟨gb9120, 0, none⟩ = some (.int .i64 a0_0) := (blk_cell BK9120.out 0).trans rfl; have hcz40_1 : w38.cell? ⟨gb9120, 1, none⟩ = some (.string a0_1) := (blk_cell BK9120.out 1).trans rfl; have hcz40_2 : w38.cell? ⟨gb9120, 2, none⟩ = some (.slice A0_2 l0_2.length c0_2) := (blk_cell BK9120.out 2).trans rfl; have hcz40_3 : w38.cell? ⟨gb9120, 3, none⟩ = some (.int .i64 a0_3) := (blk_cell BK9120.out 3).trans rfl; have hcz40_4 : w38.cell? ⟨gb9120, 4, none⟩ = some (.slice A0_4 l0_4.length c0_4) := (blk_cell BK9120.out 4).trans rfl; have hfz40_0 := blk_frozen BK9120.out 0; have hfz40_1 := blk_frozen BK9120.out 1; have hfz40_2 := blk_frozen BK9120.out 2; have hfz40_3 := blk_frozen BK9120.out 3; have hfz40_4 := blk_frozen BK9120.out 4; have hcz41_0 : w38.cell? ⟨gb9121, 0, none⟩ = some (.int .i64 a1_0) := (blk_cell BK9121.out 0).trans rfl; have hcz41_1 : w38.cell? ⟨gb9121, 1, none⟩ = some (.string a1_1) := (blk_cell BK9121.out 1).trans rfl; have hcz41_2 : w38.cell? ⟨gb9121, 2, none⟩ = some (.slice A1_2 l1_2.length c1_2) := (blk_cell BK9121.out 2).trans rfl; have hcz41_3 : w38.cell? ⟨gb9121, 3, none⟩ = some (.int .i64 a1_3) := (blk_cell BK9121.out 3).trans rfl; have hcz41_4 : w38.cell? ⟨gb9121, 4, none⟩ = some (.slice A1_4 l1_4.length c1_4) := (blk_cell BK9121.out 4).trans rfl; have hfz41_0 := blk_frozen BK9121.out 0; have hfz41_1 := blk_frozen BK9121.out 1; have hfz41_2 := blk_frozen BK9121.out 2; have hfz41_3 := blk_frozen BK9121.out 3; have hfz41_4 := blk_frozen BK9121.out 4))
  go_ret
  exact ⟨by first | rfl | (simp [errW_none, errW_some] <;> rfl) | (simp [*, errW_none, errW_some] <;> rfl), by repeat (first | (with_reducible first | exact HB.out | apply zB | apply zC | apply zE | refine below_set ?_ GE9120.out | refine below_set ?_ GE9121.out) | exact HB.out)⟩
theorem laws_eqExpFormS_group.all (k : Nat) : laws_eqExpFormS.Spec k ∧ laws_eqExpForm.Spec k := by
 induction k using Nat.strongRecOn with
 | _ k ih => exact ⟨laws_eqExpFormS.step k (fun m hm => (ih m hm).1) (fun m hm => (ih m hm).2), laws_eqExpForm.step k (fun m hm => (ih m hm).1) (fun m hm => (ih m hm).2)⟩
theorem laws_eqExpFormS.calls (k : Nat) : ∀ (A0 : Option Addr) (c0 : Nat) (l0 : List (S35)) (A1 : Option Addr) (c1 : Nat) (l1 : List (S35)) (r : Bool) (w : World) (hr0 : Kd.C k35 w A0 l0.length l0) (hc0 : l0.length ≤ c0) (hr1 : Kd.C k35 w A1 l1.length l1) (hc1 : l1.length ≤ c1) (h : laws_eqExpFormS.f k l0 l1 = some r),
  Calls Tryd.prog 26 #[.slice A0 l0.length c0, .slice A1 l1.length c1] w fun e w' => e = .returned (.bool r) ∧ Below w.heap.size w w' := (laws_eqExpFormS_group.all k).1
theorem laws_eqExpForm.calls (k : Nat) : ∀ (a0_0 : Int) (a0_1 : ByteArray) (A0_2 : Option Addr) (c0_2 : Nat) (l0_2 : List Int) (a0_3 : Int) (A0_4 : Option Addr) (c0_4 : Nat) (l0_4 : List (S35)) (a1_0 : Int) (a1_1 : ByteArray) (A1_2 : Option Addr) (c1_2 : Nat) (l1_2 : List Int) (a1_3 : Int) (A1_4 : Option Addr) (c1_4 : Nat) (l1_4 : List (S35)) (r : Bool) (w : World) (hr0_2 : Kd.C (Kd.int .i64) w A0_2 l0_2.length l0_2) (hc0_2 : l0_2.length ≤ c0_2) (hr0_4 : Kd.C k35 w A0_4 l0_4.length l0_4) (hc0_4 : l0_4.length ≤ c0_4) (hr1_2 : Kd.C (Kd.int .i64) w A1_2 l1_2.length l1_2) (hc1_2 : l1_2.length ≤ c1_2) (hr1_4 : Kd.C k35 w A1_4 l1_4.length l1_4) (hc1_4 : l1_4.length ≤ c1_4) (h : laws_eqExpForm.f k a0_0 a0_1 l0_2 a0_3 l0_4 a1_0 a1_1 l1_2 a1_3 l1_4 = some r),
  Calls Tryd.prog 15 #[.agg #[.int .i64 a0_0, .string a0_1, .slice A0_2 l0_2.length c0_2, .int .i64 a0_3, .slice A0_4 l0_4.length c0_4], .agg #[.int .i64 a1_0, .string a1_1, .slice A1_2 l1_2.length c1_2, .int .i64 a1_3, .slice A1_4 l1_4.length c1_4]] w fun e w' => e = .returned (.bool r) ∧ Below w.heap.size w w' := (laws_eqExpFormS_group.all k).2
def spec_l1Digits.l0 : Nat → ByteArray → Int → Option (Bool)
 | 0, _, _ => none
 | k + 1, x0, x3 => if x3 < (x0.size : Int) then (if 0 ≤ x3 then (if (bt x0 x3) < 48 then (some false) else (if (bt x0 x3) > 57 then (some false) else (spec_l1Digits.l0 k x0 (wrap64 (x3 + 1))))) else (none)) else (some (decide ((x0.size : Int) > 0)))
def spec_l1Digits.f (k : Nat) (a0 : ByteArray) : Option (Bool) := spec_l1Digits.l0 k a0 0
theorem spec_l1Digits.mono_l : ∀ k, (∀ y0 y1, LeO (spec_l1Digits.l0 k y0 y1) (spec_l1Digits.l0 (k + 1) y0 y1))
 | 0 => fun _ _ r h => by simp [spec_l1Digits.l0] at h
 | k + 1 => by
  have ih0 := spec_l1Digits.mono_l k
  ·intro y0 y1
   unfold spec_l1Digits.l0
   repeat' first
   | (with_reducible exact ih0 _ _)
   | (with_reducible exact LeO.refl _)
   | (with_reducible exact LeO.none _)
   | (with_reducible refine LeO.ite ?_ ?_)
   | (with_reducible refine LeO.bind ?_ (fun _ => ?_))
   | exact ih0 _ _
   | exact LeO.none _
   | refine LeO.ite ?_ ?_
   | refine LeO.bind ?_ (fun _ => ?_)
theorem spec_l1Digits.mono : ∀ a0 k, LeO (spec_l1Digits.f k a0) (spec_l1Digits.f (k + 1) a0) := by
 intro a0 k
 have ih0 := spec_l1Digits.mono_l k
 unfold spec_l1Digits.f
 repeat' first
   | (with_reducible exact ih0 _ _)
   | (with_reducible exact LeO.refl _)
   | (with_reducible exact LeO.none _)
   | (with_reducible refine LeO.ite ?_ ?_)
   | (with_reducible refine LeO.bind ?_ (fun _ => ?_))
   | exact ih0 _ _
   | exact LeO.none _
   | refine LeO.ite ?_ ?_
   | refine LeO.bind ?_ (fun _ => ?_)
set_option maxHeartbeats 8000000 in
set_option maxRecDepth 100000 in
theorem spec_l1Digits.calls (k : Nat) (a0 : ByteArray) (r : Bool) (w : World) (h : spec_l1Digits.f k a0 = some r) :
  Calls Tryd.prog 75 #[.string a0] w fun e w' => e = .returned (.bool r) ∧ Drawn0 w w' := by
 have H : (spec_l1Digits.l0 k a0 0) = some r := h
 clear h
 have H' := Aq H
 clear H
 go_enter Tryd.func75, Tryd.ntmps75
 go_wp2
 go_loopg [3] k (fun kq v3 w' => ∃ (x3_1 : Int), v3 = .int .i64 x3_1 ∧ Aside0 (spec_l1Digits.l0 kq a0 x3_1 = some r) ∧ Aside0 (kq ≤ k) ∧ Drawn0 w w')
 case atStart => exact ⟨(0), (by first | rfl | (simp; done) | (simp [*]; done)), H', ⟨Nat.le_refl _⟩, by repeat (first | exact Drawn0.refl _ | apply Drawn0.step)⟩
 case round =>
  clear H'
  obtain ⟨x3_1, rfl, HA, HK1, ⟨m1, rfl⟩⟩ := hrel
  cases gk with
  | zero => exact absurd HA.out (by simp [spec_l1Digits.l0])
  | succ k1 =>
   have H := HA.out
   clear HA
   simp only [spec_l1Digits.l0] at H
   by_cases c2 : x3_1 < (a0.size : Int)
   ·rw [if_pos c2] at H
    have c2b0 : decide (x3_1 < (a0.size : Int)) = true := decide_eq_true c2
    clear c2
    by_cases c3 : 0 ≤ x3_1
    ·rw [if_pos c3] at H
     have c3b0 : decide (0 ≤ x3_1) = true := decide_eq_true c3
     clear c3
     by_cases c5 : (bt a0 x3_1) < 48
     ·rw [if_pos c5] at H
      have c5b0 : decide ((bt a0 x3_1) < 48) = true := decide_eq_true c5
      clear c5
      obtain rfl := Option.some.inj H
      have p4 : 0 ≤ (x3_1 : Int) := of_decide_eq_true (by first | (with_reducible assumption) | assumption)
      have q4 : x3_1 < (a0.size : Int) := of_decide_eq_true (by first | (with_reducible assumption) | assumption)
      have hx4 := bt_at a0 x3_1
      replace p4 := eq_true p4
      replace q4 := eq_true q4
      go_wp2
      go_ret
      exact ⟨by first | rfl | (simp; done) | (simp [*]; done), by repeat (first | exact Drawn0.refl _ | apply Drawn0.step)⟩
     ·rw [if_neg c5] at H
      have c5b0 : decide ((bt a0 x3_1) < 48) = false := decide_eq_false c5
      clear c5
      by_cases c7 : (bt a0 x3_1) > 57
      ·rw [if_pos c7] at H
       have c7b0 : decide (57 < (bt a0 x3_1)) = true := decide_eq_true c7
       clear c7
       obtain rfl := Option.some.inj H
       have p4 : 0 ≤ (x3_1 : Int) := of_decide_eq_true (by first | (with_reducible assumption) | assumption)
       have q4 : x3_1 < (a0.size : Int) := of_decide_eq_true (by first | (with_reducible assumption) | assumption)
       have hx4 := bt_at a0 x3_1
       replace p4 := eq_true p4
       replace q4 := eq_true q4
       have p6 : 0 ≤ (x3_1 : Int) := of_decide_eq_true (by first | (with_reducible assumption) | assumption)
       have q6 : x3_1 < (a0.size : Int) := of_decide_eq_true (by first | (with_reducible assumption) | assumption)
       have hx6 := bt_at a0 x3_1
       replace p6 := eq_true p6
       replace q6 := eq_true q6
       go_wp2
       go_ret
       exact ⟨by first | rfl | (simp; done) | (simp [*]; done), by repeat (first | exact Drawn0.refl _ | apply Drawn0.step)⟩
      ·rw [if_neg c7] at H
       have c7b0 : decide (57 < (bt a0 x3_1)) = false := decide_eq_false c7
       clear c7
       have H' := Aq H
       clear H
       have p4 : 0 ≤ (x3_1 : Int) := of_decide_eq_true (by first | (with_reducible assumption) | assumption)
       have q4 : x3_1 < (a0.size : Int) := of_decide_eq_true (by first | (with_reducible assumption) | assumption)
       have hx4 := bt_at a0 x3_1
       replace p4 := eq_true p4
       replace q4 := eq_true q4
       have p6 : 0 ≤ (x3_1 : Int) := of_decide_eq_true (by first | (with_reducible assumption) | assumption)
       have q6 : x3_1 < (a0.size : Int) := of_decide_eq_true (by first | (with_reducible assumption) | assumption)
       have hx6 := bt_at a0 x3_1
       replace p6 := eq_true p6
       replace q6 := eq_true q6
       go_wp2
       go_roundg k1
       case measure => have := HK1.out; omega
       case rel => exact ⟨(wrap64 (x3_1 + 1)), (by first | rfl | (simp; done) | (simp [*]; done)), H', ⟨by have := HK1.out; omega⟩, by repeat (first | exact Drawn0.refl _ | apply Drawn0.step)⟩
    ·rw [if_neg c3] at H
     exact absurd H (by simp)
   ·rw [if_neg c2] at H
    have c2b0 : decide (x3_1 < (a0.size : Int)) = false := decide_eq_false c2
    clear c2
    obtain rfl := Option.some.inj H
    go_wp2
    go_ret
    exact ⟨by first | rfl | (simp; done) | (simp [*]; done), by repeat (first | exact Drawn0.refl _ | apply Drawn0.step)⟩
end Go.Proofs.YtmdhanegafclmaaDoor.PFnExactExpShow
