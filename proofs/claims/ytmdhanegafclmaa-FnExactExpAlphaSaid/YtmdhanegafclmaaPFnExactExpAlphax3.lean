-- Laid by a program of this session (wip/tools/mkprint2.py, which turns a copy of the print); not the kit print itself.
import Derived.Test.YtmdhanegafclmaaPFnExactExpAlphax0
import Derived.Test.YtmdhanegafclmaaPFnExactExpAlphax2
namespace Go.Proofs.Ytmdhanegafclmaa.PFnExactExpAlpha
open Go.RowKit Go.Proofs.YtmdhanegafclmaaW.PrintWords Go.Proofs.YtmdhanegafclmaaW.PrintLast Go.Proofs.YtmdhanegafclmaaW.PrintMore
attribute [local go_sem] max2_int min2_int max_two min_two max_three min_three max_four min_four   -- for this text's walks alone
set_option linter.unusedVariables false
set_option linter.unusedSimpArgs false

/-! ### spec_ExpAlpha: function 13 -/
def spec_ExpAlpha.l0 : Nat → List (S51) → List (S51) → Int → Option (Bool)
  | 0, _, _, _ => none
  | k + 1, x0, x1, x5 => if x5 < (x0.length : Int) then (if 0 ≤ x5 then (if x5 < (x1.length : Int) then ((spec_l5Alpha.f k (([] : List (S125))) ((rd_T51 x0 x5).f0) ((rd_T51 x0 x5).f1) ((rd_T51 x0 x5).f2) ((rd_T51 x0 x5).f3) ((rd_T51 x0 x5).f4) ((rd_T51 x1 x5).f0) ((rd_T51 x1 x5).f1) ((rd_T51 x1 x5).f2) ((rd_T51 x1 x5).f3) ((rd_T51 x1 x5).f4)).bind fun t3134 => (if t3134 = true then (spec_ExpAlpha.l0 k x0 x1 (wrap64 (x5 + 1))) else (some false))) else (none)) else (none)) else (some true)
def spec_ExpAlpha.f (k : Nat) (l0 : List (S51)) (l1 : List (S51)) : Option (Bool) := if (l0.length : Int) = (l1.length : Int) then (spec_ExpAlpha.l0 k l0 l1 0) else (some false)
theorem spec_ExpAlpha.mono_l : ∀ k, (∀ y0 y1 y2, LeO (spec_ExpAlpha.l0 k y0 y1 y2) (spec_ExpAlpha.l0 (k + 1) y0 y1 y2))
  | 0 => fun _ _ _ r h => by simp [spec_ExpAlpha.l0] at h
  | k + 1 => by
    have ih0 := spec_ExpAlpha.mono_l k
    · intro y0 y1 y2
      unfold spec_ExpAlpha.l0
      repeat' first
      | (with_reducible exact ih0 _ _ _)
      | (with_reducible exact spec_l5Alpha.mono _ _ _ _ _ _ _ _ _ _ _ _)
      | (with_reducible exact LeO.refl _)
      | (with_reducible exact LeO.none _)
      | (with_reducible refine LeO.ite ?_ ?_)
      | (with_reducible refine LeO.bind ?_ (fun _ => ?_))
      | exact ih0 _ _ _
      | exact spec_l5Alpha.mono _ _ _ _ _ _ _ _ _ _ _ _
      | exact LeO.none _
      | refine LeO.ite ?_ ?_
      | refine LeO.bind ?_ (fun _ => ?_)
theorem spec_ExpAlpha.mono : ∀ a0 a1 k, LeO (spec_ExpAlpha.f k a0 a1) (spec_ExpAlpha.f (k + 1) a0 a1) := by
  intro a0 a1 k
  have ih0 := spec_ExpAlpha.mono_l k
  unfold spec_ExpAlpha.f
  repeat' first
      | (with_reducible exact ih0 _ _ _)
      | (with_reducible exact spec_l5Alpha.mono _ _ _ _ _ _ _ _ _ _ _ _)
      | (with_reducible exact LeO.refl _)
      | (with_reducible exact LeO.none _)
      | (with_reducible refine LeO.ite ?_ ?_)
      | (with_reducible refine LeO.bind ?_ (fun _ => ?_))
      | exact ih0 _ _ _
      | exact spec_l5Alpha.mono _ _ _ _ _ _ _ _ _ _ _ _
      | exact LeO.none _
      | refine LeO.ite ?_ ?_
      | refine LeO.bind ?_ (fun _ => ?_)
def spec_ExpAlpha.T6 : Bool × List (List Nat × List Nat) := (true, [([], []), ([], []), ([], []), ([1, 2], [1, 2]), ([3], [3]), ([], []), ([], []), ([5, 6], [5, 6]), ([7], [7]), ([0, 4, 8], [0, 4, 8]), ([9], [9])])
def spec_ExpAlpha.B6 : List Nat := [0, 0, 0, 6, 14, 0, 0, 96, 224, 511, 1023]
theorem spec_ExpAlpha.tab6 : rtab .any (opsOf Try.f13 6) = spec_ExpAlpha.T6 := by kernel_rfl
theorem spec_ExpAlpha.bits6 : waitsOk spec_ExpAlpha.T6.2 spec_ExpAlpha.B6 = true := by kernel_rfl
set_option maxHeartbeats 8000000 in
set_option maxRecDepth 100000 in
theorem spec_ExpAlpha.calls (k : Nat) (A0 : Option Addr) (c0 : Nat) (l0 : List (S51)) (A1 : Option Addr) (c1 : Nat) (l1 : List (S51)) (r : Bool) (w : World) (hr0 : Kd.C k51 w A0 l0.length l0) (hc0 : l0.length ≤ c0) (hr1 : Kd.C k51 w A1 l1.length l1) (hc1 : l1.length ≤ c1) (h : spec_ExpAlpha.f k l0 l1 = some r) :
    Calls Try.prog 13 #[.slice A0 l0.length c0, .slice A1 l1.length c1] w fun e w' => e = .returned (.bool r) ∧ Below w.heap.size w w' := by
  have hu51 := Try.underlying51
  have HR0 := Aside0.mk hr0
  have HC0 := Aside0.mk hc0
  clear hr0 hc0
  have HR1 := Aside0.mk hr1
  have HC1 := Aside0.mk hc1
  clear hr1 hc1
  have HB := Aside0.mk (Below.refl w.heap.size w)
  have H : (if (l0.length : Int) = (l1.length : Int) then (spec_ExpAlpha.l0 k l0 l1 0) else (some false)) = some r := h
  clear h
  by_cases c3 : (l0.length : Int) = (l1.length : Int)
  · rw [if_pos c3] at H
    have c3b0 : ((l0.length : Int) == (l1.length : Int)) = true := beq_iff_eq.mpr c3
    have c3b1 : ((l0.length : Int) != (l1.length : Int)) = false := bne_eq_false_iff_eq.mpr c3
    have c3b2 : (l0.length == l1.length) = true := by first | simpa using c3 | (simp at c3 ⊢; omega)
    clear c3
    have H' := Aside0.mk H
    clear H
    go_enter Try.func13, Try.ntmps13
    go_wp2
    go_loopg [5] k (fun kq v5 w' => ∃ (x5_1 : Int), v5 = .int .i64 x5_1 ∧ Aside0 (spec_ExpAlpha.l0 kq l0 l1 x5_1 = some r) ∧ Aside0 (kq ≤ k) ∧ Aside0 (Below w.heap.size w w'))
    case atStart => exact ⟨(0), (by first | rfl | (simp; done) | (simp [*]; done)), H', ⟨Nat.le_refl _⟩, ⟨by repeat (first | (with_reducible first | exact HB.out | apply below_alloc | apply pw_below_drewN | apply below_drew1) | exact HB.out)⟩⟩
    case round =>
      clear H'
      try clear c1
      try clear p2
      try clear c3
      try clear c3b0
      try clear c3b1
      try clear c3b2
      obtain ⟨x5_1, rfl, HA, HK1, HB⟩ := hrel
      cases gk with
      | zero => exact absurd HA.out (by simp [spec_ExpAlpha.l0])
      | succ k1 =>
        have H := HA.out
        clear HA
        simp only [spec_ExpAlpha.l0] at H
        by_cases c4 : x5_1 < (l0.length : Int)
        · rw [if_pos c4] at H
          have c4b0 : decide (x5_1 < (l0.length : Int)) = true := decide_eq_true c4
          clear c4
          obtain ⟨y3129, hy3129⟩ : ∃ y_ : List (S125), y_ = (([] : List (S125))) := ⟨_, rfl⟩
          replace H : (if 0 ≤ x5_1 then (if x5_1 < (l1.length : Int) then ((spec_l5Alpha.f k1 y3129 ((rd_T51 l0 x5_1).f0) ((rd_T51 l0 x5_1).f1) ((rd_T51 l0 x5_1).f2) ((rd_T51 l0 x5_1).f3) ((rd_T51 l0 x5_1).f4) ((rd_T51 l1 x5_1).f0) ((rd_T51 l1 x5_1).f1) ((rd_T51 l1 x5_1).f2) ((rd_T51 l1 x5_1).f3) ((rd_T51 l1 x5_1).f4)).bind fun t3134 => (if t3134 = true then (spec_ExpAlpha.l0 k1 l0 l1 (wrap64 (x5_1 + 1))) else (some false))) else (none)) else (none)) = some r := by first | (rw [hy3129]; with_reducible exact H) | (have H2_ := (Option.bind_some _ _).symm.trans H; rw [hy3129]; with_reducible exact H2_) | (have H2_ := (Option.bind_some _ _).symm.trans H; with_reducible exact H2_) | with_reducible exact H | (rw [hy3129]; exact H) | exact H
          have Ny3129 := Aside0.mk hy3129
          clear hy3129
          by_cases c5 : 0 ≤ x5_1
          · rw [if_pos c5] at H
            have c5b0 : decide (0 ≤ x5_1) = true := decide_eq_true c5
            clear c5
            by_cases c6 : x5_1 < (l1.length : Int)
            · rw [if_pos c6] at H
              have c6b0 : decide (x5_1 < (l1.length : Int)) = true := decide_eq_true c6
              clear c6
              replace H := Option.bind_eq_some_iff.mp H
              obtain ⟨t3134, A70, H⟩ := H
              replace H : (if t3134 = true then (spec_ExpAlpha.l0 k1 l0 l1 (wrap64 (x5_1 + 1))) else (some false)) = some r := H
              have A7 := Aside0.mk A70
              clear A70
              by_cases c8 : t3134 = true
              · subst c8
                have H1 : (spec_ExpAlpha.l0 k1 l0 l1 (wrap64 (x5_1 + 1))) = some r := by rw [if_pos rfl] at H; exact H
                clear H
                have H := H1
                clear H1
                have H' := Aside0.mk H
                clear H
                try go_wp2
                have n0_ := Aside0.mk (below_drew1 HB.out)
                clear HB
                have HB := n0_
                clear n0_
                have p3132 : 0 ≤ (x5_1 : Int) := of_decide_eq_true (by first | (with_reducible assumption) | assumption)
                have q3132 : x5_1 < (l0.length : Int) := of_decide_eq_true (by first | (with_reducible assumption) | assumption)
                obtain ⟨ad3132, A3132_3, c3132_3, A3132_4, c3132_4, e3132, hx3132_0, hx3132_1, hx3132_2, hx3132_3, hx3132_4, hl3132_3, hi3132_3, hl3132_4, hi3132_4⟩ := at_T51 HR0.out x5_1 p3132 q3132
                have hw3132_4 := hx3132_4
                have hw3132_3 := hx3132_3
                have hw3132_2 := hx3132_2
                have hw3132_1 := hx3132_1
                have hw3132_0 := hx3132_0
                cases e3132
                replace hx3132_0 := (HB.out.cell (World.block_lt_of_cell? w _ hx3132_0)).trans hx3132_0
                replace hx3132_1 := (HB.out.cell (World.block_lt_of_cell? w _ hx3132_1)).trans hx3132_1
                replace hx3132_2 := (HB.out.cell (World.block_lt_of_cell? w _ hx3132_2)).trans hx3132_2
                replace hx3132_3 := (HB.out.cell (World.block_lt_of_cell? w _ hx3132_3)).trans hx3132_3
                replace hx3132_4 := (HB.out.cell (World.block_lt_of_cell? w _ hx3132_4)).trans hx3132_4
                have HR3132_3 := Aside0.mk hi3132_3
                have HC3132_3 := Aside0.mk hl3132_3
                clear hi3132_3 hl3132_3
                have HR3132_4 := Aside0.mk hi3132_4
                have HC3132_4 := Aside0.mk hl3132_4
                clear hi3132_4 hl3132_4
                replace p3132 := eq_true p3132
                replace q3132 := eq_true q3132
                have p3133 : 0 ≤ (x5_1 : Int) := of_decide_eq_true (by first | (with_reducible assumption) | assumption)
                have q3133 : x5_1 < (l1.length : Int) := of_decide_eq_true (by first | (with_reducible assumption) | assumption)
                obtain ⟨ad3133, A3133_3, c3133_3, A3133_4, c3133_4, e3133, hx3133_0, hx3133_1, hx3133_2, hx3133_3, hx3133_4, hl3133_3, hi3133_3, hl3133_4, hi3133_4⟩ := at_T51 HR1.out x5_1 p3133 q3133
                have hw3133_4 := hx3133_4
                have hw3133_3 := hx3133_3
                have hw3133_2 := hx3133_2
                have hw3133_1 := hx3133_1
                have hw3133_0 := hx3133_0
                cases e3133
                replace hx3133_0 := (HB.out.cell (World.block_lt_of_cell? w _ hx3133_0)).trans hx3133_0
                replace hx3133_1 := (HB.out.cell (World.block_lt_of_cell? w _ hx3133_1)).trans hx3133_1
                replace hx3133_2 := (HB.out.cell (World.block_lt_of_cell? w _ hx3133_2)).trans hx3133_2
                replace hx3133_3 := (HB.out.cell (World.block_lt_of_cell? w _ hx3133_3)).trans hx3133_3
                replace hx3133_4 := (HB.out.cell (World.block_lt_of_cell? w _ hx3133_4)).trans hx3133_4
                have HR3133_3 := Aside0.mk hi3133_3
                have HC3133_3 := Aside0.mk hl3133_3
                clear hi3133_3 hl3133_3
                have HR3133_4 := Aside0.mk hi3133_4
                have HC3133_4 := Aside0.mk hl3133_4
                clear hi3133_4 hl3133_4
                replace p3133 := eq_true p3133
                replace q3133 := eq_true q3133
                refine start_ (n := 11) (S := fun w' => w'.cell? (ad3132.add ((x5_1).toNat * 5)) = some (.int .i64 ((rd_T51 l0 x5_1).f0)) ∧ w'.cell? ⟨(ad3132.add ((x5_1).toNat * 5)).block, (ad3132.add ((x5_1).toNat * 5)).off + 1, none⟩ = some (.string ((rd_T51 l0 x5_1).f1)) ∧ w'.cell? ⟨(ad3132.add ((x5_1).toNat * 5)).block, (ad3132.add ((x5_1).toNat * 5)).off + 2, none⟩ = some (.bool ((rd_T51 l0 x5_1).f2)) ∧ w'.cell? ⟨(ad3132.add ((x5_1).toNat * 5)).block, (ad3132.add ((x5_1).toNat * 5)).off + 3, none⟩ = some (.slice A3132_3 ((rd_T51 l0 x5_1).f3).length c3132_3) ∧ w'.cell? ⟨(ad3132.add ((x5_1).toNat * 5)).block, (ad3132.add ((x5_1).toNat * 5)).off + 4, none⟩ = some (.slice A3132_4 ((rd_T51 l0 x5_1).f4).length c3132_4) ∧ w'.cell? (ad3133.add ((x5_1).toNat * 5)) = some (.int .i64 ((rd_T51 l1 x5_1).f0)) ∧ w'.cell? ⟨(ad3133.add ((x5_1).toNat * 5)).block, (ad3133.add ((x5_1).toNat * 5)).off + 1, none⟩ = some (.string ((rd_T51 l1 x5_1).f1)) ∧ w'.cell? ⟨(ad3133.add ((x5_1).toNat * 5)).block, (ad3133.add ((x5_1).toNat * 5)).off + 2, none⟩ = some (.bool ((rd_T51 l1 x5_1).f2)) ∧ w'.cell? ⟨(ad3133.add ((x5_1).toNat * 5)).block, (ad3133.add ((x5_1).toNat * 5)).off + 3, none⟩ = some (.slice A3133_3 ((rd_T51 l1 x5_1).f3).length c3133_3) ∧ w'.cell? ⟨(ad3133.add ((x5_1).toNat * 5)).block, (ad3133.add ((x5_1).toNat * 5)).off + 4, none⟩ = some (.slice A3133_4 ((rd_T51 l1 x5_1).f4).length c3133_4)) (ds := []) #[false, false, false, false, false, false, false, false, false, false, false] (by kernel_rfl) rfl rfl ⟨((HB.out.cell (World.block_lt_of_cell? w _ hw3132_0)).trans hw3132_0), ((HB.out.cell (World.block_lt_of_cell? w _ hw3132_1)).trans hw3132_1), ((HB.out.cell (World.block_lt_of_cell? w _ hw3132_2)).trans hw3132_2), ((HB.out.cell (World.block_lt_of_cell? w _ hw3132_3)).trans hw3132_3), ((HB.out.cell (World.block_lt_of_cell? w _ hw3132_4)).trans hw3132_4), ((HB.out.cell (World.block_lt_of_cell? w _ hw3133_0)).trans hw3133_0), ((HB.out.cell (World.block_lt_of_cell? w _ hw3133_1)).trans hw3133_1), ((HB.out.cell (World.block_lt_of_cell? w _ hw3133_2)).trans hw3133_2), ((HB.out.cell (World.block_lt_of_cell? w _ hw3133_3)).trans hw3133_3), ((HB.out.cell (World.block_lt_of_cell? w _ hw3133_4)).trans hw3133_4)⟩ (fun hHeld => ?_); refine with_tabW spec_ExpAlpha.tab6 spec_ExpAlpha.bits6 (fun HT_ HW_ => ?_)
                generalize wr.drew = w9 at HB HR3132_3 HR3132_4 HR3133_3 HR3133_4 hx3132_0 hx3132_1 hx3132_2 hx3132_3 hx3132_4 hx3133_0 hx3133_1 hx3133_2 hx3133_3 hx3133_4 hHeld ⊢
                refine pure_ (i := 1) (N := some 18) (v := ?_) (a' := ?_) #[false, true, false, false, false, false, false, false, false, false, false] rfl rfl (any_of HT_.out (by kernel_rfl)) (fun _ _ _ h => h) (Or.inl ⟨by rfl, ?_⟩) ?_ ?_
                rotate_left
                · intro w'
                  go_simp
                  with_reducible rfl
                rotate_left
                · simp only [Act.put, List.setIfInBounds_toArray, List.set_cons_zero, List.set_cons_succ, i64_w, i32_w]
                  rfl
                refine pure_ (i := 2) (N := some 19) (v := ?_) (a' := ?_) #[false, true, true, false, false, false, false, false, false, false, false] rfl rfl (any_of HT_.out (by kernel_rfl)) (fun _ _ _ h => h) (Or.inl ⟨by rfl, ?_⟩) ?_ ?_
                rotate_left
                · intro w'
                  go_simp
                  with_reducible rfl
                rotate_left
                · simp only [Act.put, List.setIfInBounds_toArray, List.set_cons_zero, List.set_cons_succ, i64_w, i32_w]
                  rfl
                refine pure_ (i := 3) (N := some 20) (v := ?_) (a' := ?_) #[false, true, true, true, false, false, false, false, false, false, false] rfl rfl (any_of HT_.out (by kernel_rfl)) (fun _ _ _ h => h) (Or.inl ⟨by rfl, ?_⟩) ?_ ?_
                rotate_left
                · intro w'
                  go_simp
                  with_reducible rfl
                rotate_left
                · simp only [Act.put, List.setIfInBounds_toArray, List.set_cons_zero, List.set_cons_succ, i64_w, i32_w]
                  rfl
                refine pure_ (i := 5) (N := some 22) (v := ?_) (a' := ?_) #[false, true, true, true, false, true, false, false, false, false, false] rfl rfl (any_of HT_.out (by kernel_rfl)) (fun _ _ _ h => h) (Or.inl ⟨by rfl, ?_⟩) ?_ ?_
                rotate_left
                · intro w'
                  go_simp
                  with_reducible rfl
                rotate_left
                · simp only [Act.put, List.setIfInBounds_toArray, List.set_cons_zero, List.set_cons_succ, i64_w, i32_w]
                  rfl
                refine pure_ (i := 6) (N := some 23) (v := ?_) (a' := ?_) #[false, true, true, true, false, true, true, false, false, false, false] rfl rfl (any_of HT_.out (by kernel_rfl)) (fun _ _ _ h => h) (Or.inl ⟨by rfl, ?_⟩) ?_ ?_
                rotate_left
                · intro w'
                  go_simp
                  with_reducible rfl
                rotate_left
                · simp only [Act.put, List.setIfInBounds_toArray, List.set_cons_zero, List.set_cons_succ, i64_w, i32_w]
                  rfl
                refine pure_ (i := 7) (N := some 24) (v := ?_) (a' := ?_) #[false, true, true, true, false, true, true, true, false, false, false] rfl rfl (any_of HT_.out (by kernel_rfl)) (fun _ _ _ h => h) (Or.inl ⟨by rfl, ?_⟩) ?_ ?_
                rotate_left
                · intro w'
                  go_simp
                  with_reducible rfl
                rotate_left
                · simp only [Act.put, List.setIfInBounds_toArray, List.set_cons_zero, List.set_cons_succ, i64_w, i32_w]
                  rfl
                refine take_ (i := 4) (N := some 21) (v := ?_) (a' := ?_) #[false, true, true, true, true, true, true, true, false, false, false] rfl rfl (take_ofW HT_.out HW_.out (by kernel_rfl)) (fun _ _ _ h => h) (Or.inl ⟨by rfl, ?_⟩) hHeld ?_ ?_
                rotate_left
                · rintro w' ⟨s0, s1, s2, s3, s4, s5, s6, s7, s8, s9⟩
                  go_simp
                  with_reducible rfl
                rotate_left
                · simp only [Act.put, List.setIfInBounds_toArray, List.set_cons_zero, List.set_cons_succ, i64_w, i32_w]
                  rfl
                refine take_ (i := 8) (N := some 25) (v := ?_) (a' := ?_) #[false, true, true, true, true, true, true, true, true, false, false] rfl rfl (take_ofW HT_.out HW_.out (by kernel_rfl)) (fun _ _ _ h => h) (Or.inl ⟨by rfl, ?_⟩) hHeld ?_ ?_
                rotate_left
                · rintro w' ⟨s0, s1, s2, s3, s4, s5, s6, s7, s8, s9⟩
                  go_simp
                  with_reducible rfl
                rotate_left
                · simp only [Act.put, List.setIfInBounds_toArray, List.set_cons_zero, List.set_cons_succ, i64_w, i32_w]
                  rfl
                refine one_ (i := 0) (N := some 17) #[true, true, true, true, true, true, true, true, true, false, false] rfl rfl (one_of HT_.out (by kernel_rfl)) (by decide) (fun K hK => ?_)
                refine Kd.R_lit_step k125 _ 125 ?hg (N := 17) ?hd (xs := ([] : List (S125))) (inner := []) (ok := fun _ => True) (okp := fun _ => True) ?hr ?hp (fun _ hk => hk) trivial (Below.refl _ _) (Nat.le_refl _) (by simp) ?_; (case hd => rfl); (case hg => rfl); (case hr => first | (go_simp; done) | (go_simp; rfl)); (case hp => exact (Reps.none _ _))
                intro v3130 w10 ho11 hb hg_ hnew_
                clear hg_ hnew_
                (first | rw [← Ny3129.out] at ho11 | (simp only [Int.reduceToNat] at ho11; rw [← Ny3129.out] at ho11))
                have n0_ := Aside0.mk (Kd.R_lower ho11 (below_size (by repeat (first | (with_reducible first | exact HB.out | apply below_alloc | apply pw_below_drewN | apply below_drew1) | exact HB.out))))
                have n1_ := Aside0.mk (below_step (by repeat (first | (with_reducible first | exact HB.out | apply below_alloc | apply pw_below_drewN | apply below_drew1) | exact HB.out)) hb)
                clear HB
                have HO3131 := n0_
                have HB := n1_
                clear n0_ n1_
                clear hb ho11
                obtain ⟨Ao12, co12, eo12⟩ := Kd.R_slice HO3131.out
                (first | subst eo12 | (injection eo12 with f1_ f2_ f3_; have f4_ := f1_.symm; have f5_ := f3_.symm; clear f1_ f2_ f3_; subst f4_; subst f5_))
                refine hK.out _ _ ⟨((HB.out.cell (World.block_lt_of_cell? w _ hw3132_0)).trans hw3132_0), ((HB.out.cell (World.block_lt_of_cell? w _ hw3132_1)).trans hw3132_1), ((HB.out.cell (World.block_lt_of_cell? w _ hw3132_2)).trans hw3132_2), ((HB.out.cell (World.block_lt_of_cell? w _ hw3132_3)).trans hw3132_3), ((HB.out.cell (World.block_lt_of_cell? w _ hw3132_4)).trans hw3132_4), ((HB.out.cell (World.block_lt_of_cell? w _ hw3133_0)).trans hw3133_0), ((HB.out.cell (World.block_lt_of_cell? w _ hw3133_1)).trans hw3133_1), ((HB.out.cell (World.block_lt_of_cell? w _ hw3133_2)).trans hw3133_2), ((HB.out.cell (World.block_lt_of_cell? w _ hw3133_3)).trans hw3133_3), ((HB.out.cell (World.block_lt_of_cell? w _ hw3133_4)).trans hw3133_4)⟩ (fun hHeld => ?_)
                clear hK K
                refine norm_ (a' := ?_) ?_ ?_
                rotate_left
                · show Act.put _ (some 17) _ = _
                  simp only [Act.put, List.setIfInBounds_toArray, List.set_cons_zero, List.set_cons_succ, i64_w, i32_w]
                  rfl
                refine one_ (i := 9) (N := some 26) #[true, true, true, true, true, true, true, true, true, true, false] rfl rfl (one_of HT_.out (by kernel_rfl)) (by decide) (fun K hK => ?_)
                refine goes_ Try.func42 (by kernel_rfl) rfl #[.slice Ao12 y3129.length co12, .agg #[.int .i64 ((rd_T51 l0 x5_1).f0), .string ((rd_T51 l0 x5_1).f1), .bool ((rd_T51 l0 x5_1).f2), .slice A3132_3 ((rd_T51 l0 x5_1).f3).length c3132_3, .slice A3132_4 ((rd_T51 l0 x5_1).f4).length c3132_4], .agg #[.int .i64 ((rd_T51 l1 x5_1).f0), .string ((rd_T51 l1 x5_1).f1), .bool ((rd_T51 l1 x5_1).f2), .slice A3133_3 ((rd_T51 l1 x5_1).f3).length c3133_3, .slice A3133_4 ((rd_T51 l1 x5_1).f4).length c3133_4]] (by rfl) rfl rfl (by (try simp only [List.map_toArray, List.map_cons, List.map_nil]); first | done | rfl | (simp only [List.length_drop, List.length_take]; rfl)) ?_
                with_reducible refine (spec_l5Alpha.calls k1 _ _ y3129 ((rd_T51 l0 x5_1).f0) ((rd_T51 l0 x5_1).f1) ((rd_T51 l0 x5_1).f2) _ _ ((rd_T51 l0 x5_1).f3) _ _ ((rd_T51 l0 x5_1).f4) ((rd_T51 l1 x5_1).f0) ((rd_T51 l1 x5_1).f1) ((rd_T51 l1 x5_1).f2) _ _ ((rd_T51 l1 x5_1).f3) _ _ ((rd_T51 l1 x5_1).f4) true _ ?side1 ?side2 ?side3 ?side4 ?side5 ?side6 ?side7 ?side8 ?side9 ?side10 A7.out).mono ?_
                (case side1 => repeat (first | exact (Kd.R_reads' HO3131.out).2.2 | (with_reducible refine Kd.C_alloc ?_ _) | (with_reducible refine Kd.C_drewN ?_ _) | (with_reducible refine Kd.C_drew ?_)))
                (case side2 => exact (Kd.R_reads' HO3131.out).2.1)
                (case side3 => repeat (first | exact (Kd.C_below HR3132_3.out HB.out) | (with_reducible refine Kd.C_alloc ?_ _) | (with_reducible refine Kd.C_drewN ?_ _) | (with_reducible refine Kd.C_drew ?_)))
                (case side4 => exact HC3132_3.out)
                (case side5 => repeat (first | exact (Kd.C_below HR3132_4.out HB.out) | (with_reducible refine Kd.C_alloc ?_ _) | (with_reducible refine Kd.C_drewN ?_ _) | (with_reducible refine Kd.C_drew ?_)))
                (case side6 => exact HC3132_4.out)
                (case side7 => repeat (first | exact (Kd.C_below HR3133_3.out HB.out) | (with_reducible refine Kd.C_alloc ?_ _) | (with_reducible refine Kd.C_drewN ?_ _) | (with_reducible refine Kd.C_drew ?_)))
                (case side8 => exact HC3133_3.out)
                (case side9 => repeat (first | exact (Kd.C_below HR3133_4.out HB.out) | (with_reducible refine Kd.C_alloc ?_ _) | (with_reducible refine Kd.C_drewN ?_ _) | (with_reducible refine Kd.C_drew ?_)))
                (case side10 => exact HC3133_4.out)
                rintro e w13 ⟨rfl, hb⟩
                refine ⟨_, rfl, ?_⟩
                have n0_ := Aside0.mk (Kd.R_below (by (with_reducible repeat (first | apply Kd.R_alloc | apply Kd.R_drewN | apply Kd.R_drew)); exact HO3131.out) hb)
                have n1_ := Aside0.mk (below_step (by repeat (first | (with_reducible first | exact HB.out | apply below_alloc | apply pw_below_drewN | apply below_drew1) | exact HB.out)) hb)
                clear HO3131
                clear HB
                have HO3131 := n0_
                have HB := n1_
                clear n0_ n1_
                (try clear hb)
                (try clear hb2)
                (try clear hk)
                (try clear hi)
                refine hK.out _ _ ⟨((HB.out.cell (World.block_lt_of_cell? w _ hw3132_0)).trans hw3132_0), ((HB.out.cell (World.block_lt_of_cell? w _ hw3132_1)).trans hw3132_1), ((HB.out.cell (World.block_lt_of_cell? w _ hw3132_2)).trans hw3132_2), ((HB.out.cell (World.block_lt_of_cell? w _ hw3132_3)).trans hw3132_3), ((HB.out.cell (World.block_lt_of_cell? w _ hw3132_4)).trans hw3132_4), ((HB.out.cell (World.block_lt_of_cell? w _ hw3133_0)).trans hw3133_0), ((HB.out.cell (World.block_lt_of_cell? w _ hw3133_1)).trans hw3133_1), ((HB.out.cell (World.block_lt_of_cell? w _ hw3133_2)).trans hw3133_2), ((HB.out.cell (World.block_lt_of_cell? w _ hw3133_3)).trans hw3133_3), ((HB.out.cell (World.block_lt_of_cell? w _ hw3133_4)).trans hw3133_4)⟩ (fun hHeld => ?_)
                clear hK K
                refine norm_ (a' := ?_) ?_ ?_
                rotate_left
                · show Act.put _ (some 26) _ = _
                  simp only [Act.put, List.setIfInBounds_toArray, List.set_cons_zero, List.set_cons_succ, i64_w, i32_w]
                  rfl
                refine pure_ (i := 10) (N := some 27) (v := ?_) (a' := ?_) #[true, true, true, true, true, true, true, true, true, true, true] rfl rfl (any_of HT_.out (by kernel_rfl)) (fun _ _ _ h => h) (Or.inl ⟨by rfl, ?_⟩) ?_ ?_
                rotate_left
                · intro w'
                  go_simp
                  with_reducible rfl
                rotate_left
                · simp only [Act.put, List.setIfInBounds_toArray, List.set_cons_zero, List.set_cons_succ, i64_w, i32_w]
                  rfl
                refine done_ (done_of HT_.out (by kernel_rfl)) ?_
                try go_wp2
                go_roundg k1
                case measure => have := HK1.out; omega
                case rel => exact ⟨(wrap64 (x5_1 + 1)), (by first | rfl | (simp; done) | (simp [*]; done)), H', ⟨by have := HK1.out; omega⟩, ⟨by repeat (first | (with_reducible first | exact HB.out | apply below_alloc | apply pw_below_drewN | apply below_drew1) | exact HB.out)⟩⟩
              · replace c8 := Bool.eq_false_iff.mpr c8
                subst c8
                have H1 : (some false) = some r := by rw [if_neg (show ¬ (false = true) by decide)] at H; exact H
                clear H
                have H := H1
                clear H1
                obtain rfl := Option.some.inj H
                try go_wp2
                have n0_ := Aside0.mk (below_drew1 HB.out)
                clear HB
                have HB := n0_
                clear n0_
                have p3132 : 0 ≤ (x5_1 : Int) := of_decide_eq_true (by first | (with_reducible assumption) | assumption)
                have q3132 : x5_1 < (l0.length : Int) := of_decide_eq_true (by first | (with_reducible assumption) | assumption)
                obtain ⟨ad3132, A3132_3, c3132_3, A3132_4, c3132_4, e3132, hx3132_0, hx3132_1, hx3132_2, hx3132_3, hx3132_4, hl3132_3, hi3132_3, hl3132_4, hi3132_4⟩ := at_T51 HR0.out x5_1 p3132 q3132
                have hw3132_4 := hx3132_4
                have hw3132_3 := hx3132_3
                have hw3132_2 := hx3132_2
                have hw3132_1 := hx3132_1
                have hw3132_0 := hx3132_0
                cases e3132
                replace hx3132_0 := (HB.out.cell (World.block_lt_of_cell? w _ hx3132_0)).trans hx3132_0
                replace hx3132_1 := (HB.out.cell (World.block_lt_of_cell? w _ hx3132_1)).trans hx3132_1
                replace hx3132_2 := (HB.out.cell (World.block_lt_of_cell? w _ hx3132_2)).trans hx3132_2
                replace hx3132_3 := (HB.out.cell (World.block_lt_of_cell? w _ hx3132_3)).trans hx3132_3
                replace hx3132_4 := (HB.out.cell (World.block_lt_of_cell? w _ hx3132_4)).trans hx3132_4
                have HR3132_3 := Aside0.mk hi3132_3
                have HC3132_3 := Aside0.mk hl3132_3
                clear hi3132_3 hl3132_3
                have HR3132_4 := Aside0.mk hi3132_4
                have HC3132_4 := Aside0.mk hl3132_4
                clear hi3132_4 hl3132_4
                replace p3132 := eq_true p3132
                replace q3132 := eq_true q3132
                have p3133 : 0 ≤ (x5_1 : Int) := of_decide_eq_true (by first | (with_reducible assumption) | assumption)
                have q3133 : x5_1 < (l1.length : Int) := of_decide_eq_true (by first | (with_reducible assumption) | assumption)
                obtain ⟨ad3133, A3133_3, c3133_3, A3133_4, c3133_4, e3133, hx3133_0, hx3133_1, hx3133_2, hx3133_3, hx3133_4, hl3133_3, hi3133_3, hl3133_4, hi3133_4⟩ := at_T51 HR1.out x5_1 p3133 q3133
                have hw3133_4 := hx3133_4
                have hw3133_3 := hx3133_3
                have hw3133_2 := hx3133_2
                have hw3133_1 := hx3133_1
                have hw3133_0 := hx3133_0
                cases e3133
                replace hx3133_0 := (HB.out.cell (World.block_lt_of_cell? w _ hx3133_0)).trans hx3133_0
                replace hx3133_1 := (HB.out.cell (World.block_lt_of_cell? w _ hx3133_1)).trans hx3133_1
                replace hx3133_2 := (HB.out.cell (World.block_lt_of_cell? w _ hx3133_2)).trans hx3133_2
                replace hx3133_3 := (HB.out.cell (World.block_lt_of_cell? w _ hx3133_3)).trans hx3133_3
                replace hx3133_4 := (HB.out.cell (World.block_lt_of_cell? w _ hx3133_4)).trans hx3133_4
                have HR3133_3 := Aside0.mk hi3133_3
                have HC3133_3 := Aside0.mk hl3133_3
                clear hi3133_3 hl3133_3
                have HR3133_4 := Aside0.mk hi3133_4
                have HC3133_4 := Aside0.mk hl3133_4
                clear hi3133_4 hl3133_4
                replace p3133 := eq_true p3133
                replace q3133 := eq_true q3133
                refine start_ (n := 11) (S := fun w' => w'.cell? (ad3132.add ((x5_1).toNat * 5)) = some (.int .i64 ((rd_T51 l0 x5_1).f0)) ∧ w'.cell? ⟨(ad3132.add ((x5_1).toNat * 5)).block, (ad3132.add ((x5_1).toNat * 5)).off + 1, none⟩ = some (.string ((rd_T51 l0 x5_1).f1)) ∧ w'.cell? ⟨(ad3132.add ((x5_1).toNat * 5)).block, (ad3132.add ((x5_1).toNat * 5)).off + 2, none⟩ = some (.bool ((rd_T51 l0 x5_1).f2)) ∧ w'.cell? ⟨(ad3132.add ((x5_1).toNat * 5)).block, (ad3132.add ((x5_1).toNat * 5)).off + 3, none⟩ = some (.slice A3132_3 ((rd_T51 l0 x5_1).f3).length c3132_3) ∧ w'.cell? ⟨(ad3132.add ((x5_1).toNat * 5)).block, (ad3132.add ((x5_1).toNat * 5)).off + 4, none⟩ = some (.slice A3132_4 ((rd_T51 l0 x5_1).f4).length c3132_4) ∧ w'.cell? (ad3133.add ((x5_1).toNat * 5)) = some (.int .i64 ((rd_T51 l1 x5_1).f0)) ∧ w'.cell? ⟨(ad3133.add ((x5_1).toNat * 5)).block, (ad3133.add ((x5_1).toNat * 5)).off + 1, none⟩ = some (.string ((rd_T51 l1 x5_1).f1)) ∧ w'.cell? ⟨(ad3133.add ((x5_1).toNat * 5)).block, (ad3133.add ((x5_1).toNat * 5)).off + 2, none⟩ = some (.bool ((rd_T51 l1 x5_1).f2)) ∧ w'.cell? ⟨(ad3133.add ((x5_1).toNat * 5)).block, (ad3133.add ((x5_1).toNat * 5)).off + 3, none⟩ = some (.slice A3133_3 ((rd_T51 l1 x5_1).f3).length c3133_3) ∧ w'.cell? ⟨(ad3133.add ((x5_1).toNat * 5)).block, (ad3133.add ((x5_1).toNat * 5)).off + 4, none⟩ = some (.slice A3133_4 ((rd_T51 l1 x5_1).f4).length c3133_4)) (ds := []) #[false, false, false, false, false, false, false, false, false, false, false] (by kernel_rfl) rfl rfl ⟨((HB.out.cell (World.block_lt_of_cell? w _ hw3132_0)).trans hw3132_0), ((HB.out.cell (World.block_lt_of_cell? w _ hw3132_1)).trans hw3132_1), ((HB.out.cell (World.block_lt_of_cell? w _ hw3132_2)).trans hw3132_2), ((HB.out.cell (World.block_lt_of_cell? w _ hw3132_3)).trans hw3132_3), ((HB.out.cell (World.block_lt_of_cell? w _ hw3132_4)).trans hw3132_4), ((HB.out.cell (World.block_lt_of_cell? w _ hw3133_0)).trans hw3133_0), ((HB.out.cell (World.block_lt_of_cell? w _ hw3133_1)).trans hw3133_1), ((HB.out.cell (World.block_lt_of_cell? w _ hw3133_2)).trans hw3133_2), ((HB.out.cell (World.block_lt_of_cell? w _ hw3133_3)).trans hw3133_3), ((HB.out.cell (World.block_lt_of_cell? w _ hw3133_4)).trans hw3133_4)⟩ (fun hHeld => ?_); refine with_tabW spec_ExpAlpha.tab6 spec_ExpAlpha.bits6 (fun HT_ HW_ => ?_)
                generalize wr.drew = w14 at HB HR3132_3 HR3132_4 HR3133_3 HR3133_4 hx3132_0 hx3132_1 hx3132_2 hx3132_3 hx3132_4 hx3133_0 hx3133_1 hx3133_2 hx3133_3 hx3133_4 hHeld ⊢
                refine pure_ (i := 1) (N := some 18) (v := ?_) (a' := ?_) #[false, true, false, false, false, false, false, false, false, false, false] rfl rfl (any_of HT_.out (by kernel_rfl)) (fun _ _ _ h => h) (Or.inl ⟨by rfl, ?_⟩) ?_ ?_
                rotate_left
                · intro w'
                  go_simp
                  with_reducible rfl
                rotate_left
                · simp only [Act.put, List.setIfInBounds_toArray, List.set_cons_zero, List.set_cons_succ, i64_w, i32_w]
                  rfl
                refine pure_ (i := 2) (N := some 19) (v := ?_) (a' := ?_) #[false, true, true, false, false, false, false, false, false, false, false] rfl rfl (any_of HT_.out (by kernel_rfl)) (fun _ _ _ h => h) (Or.inl ⟨by rfl, ?_⟩) ?_ ?_
                rotate_left
                · intro w'
                  go_simp
                  with_reducible rfl
                rotate_left
                · simp only [Act.put, List.setIfInBounds_toArray, List.set_cons_zero, List.set_cons_succ, i64_w, i32_w]
                  rfl
                refine pure_ (i := 3) (N := some 20) (v := ?_) (a' := ?_) #[false, true, true, true, false, false, false, false, false, false, false] rfl rfl (any_of HT_.out (by kernel_rfl)) (fun _ _ _ h => h) (Or.inl ⟨by rfl, ?_⟩) ?_ ?_
                rotate_left
                · intro w'
                  go_simp
                  with_reducible rfl
                rotate_left
                · simp only [Act.put, List.setIfInBounds_toArray, List.set_cons_zero, List.set_cons_succ, i64_w, i32_w]
                  rfl
                refine pure_ (i := 5) (N := some 22) (v := ?_) (a' := ?_) #[false, true, true, true, false, true, false, false, false, false, false] rfl rfl (any_of HT_.out (by kernel_rfl)) (fun _ _ _ h => h) (Or.inl ⟨by rfl, ?_⟩) ?_ ?_
                rotate_left
                · intro w'
                  go_simp
                  with_reducible rfl
                rotate_left
                · simp only [Act.put, List.setIfInBounds_toArray, List.set_cons_zero, List.set_cons_succ, i64_w, i32_w]
                  rfl
                refine pure_ (i := 6) (N := some 23) (v := ?_) (a' := ?_) #[false, true, true, true, false, true, true, false, false, false, false] rfl rfl (any_of HT_.out (by kernel_rfl)) (fun _ _ _ h => h) (Or.inl ⟨by rfl, ?_⟩) ?_ ?_
                rotate_left
                · intro w'
                  go_simp
                  with_reducible rfl
                rotate_left
                · simp only [Act.put, List.setIfInBounds_toArray, List.set_cons_zero, List.set_cons_succ, i64_w, i32_w]
                  rfl
                refine pure_ (i := 7) (N := some 24) (v := ?_) (a' := ?_) #[false, true, true, true, false, true, true, true, false, false, false] rfl rfl (any_of HT_.out (by kernel_rfl)) (fun _ _ _ h => h) (Or.inl ⟨by rfl, ?_⟩) ?_ ?_
                rotate_left
                · intro w'
                  go_simp
                  with_reducible rfl
                rotate_left
                · simp only [Act.put, List.setIfInBounds_toArray, List.set_cons_zero, List.set_cons_succ, i64_w, i32_w]
                  rfl
                refine take_ (i := 4) (N := some 21) (v := ?_) (a' := ?_) #[false, true, true, true, true, true, true, true, false, false, false] rfl rfl (take_ofW HT_.out HW_.out (by kernel_rfl)) (fun _ _ _ h => h) (Or.inl ⟨by rfl, ?_⟩) hHeld ?_ ?_
                rotate_left
                · rintro w' ⟨s0, s1, s2, s3, s4, s5, s6, s7, s8, s9⟩
                  go_simp
                  with_reducible rfl
                rotate_left
                · simp only [Act.put, List.setIfInBounds_toArray, List.set_cons_zero, List.set_cons_succ, i64_w, i32_w]
                  rfl
                refine take_ (i := 8) (N := some 25) (v := ?_) (a' := ?_) #[false, true, true, true, true, true, true, true, true, false, false] rfl rfl (take_ofW HT_.out HW_.out (by kernel_rfl)) (fun _ _ _ h => h) (Or.inl ⟨by rfl, ?_⟩) hHeld ?_ ?_
                rotate_left
                · rintro w' ⟨s0, s1, s2, s3, s4, s5, s6, s7, s8, s9⟩
                  go_simp
                  with_reducible rfl
                rotate_left
                · simp only [Act.put, List.setIfInBounds_toArray, List.set_cons_zero, List.set_cons_succ, i64_w, i32_w]
                  rfl
                refine one_ (i := 0) (N := some 17) #[true, true, true, true, true, true, true, true, true, false, false] rfl rfl (one_of HT_.out (by kernel_rfl)) (by decide) (fun K hK => ?_)
                refine Kd.R_lit_step k125 _ 125 ?hg (N := 17) ?hd (xs := ([] : List (S125))) (inner := []) (ok := fun _ => True) (okp := fun _ => True) ?hr ?hp (fun _ hk => hk) trivial (Below.refl _ _) (Nat.le_refl _) (by simp) ?_; (case hd => rfl); (case hg => rfl); (case hr => first | (go_simp; done) | (go_simp; rfl)); (case hp => exact (Reps.none _ _))
                intro v3130 w15 ho16 hb hg_ hnew_
                clear hg_ hnew_
                (first | rw [← Ny3129.out] at ho16 | (simp only [Int.reduceToNat] at ho16; rw [← Ny3129.out] at ho16))
                have n0_ := Aside0.mk (Kd.R_lower ho16 (below_size (by repeat (first | (with_reducible first | exact HB.out | apply below_alloc | apply pw_below_drewN | apply below_drew1) | exact HB.out))))
                have n1_ := Aside0.mk (below_step (by repeat (first | (with_reducible first | exact HB.out | apply below_alloc | apply pw_below_drewN | apply below_drew1) | exact HB.out)) hb)
                clear HB
                have HO3131 := n0_
                have HB := n1_
                clear n0_ n1_
                clear hb ho16
                obtain ⟨Ao17, co17, eo17⟩ := Kd.R_slice HO3131.out
                (first | subst eo17 | (injection eo17 with f1_ f2_ f3_; have f4_ := f1_.symm; have f5_ := f3_.symm; clear f1_ f2_ f3_; subst f4_; subst f5_))
                refine hK.out _ _ ⟨((HB.out.cell (World.block_lt_of_cell? w _ hw3132_0)).trans hw3132_0), ((HB.out.cell (World.block_lt_of_cell? w _ hw3132_1)).trans hw3132_1), ((HB.out.cell (World.block_lt_of_cell? w _ hw3132_2)).trans hw3132_2), ((HB.out.cell (World.block_lt_of_cell? w _ hw3132_3)).trans hw3132_3), ((HB.out.cell (World.block_lt_of_cell? w _ hw3132_4)).trans hw3132_4), ((HB.out.cell (World.block_lt_of_cell? w _ hw3133_0)).trans hw3133_0), ((HB.out.cell (World.block_lt_of_cell? w _ hw3133_1)).trans hw3133_1), ((HB.out.cell (World.block_lt_of_cell? w _ hw3133_2)).trans hw3133_2), ((HB.out.cell (World.block_lt_of_cell? w _ hw3133_3)).trans hw3133_3), ((HB.out.cell (World.block_lt_of_cell? w _ hw3133_4)).trans hw3133_4)⟩ (fun hHeld => ?_)
                clear hK K
                refine norm_ (a' := ?_) ?_ ?_
                rotate_left
                · show Act.put _ (some 17) _ = _
                  simp only [Act.put, List.setIfInBounds_toArray, List.set_cons_zero, List.set_cons_succ, i64_w, i32_w]
                  rfl
                refine one_ (i := 9) (N := some 26) #[true, true, true, true, true, true, true, true, true, true, false] rfl rfl (one_of HT_.out (by kernel_rfl)) (by decide) (fun K hK => ?_)
                refine goes_ Try.func42 (by kernel_rfl) rfl #[.slice Ao17 y3129.length co17, .agg #[.int .i64 ((rd_T51 l0 x5_1).f0), .string ((rd_T51 l0 x5_1).f1), .bool ((rd_T51 l0 x5_1).f2), .slice A3132_3 ((rd_T51 l0 x5_1).f3).length c3132_3, .slice A3132_4 ((rd_T51 l0 x5_1).f4).length c3132_4], .agg #[.int .i64 ((rd_T51 l1 x5_1).f0), .string ((rd_T51 l1 x5_1).f1), .bool ((rd_T51 l1 x5_1).f2), .slice A3133_3 ((rd_T51 l1 x5_1).f3).length c3133_3, .slice A3133_4 ((rd_T51 l1 x5_1).f4).length c3133_4]] (by rfl) rfl rfl (by (try simp only [List.map_toArray, List.map_cons, List.map_nil]); first | done | rfl | (simp only [List.length_drop, List.length_take]; rfl)) ?_
                with_reducible refine (spec_l5Alpha.calls k1 _ _ y3129 ((rd_T51 l0 x5_1).f0) ((rd_T51 l0 x5_1).f1) ((rd_T51 l0 x5_1).f2) _ _ ((rd_T51 l0 x5_1).f3) _ _ ((rd_T51 l0 x5_1).f4) ((rd_T51 l1 x5_1).f0) ((rd_T51 l1 x5_1).f1) ((rd_T51 l1 x5_1).f2) _ _ ((rd_T51 l1 x5_1).f3) _ _ ((rd_T51 l1 x5_1).f4) false _ ?side1 ?side2 ?side3 ?side4 ?side5 ?side6 ?side7 ?side8 ?side9 ?side10 A7.out).mono ?_
                (case side1 => repeat (first | exact (Kd.R_reads' HO3131.out).2.2 | (with_reducible refine Kd.C_alloc ?_ _) | (with_reducible refine Kd.C_drewN ?_ _) | (with_reducible refine Kd.C_drew ?_)))
                (case side2 => exact (Kd.R_reads' HO3131.out).2.1)
                (case side3 => repeat (first | exact (Kd.C_below HR3132_3.out HB.out) | (with_reducible refine Kd.C_alloc ?_ _) | (with_reducible refine Kd.C_drewN ?_ _) | (with_reducible refine Kd.C_drew ?_)))
                (case side4 => exact HC3132_3.out)
                (case side5 => repeat (first | exact (Kd.C_below HR3132_4.out HB.out) | (with_reducible refine Kd.C_alloc ?_ _) | (with_reducible refine Kd.C_drewN ?_ _) | (with_reducible refine Kd.C_drew ?_)))
                (case side6 => exact HC3132_4.out)
                (case side7 => repeat (first | exact (Kd.C_below HR3133_3.out HB.out) | (with_reducible refine Kd.C_alloc ?_ _) | (with_reducible refine Kd.C_drewN ?_ _) | (with_reducible refine Kd.C_drew ?_)))
                (case side8 => exact HC3133_3.out)
                (case side9 => repeat (first | exact (Kd.C_below HR3133_4.out HB.out) | (with_reducible refine Kd.C_alloc ?_ _) | (with_reducible refine Kd.C_drewN ?_ _) | (with_reducible refine Kd.C_drew ?_)))
                (case side10 => exact HC3133_4.out)
                rintro e w18 ⟨rfl, hb⟩
                refine ⟨_, rfl, ?_⟩
                have n0_ := Aside0.mk (Kd.R_below (by (with_reducible repeat (first | apply Kd.R_alloc | apply Kd.R_drewN | apply Kd.R_drew)); exact HO3131.out) hb)
                have n1_ := Aside0.mk (below_step (by repeat (first | (with_reducible first | exact HB.out | apply below_alloc | apply pw_below_drewN | apply below_drew1) | exact HB.out)) hb)
                clear HO3131
                clear HB
                have HO3131 := n0_
                have HB := n1_
                clear n0_ n1_
                (try clear hb)
                (try clear hb2)
                (try clear hk)
                (try clear hi)
                refine hK.out _ _ ⟨((HB.out.cell (World.block_lt_of_cell? w _ hw3132_0)).trans hw3132_0), ((HB.out.cell (World.block_lt_of_cell? w _ hw3132_1)).trans hw3132_1), ((HB.out.cell (World.block_lt_of_cell? w _ hw3132_2)).trans hw3132_2), ((HB.out.cell (World.block_lt_of_cell? w _ hw3132_3)).trans hw3132_3), ((HB.out.cell (World.block_lt_of_cell? w _ hw3132_4)).trans hw3132_4), ((HB.out.cell (World.block_lt_of_cell? w _ hw3133_0)).trans hw3133_0), ((HB.out.cell (World.block_lt_of_cell? w _ hw3133_1)).trans hw3133_1), ((HB.out.cell (World.block_lt_of_cell? w _ hw3133_2)).trans hw3133_2), ((HB.out.cell (World.block_lt_of_cell? w _ hw3133_3)).trans hw3133_3), ((HB.out.cell (World.block_lt_of_cell? w _ hw3133_4)).trans hw3133_4)⟩ (fun hHeld => ?_)
                clear hK K
                refine norm_ (a' := ?_) ?_ ?_
                rotate_left
                · show Act.put _ (some 26) _ = _
                  simp only [Act.put, List.setIfInBounds_toArray, List.set_cons_zero, List.set_cons_succ, i64_w, i32_w]
                  rfl
                refine pure_ (i := 10) (N := some 27) (v := ?_) (a' := ?_) #[true, true, true, true, true, true, true, true, true, true, true] rfl rfl (any_of HT_.out (by kernel_rfl)) (fun _ _ _ h => h) (Or.inl ⟨by rfl, ?_⟩) ?_ ?_
                rotate_left
                · intro w'
                  go_simp
                  with_reducible rfl
                rotate_left
                · simp only [Act.put, List.setIfInBounds_toArray, List.set_cons_zero, List.set_cons_succ, i64_w, i32_w]
                  rfl
                refine done_ (done_of HT_.out (by kernel_rfl)) ?_
                try go_wp2
                go_ret
                exact ⟨by first | rfl | (simp [errW_none, errW_some] <;> rfl) | (simp [*, errW_none, errW_some] <;> rfl), by repeat (first | (with_reducible first | exact HB.out | apply below_alloc | apply pw_below_drewN | apply below_drew1) | exact HB.out)⟩
            · rw [if_neg c6] at H
              exact absurd H (by simp)
          · rw [if_neg c5] at H
            exact absurd H (by simp)
        · rw [if_neg c4] at H
          have c4b0 : decide (x5_1 < (l0.length : Int)) = false := decide_eq_false c4
          clear c4
          obtain rfl := Option.some.inj H
          go_wp2
          go_ret
          exact ⟨by first | rfl | (simp [errW_none, errW_some] <;> rfl) | (simp [*, errW_none, errW_some] <;> rfl), by repeat (first | (with_reducible first | exact HB.out | apply below_alloc | apply pw_below_drewN | apply below_drew1) | exact HB.out)⟩
  · rw [if_neg c3] at H
    have c3b0 : ((l0.length : Int) == (l1.length : Int)) = false := beq_eq_false_iff_ne.mpr c3
    have c3b1 : ((l0.length : Int) != (l1.length : Int)) = true := bne_iff_ne.mpr c3
    have c3b2 : (l0.length == l1.length) = false := by first | simpa using c3 | (simp at c3 ⊢; omega)
    obtain rfl := Option.some.inj H
    go_enter Try.func13, Try.ntmps13
    go_wp2
    go_ret
    exact ⟨by first | rfl | (simp [errW_none, errW_some] <;> rfl) | (simp [*, errW_none, errW_some] <;> rfl), by repeat (first | (with_reducible first | exact HB.out | apply below_alloc | apply pw_below_drewN | apply below_drew1) | exact HB.out)⟩

/-! ### laws_toStringS: function 55 -/
def laws_toStringS.l0 : Nat → List ByteArray → List ByteArray → Int → Option (List ByteArray)
  | 0, _, _, _ => none
  | k + 1, x0, x3, x4 => if x4 < (x0.length : Int) then (if 0 ≤ x4 then (if x4 < (x3.length : Int) then (laws_toStringS.l0 k x0 (x3.set (x4 : Int).toNat (rdOf ByteArray.empty x0 x4)) (wrap64 (x4 + 1))) else (none)) else (none)) else (some x3)
def laws_toStringS.f (k : Nat) (l0 : List ByteArray) : Option (List ByteArray) := if 0 ≤ (l0.length : Int) then (if ((l0.length : Int) : Int).toNat ≤ 17592186044416 then (laws_toStringS.l0 k l0 (List.replicate ((l0.length : Int) : Int).toNat (⟨#[]⟩ : ByteArray)) 0) else (none)) else (none)
theorem laws_toStringS.mono_l : ∀ k, (∀ y0 y1 y2, LeO (laws_toStringS.l0 k y0 y1 y2) (laws_toStringS.l0 (k + 1) y0 y1 y2))
  | 0 => fun _ _ _ r h => by simp [laws_toStringS.l0] at h
  | k + 1 => by
    have ih0 := laws_toStringS.mono_l k
    · intro y0 y1 y2
      unfold laws_toStringS.l0
      repeat' first
      | (with_reducible exact ih0 _ _ _)
      | (with_reducible exact LeO.refl _)
      | (with_reducible exact LeO.none _)
      | (with_reducible refine LeO.ite ?_ ?_)
      | (with_reducible refine LeO.bind ?_ (fun _ => ?_))
      | exact ih0 _ _ _
      | exact LeO.none _
      | refine LeO.ite ?_ ?_
      | refine LeO.bind ?_ (fun _ => ?_)
theorem laws_toStringS.mono : ∀ a0 k, LeO (laws_toStringS.f k a0) (laws_toStringS.f (k + 1) a0) := by
  intro a0 k
  have ih0 := laws_toStringS.mono_l k
  unfold laws_toStringS.f
  repeat' first
      | (with_reducible exact ih0 _ _ _)
      | (with_reducible exact LeO.refl _)
      | (with_reducible exact LeO.none _)
      | (with_reducible refine LeO.ite ?_ ?_)
      | (with_reducible refine LeO.bind ?_ (fun _ => ?_))
      | exact ih0 _ _ _
      | exact LeO.none _
      | refine LeO.ite ?_ ?_
      | refine LeO.bind ?_ (fun _ => ?_)
set_option maxHeartbeats 8000000 in
set_option maxRecDepth 100000 in
theorem laws_toStringS.calls (k : Nat) (A0 : Option Addr) (c0 : Nat) (l0 : List ByteArray) (r : List ByteArray) (w : World) (hr0 : Kd.C Kd.string w A0 l0.length l0) (hc0 : l0.length ≤ c0) (h : laws_toStringS.f k l0 = some r) :
    Calls Try.prog 55 #[.slice A0 l0.length c0] w fun e w' => ∃ v0_ : Value, e = .returned (v0_) ∧ Kd.R Kd.string 9 w' w.heap.size (fun _ => True) v0_ r ∧ Below w.heap.size w w' := by
  have HR0 := Aside0.mk hr0
  have HC0 := Aside0.mk hc0
  clear hr0 hc0
  have HB := Aside0.mk (Below.refl w.heap.size w)
  have H : (if 0 ≤ (l0.length : Int) then (if ((l0.length : Int) : Int).toNat ≤ 17592186044416 then (laws_toStringS.l0 k l0 (List.replicate ((l0.length : Int) : Int).toNat (⟨#[]⟩ : ByteArray)) 0) else (none)) else (none)) = some r := h
  clear h
  by_cases c2 : 0 ≤ (l0.length : Int)
  · rw [if_pos c2] at H
    have c2b0 := eq_true c2
    have c2b1 : decide (0 ≤ (l0.length : Int)) = true := decide_eq_true c2
    clear c2
    by_cases c3 : ((l0.length : Int) : Int).toNat ≤ 17592186044416
    · rw [if_pos c3] at H
      have c3b0 := eq_true c3
      have c3b1 : decide (((l0.length : Int) : Int).toNat ≤ 17592186044416) = true := decide_eq_true c3
      clear c3
      obtain ⟨y3135, hy3135⟩ : ∃ y_ : List ByteArray, y_ = (List.replicate ((l0.length : Int) : Int).toNat (⟨#[]⟩ : ByteArray)) := ⟨_, rfl⟩
      replace H : (laws_toStringS.l0 k l0 y3135 0) = some r := by first | (rw [hy3135]; with_reducible exact H) | (have H2_ := (Option.bind_some _ _).symm.trans H; rw [hy3135]; with_reducible exact H2_) | (have H2_ := (Option.bind_some _ _).symm.trans H; with_reducible exact H2_) | with_reducible exact H | (rw [hy3135]; exact H) | exact H
      have Ny3135 := Aside0.mk hy3135
      clear hy3135
      have H' := Aside0.mk H
      clear H
      go_enter Try.func55, Try.ntmps55
      go_wp2_with (first | ((with_reducible refine gate_dst (N := 7) rfl ?_); refine Kd.R_make Kd.string _ 9 rfl (N := 7) rfl 45 _ _ rfl (l0.length : Int) rfl rfl Try.underlying45 (.string ⟨#[]⟩) 16 info9 rfl (by decide) (by omega) (⟨#[]⟩ : ByteArray) (ok := fun _ => True) (okp := fun _ => True) rfl (fun _ hk => hk) trivial (of_decide_eq_true (by first | (with_reducible assumption) | assumption)) (Nat.le_trans (Nat.mul_le_mul_right _ (of_decide_eq_true (by first | (with_reducible assumption) | assumption) : (l0.length : Int).toNat ≤ 17592186044416)) (by omega)) (Below.refl _ _) (Nat.le_refl _) ?_; intro v3136 w4 ho5 hb hg_ hnew_; clear hg_ hnew_; (first | rw [← Ny3135.out] at ho5 | (simp only [Int.reduceToNat] at ho5; rw [← Ny3135.out] at ho5)); have n0_ := Aside0.mk (Kd.R_lower ho5 (below_size (by repeat (first | (with_reducible first | exact HB.out | apply below_alloc | apply pw_below_drewN | apply below_drew1) | exact HB.out)))); have n1_ := Aside0.mk (below_step (by repeat (first | (with_reducible first | exact HB.out | apply below_alloc | apply pw_below_drewN | apply below_drew1) | exact HB.out)) hb); clear HB; have HO3137 := n0_; have HB := n1_; clear n0_ n1_; clear hb ho5))
      go_loopg [4] k (fun kq v4 w' => ∃ (x3_1 : List ByteArray) (x4_1 : Int), v4 = .int .i64 x4_1 ∧ Aside0 (laws_toStringS.l0 kq l0 x3_1 x4_1 = some r) ∧ Aside0 (kq ≤ k) ∧ Aside0 (Kd.R Kd.string 9 w' w.heap.size (fun _ => True) v3136 x3_1) ∧ Aside0 (Below w.heap.size w w'))
      case atStart => exact ⟨(y3135), (0), (by first | rfl | (simp; done) | (simp [*]; done)), H', ⟨Nat.le_refl _⟩, ⟨by (with_reducible repeat (first | apply Kd.R_alloc | apply Kd.R_drewN | apply Kd.R_drew)); exact HO3137.out⟩, ⟨by repeat (first | (with_reducible first | exact HB.out | apply below_alloc | apply pw_below_drewN | apply below_drew1) | exact HB.out)⟩⟩
      case round =>
        clear H'
        try clear c2
        try clear c2b0
        try clear c2b1
        try clear p2
        try clear c3
        try clear c3b0
        try clear c3b1
        try clear c5
        obtain ⟨x3_1, x4_1, rfl, HA, HK1, HO_3, HB⟩ := hrel
        cases gk with
        | zero => exact absurd HA.out (by simp [laws_toStringS.l0])
        | succ k1 =>
          have H := HA.out
          clear HA
          simp only [laws_toStringS.l0] at H
          by_cases c6 : x4_1 < (l0.length : Int)
          · rw [if_pos c6] at H
            have c6b0 : decide (x4_1 < (l0.length : Int)) = true := decide_eq_true c6
            clear c6
            by_cases c7 : 0 ≤ x4_1
            · rw [if_pos c7] at H
              have c7b0 : decide (0 ≤ x4_1) = true := decide_eq_true c7
              clear c7
              by_cases c8 : x4_1 < (x3_1.length : Int)
              · rw [if_pos c8] at H
                have c8b0 : decide (x4_1 < (x3_1.length : Int)) = true := decide_eq_true c8
                clear c8
                obtain ⟨y3139, hy3139⟩ : ∃ y_ : List ByteArray, y_ = (x3_1.set (x4_1 : Int).toNat (rdOf ByteArray.empty l0 x4_1)) := ⟨_, rfl⟩
                replace H : (laws_toStringS.l0 k1 l0 y3139 (wrap64 (x4_1 + 1))) = some r := by first | (rw [hy3139]; with_reducible exact H) | (have H2_ := (Option.bind_some _ _).symm.trans H; rw [hy3139]; with_reducible exact H2_) | (have H2_ := (Option.bind_some _ _).symm.trans H; with_reducible exact H2_) | with_reducible exact H | (rw [hy3139]; exact H) | exact H
                have Ny3139 := Aside0.mk hy3139
                clear hy3139
                have H' := Aside0.mk H
                clear H
                have p3138 : 0 ≤ (x4_1 : Int) := of_decide_eq_true (by first | (with_reducible assumption) | assumption)
                have q3138 : x4_1 < (l0.length : Int) := of_decide_eq_true (by first | (with_reducible assumption) | assumption)
                obtain ⟨ad3138, e3138, hx3138_0⟩ := Kd.at_string HR0.out x4_1 p3138 q3138
                cases e3138
                replace hx3138_0 := (HB.out.cell (World.block_lt_of_cell? w _ hx3138_0)).trans hx3138_0
                replace p3138 := eq_true p3138
                replace q3138 := eq_true q3138
                have p9 : 0 ≤ (x4_1 : Int) := of_decide_eq_true (by first | (with_reducible assumption) | assumption)
                have q9 : (x4_1 : Int) < ((x3_1.length : Int) : Int) := of_decide_eq_true (by first | (with_reducible assumption) | assumption)
                obtain ⟨go9, co9, eo9, gb9, gl9, cl9, HG9⟩ := Kd.R_form HO_3.out (by omega)
                (first | cases eo9 | (injection eo9 with ea_ en_ ec_; (first | subst ea_ | (injection ea_ with ea_; subst ea_)); subst ec_; clear en_))
                have GB9 := Aside0.mk gb9
                have GG9 := Aside0.mk HG9
                clear gb9 gl9 HG9
                obtain ⟨hx9_0, hf9_0⟩ := Kd.R_celln (⟨#[]⟩ : ByteArray) HO_3.out (x4_1 : Int) p9 q9
                replace p9 := eq_true p9
                replace q9 := eq_true q9
                have HP10 := Kd.R_putg HO_3.out (x4_1 : Int) (rdOf ByteArray.empty l0 x4_1)
                go_wp2_with (first | ((with_reducible refine gate_store (t := 9) (p := 20) rfl ?_); refine store_event (t := 9) (p := 20) (v := ?vo_w11) (w1 := (wr.setCell ⟨go9, (x4_1 : Int).toNat, none⟩ (.string (rdOf ByteArray.empty l0 x4_1)))) ?hg ?ho ?hn ?hr ?_; (case ho => rfl); (case hg => rfl); (case hn => rfl); (case hr => first | (go_simp; done) | (go_simp; rfl)); intro w11 hw; have hg : wr.grownBy w11 (some go9) := (by rw [hw]; exact HP10.2); have hp_ : Kd.R Kd.string 9 w11 w.heap.size (fun _ => True) (.slice (some ⟨go9, 0, none⟩) x3_1.length co9) y3139 := (by rw [hw, Ny3139.out]; exact HP10.1); clear HP10; have n0_ := Aside0.mk (hp_); have n1_ := Aside0.mk ((by rw [hw]; exact below_set (HB.out) GB9.out : Below w.heap.size w w11)); clear HO_3; clear HB; have HO_3 := n0_; have HB := n1_; clear n0_ n1_; clear hg hw hp_))
                go_roundg k1
                case measure => have := HK1.out; omega
                case rel => exact ⟨(y3139), (wrap64 (x4_1 + 1)), (by first | rfl | (simp; done) | (simp [*]; done)), H', ⟨by have := HK1.out; omega⟩, ⟨by (with_reducible repeat (first | apply Kd.R_alloc | apply Kd.R_drewN | apply Kd.R_drew)); exact HO_3.out⟩, ⟨by repeat (first | (with_reducible first | exact HB.out | apply below_alloc | apply pw_below_drewN | apply below_drew1) | exact HB.out)⟩⟩
              · rw [if_neg c8] at H
                exact absurd H (by simp)
            · rw [if_neg c7] at H
              exact absurd H (by simp)
          · rw [if_neg c6] at H
            have c6b0 : decide (x4_1 < (l0.length : Int)) = false := decide_eq_false c6
            clear c6
            obtain rfl := Option.some.inj H
            go_wp2
            go_ret
            exact ⟨_, by first | rfl | (simp [errW_none, errW_some] <;> rfl) | (simp [*, errW_none, errW_some] <;> rfl), by (with_reducible repeat (first | apply Kd.R_alloc | apply Kd.R_drewN | apply Kd.R_drew)); exact HO_3.out, by repeat (first | (with_reducible first | exact HB.out | apply below_alloc | apply pw_below_drewN | apply below_drew1) | exact HB.out)⟩
    · rw [if_neg c3] at H
      exact absurd H (by simp)
  · rw [if_neg c2] at H
    exact absurd H (by simp)

/-! ### laws_toExpCore: function 24 -/
/-! ### laws_toExpCoreS: function 14 -/
mutual
def laws_toExpCore.f : Nat → Int → ByteArray → Bool → List ByteArray → List (S47) → Option (Int × ByteArray × Bool × List ByteArray × (List (S51)))
  | 0, _, _, _, _, _ => none
  | k + 1, a0_0, a0_1, a0_2, l0_3, l0_4 => (laws_toStringS.f k l0_3).bind fun t3143 => ((laws_toExpCoreS.f k l0_4).bind fun t3146 => (some (a0_0, a0_1, a0_2, t3143, t3146)))
def laws_toExpCoreS.l0 : Nat → List (S47) → List (S51) → Int → Option ((List (S51)))
  | 0, _, _, _ => none
  | k + 1, x0, x3, x4 => if x4 < (x0.length : Int) then (if 0 ≤ x4 then ((laws_toExpCore.f k ((rd_T47 x0 x4).f0) ((rd_T47 x0 x4).f1) ((rd_T47 x0 x4).f2) ((rd_T47 x0 x4).f3) ((rd_T47 x0 x4).f4)).bind fun bt6144 => (if x4 < (x3.length : Int) then (laws_toExpCoreS.l0 k x0 (x3.set (x4 : Int).toNat (⟨bt6144.1, bt6144.2.1, bt6144.2.2.1, bt6144.2.2.2.1, bt6144.2.2.2.2⟩ : S51)) (wrap64 (x4 + 1))) else (none))) else (none)) else (some x3)
def laws_toExpCoreS.f : Nat → List (S47) → Option ((List (S51)))
  | 0, _ => none
  | k + 1, l0 => if 0 ≤ (l0.length : Int) then (if ((l0.length : Int) : Int).toNat ≤ 3518437208883 then (laws_toExpCoreS.l0 k l0 (List.replicate ((l0.length : Int) : Int).toNat z51) 0) else (none)) else (none)
end
theorem laws_toExpCore_group.mono_l : ∀ k, (∀ y0 y1 y2 y3 y4, LeO (laws_toExpCore.f k y0 y1 y2 y3 y4) (laws_toExpCore.f (k + 1) y0 y1 y2 y3 y4)) ∧ (∀ y0, LeO (laws_toExpCoreS.f k y0) (laws_toExpCoreS.f (k + 1) y0)) ∧ (∀ y0 y1 y2, LeO (laws_toExpCoreS.l0 k y0 y1 y2) (laws_toExpCoreS.l0 (k + 1) y0 y1 y2))
  | 0 => ⟨fun _ _ _ _ _ r h => by simp [laws_toExpCore.f] at h, fun _ r h => by simp [laws_toExpCoreS.f] at h, fun _ _ _ r h => by simp [laws_toExpCoreS.l0] at h⟩
  | k + 1 => by
    obtain ⟨ih0, ih1, ih2⟩ := laws_toExpCore_group.mono_l k
    refine ⟨?_, ?_, ?_⟩
    · intro y0 y1 y2 y3 y4
      unfold laws_toExpCore.f
      repeat' first
      | (with_reducible exact ih0 _ _ _ _ _)
      | (with_reducible exact ih1 _)
      | (with_reducible exact ih2 _ _ _)
      | (with_reducible exact laws_toStringS.mono _ _)
      | (with_reducible exact LeO.refl _)
      | (with_reducible exact LeO.none _)
      | (with_reducible refine LeO.ite ?_ ?_)
      | (with_reducible refine LeO.bind ?_ (fun _ => ?_))
      | exact ih0 _ _ _ _ _
      | exact ih1 _
      | exact ih2 _ _ _
      | exact laws_toStringS.mono _ _
      | exact LeO.none _
      | refine LeO.ite ?_ ?_
      | refine LeO.bind ?_ (fun _ => ?_)
    · intro y0
      unfold laws_toExpCoreS.f
      repeat' first
      | (with_reducible exact ih0 _ _ _ _ _)
      | (with_reducible exact ih1 _)
      | (with_reducible exact ih2 _ _ _)
      | (with_reducible exact laws_toStringS.mono _ _)
      | (with_reducible exact LeO.refl _)
      | (with_reducible exact LeO.none _)
      | (with_reducible refine LeO.ite ?_ ?_)
      | (with_reducible refine LeO.bind ?_ (fun _ => ?_))
      | exact ih0 _ _ _ _ _
      | exact ih1 _
      | exact ih2 _ _ _
      | exact laws_toStringS.mono _ _
      | exact LeO.none _
      | refine LeO.ite ?_ ?_
      | refine LeO.bind ?_ (fun _ => ?_)
    · intro y0 y1 y2
      unfold laws_toExpCoreS.l0
      repeat' first
      | (with_reducible exact ih0 _ _ _ _ _)
      | (with_reducible exact ih1 _)
      | (with_reducible exact ih2 _ _ _)
      | (with_reducible exact laws_toStringS.mono _ _)
      | (with_reducible exact LeO.refl _)
      | (with_reducible exact LeO.none _)
      | (with_reducible refine LeO.ite ?_ ?_)
      | (with_reducible refine LeO.bind ?_ (fun _ => ?_))
      | exact ih0 _ _ _ _ _
      | exact ih1 _
      | exact ih2 _ _ _
      | exact laws_toStringS.mono _ _
      | exact LeO.none _
      | refine LeO.ite ?_ ?_
      | refine LeO.bind ?_ (fun _ => ?_)
theorem laws_toExpCore.mono : ∀ a0 a1 a2 a3 a4 k, LeO (laws_toExpCore.f k a0 a1 a2 a3 a4) (laws_toExpCore.f (k + 1) a0 a1 a2 a3 a4) := by
  intro a0 a1 a2 a3 a4 k
  obtain ⟨ih0, ih1, ih2⟩ := laws_toExpCore_group.mono_l k
  exact ih0 a0 a1 a2 a3 a4
theorem laws_toExpCoreS.mono : ∀ a0 k, LeO (laws_toExpCoreS.f k a0) (laws_toExpCoreS.f (k + 1) a0) := by
  intro a0 k
  obtain ⟨ih0, ih1, ih2⟩ := laws_toExpCore_group.mono_l k
  exact ih1 a0
abbrev laws_toExpCore.Spec (k : Nat) : Prop := ∀ (a0_0 : Int) (a0_1 : ByteArray) (a0_2 : Bool) (A0_3 : Option Addr) (c0_3 : Nat) (l0_3 : List ByteArray) (A0_4 : Option Addr) (c0_4 : Nat) (l0_4 : List (S47)) (r1 : Int) (r2 : ByteArray) (r3 : Bool) (r4 : List ByteArray) (r5 : List (S51)) (w : World) (hr0_3 : Kd.C Kd.string w A0_3 l0_3.length l0_3) (hc0_3 : l0_3.length ≤ c0_3) (hr0_4 : Kd.C k47 w A0_4 l0_4.length l0_4) (hc0_4 : l0_4.length ≤ c0_4) (h : laws_toExpCore.f k a0_0 a0_1 a0_2 l0_3 l0_4 = some (r1, r2, r3, r4, r5)),
    Calls Try.prog 24 #[.agg #[.int .i64 a0_0, .string a0_1, .bool a0_2, .slice A0_3 l0_3.length c0_3, .slice A0_4 l0_4.length c0_4]] w fun e w' => ∃ v3_ v4_ : Value, e = .returned (.agg #[.int .i64 r1, .string r2, .bool r3, v3_, v4_]) ∧ Kd.R Kd.string 9 w' w.heap.size (fun _ => True) v3_ r4 ∧ Kd.R k51 51 w' w.heap.size (fun k_ => some k_ ≠ (v3_ : Value).ownBlock) v4_ r5 ∧ Below w.heap.size w w'
abbrev laws_toExpCoreS.Spec (k : Nat) : Prop := ∀ (A0 : Option Addr) (c0 : Nat) (l0 : List (S47)) (r : List (S51)) (w : World) (hr0 : Kd.C k47 w A0 l0.length l0) (hc0 : l0.length ≤ c0) (h : laws_toExpCoreS.f k l0 = some r),
    Calls Try.prog 14 #[.slice A0 l0.length c0] w fun e w' => ∃ v0_ : Value, e = .returned (v0_) ∧ Kd.R k51 51 w' w.heap.size (fun _ => True) v0_ r ∧ Below w.heap.size w w'
set_option maxHeartbeats 8000000 in
set_option maxRecDepth 100000 in
theorem laws_toExpCore.step (k : Nat) (ih24 : ∀ m, m < k → laws_toExpCore.Spec m) (ih14 : ∀ m, m < k → laws_toExpCoreS.Spec m) : ∀ (a0_0 : Int) (a0_1 : ByteArray) (a0_2 : Bool) (A0_3 : Option Addr) (c0_3 : Nat) (l0_3 : List ByteArray) (A0_4 : Option Addr) (c0_4 : Nat) (l0_4 : List (S47)) (r1 : Int) (r2 : ByteArray) (r3 : Bool) (r4 : List ByteArray) (r5 : List (S51)) (w : World) (hr0_3 : Kd.C Kd.string w A0_3 l0_3.length l0_3) (hc0_3 : l0_3.length ≤ c0_3) (hr0_4 : Kd.C k47 w A0_4 l0_4.length l0_4) (hc0_4 : l0_4.length ≤ c0_4) (h : laws_toExpCore.f k a0_0 a0_1 a0_2 l0_3 l0_4 = some (r1, r2, r3, r4, r5)),
    Calls Try.prog 24 #[.agg #[.int .i64 a0_0, .string a0_1, .bool a0_2, .slice A0_3 l0_3.length c0_3, .slice A0_4 l0_4.length c0_4]] w fun e w' => ∃ v3_ v4_ : Value, e = .returned (.agg #[.int .i64 r1, .string r2, .bool r3, v3_, v4_]) ∧ Kd.R Kd.string 9 w' w.heap.size (fun _ => True) v3_ r4 ∧ Kd.R k51 51 w' w.heap.size (fun k_ => some k_ ≠ (v3_ : Value).ownBlock) v4_ r5 ∧ Below w.heap.size w w' := by
  intro a0_0 a0_1 a0_2 A0_3 c0_3 l0_3 A0_4 c0_4 l0_4 r1 r2 r3 r4 r5 w hr0_3 hc0_3 hr0_4 hc0_4 h
  cases k with
  | zero => exact absurd h (by simp [laws_toExpCore.f])
  | succ k =>
  simp only [laws_toExpCore.f] at h
  have hu47 := Try.underlying47
  have hu51 := Try.underlying51
  have HR0_3 := Aside0.mk hr0_3
  have HC0_3 := Aside0.mk hc0_3
  clear hr0_3 hc0_3
  have HR0_4 := Aside0.mk hr0_4
  have HC0_4 := Aside0.mk hc0_4
  clear hr0_4 hc0_4
  have HB := Aside0.mk (Below.refl w.heap.size w)
  have H : ((laws_toStringS.f k l0_3).bind fun t3143 => ((laws_toExpCoreS.f k l0_4).bind fun t3146 => (some (a0_0, a0_1, a0_2, t3143, t3146)))) = some (r1, r2, r3, r4, r5) := h
  clear h
  replace H := Option.bind_eq_some_iff.mp H
  obtain ⟨t3143, A20, H⟩ := H
  replace H : ((laws_toExpCoreS.f k l0_4).bind fun t3146 => (some (a0_0, a0_1, a0_2, t3143, t3146))) = some (r1, r2, r3, r4, r5) := H
  have A2 := Aside0.mk A20
  clear A20
  replace H := Option.bind_eq_some_iff.mp H
  obtain ⟨t3146, A30, H⟩ := H
  replace H : (some (a0_0, a0_1, a0_2, t3143, t3146)) = some (r1, r2, r3, r4, r5) := H
  have A3 := Aside0.mk A30
  clear A30
  simp only [Option.some.injEq, Prod.mk.injEq] at H
  obtain ⟨rfl, rfl, rfl, rfl, rfl⟩ := H
  go_enter Try.func24, Try.ntmps24
  go_wp2_with (first | ((with_reducible refine gate_dst (N := 1) rfl ?_); refine box_event ?hg (N := 1) ?hd (cs := #[.int .i64 a0_0, .string a0_1, .bool a0_2, .slice A0_3 l0_3.length c0_3, .slice A0_4 l0_4.length c0_4]) (t := 47) ?hr ?_; (case hd => rfl); (case hg => rfl); (case hr => first | (go_simp; done) | (go_simp; rfl)); intro gb3140 hg w4 hbox hb; have n0_ := Aside0.mk (below_step (by repeat (first | (with_reducible first | exact HB.out | apply below_alloc | apply pw_below_drewN | apply below_drew1) | exact HB.out)) hb); have n1_ := Aside0.mk (hbox); have n2_ := Aside0.mk ((by rw [hg]; exact (below_size (by repeat (first | (with_reducible first | exact HB.out | apply below_alloc | apply pw_below_drewN | apply below_drew1) | exact HB.out))) : w.heap.size ≤ gb3140)); have n3_ := Aside0.mk ((by rw [hg]; exact (below_size (by repeat (first | (with_reducible first | exact HB.out | apply below_alloc | apply pw_below_drewN | apply below_drew1) | exact HB.out))) : w.heap.size ≤ gb3140)); clear HB; have HB := n0_; have BK3140 := n1_; have GW3140 := n2_; have GE3140 := n3_; clear n0_ n1_ n2_ n3_; clear hb hbox hg) | ((with_reducible refine gate_dst (N := 2) rfl ?_); refine box_event ?hg (N := 2) ?hd (cs := #[.int .i64 0, .string (⟨#[]⟩ : ByteArray), .bool false, .slice none 0 0, .slice none 0 0]) (t := 51) ?hr ?_; (case hd => rfl); (case hg => rfl); (case hr => first | (go_simp; done) | (go_simp; rfl)); intro gb3141 hg w5 hbox hb; have n0_ := Aside0.mk (blk_below (g := gb3140) (o := .cells #[.int .i64 a0_0, .string a0_1, .bool a0_2, .slice A0_3 l0_3.length c0_3, .slice A0_4 l0_4.length c0_4] 47 (0, 0)) (by (with_reducible repeat (first | refine blk_drewN ?_ _ | refine blk_drew ?_ | refine blk_alloc ?_ _)); exact BK3140.out) hb); have n1_ := Aside0.mk (below_step (by repeat (first | (with_reducible first | exact HB.out | apply below_alloc | apply pw_below_drewN | apply below_drew1 | refine below_set ?_ GE3140.out) | exact HB.out)) hb); have n2_ := Aside0.mk (hbox); have n3_ := Aside0.mk ((by rw [hg]; exact (below_size (by repeat (first | (with_reducible first | exact HB.out | apply below_alloc | apply pw_below_drewN | apply below_drew1 | refine below_set ?_ GE3140.out) | exact HB.out))) : w.heap.size ≤ gb3141)); have n4_ := Aside0.mk ((by rw [hg]; exact (below_size (by repeat (first | (with_reducible first | exact HB.out | apply below_alloc | apply pw_below_drewN | apply below_drew1 | refine below_set ?_ GE3140.out) | exact HB.out))) : w.heap.size ≤ gb3141)); have n5_ := Aside0.mk ((by rw [hg]; exact Nat.ne_of_lt (blk_lt (g := gb3140) (o := .cells #[.int .i64 a0_0, .string a0_1, .bool a0_2, .slice A0_3 l0_3.length c0_3, .slice A0_4 l0_4.length c0_4] 47 (0, 0)) (by (with_reducible repeat (first | refine blk_drewN ?_ _ | refine blk_drew ?_ | refine blk_alloc ?_ _)); exact BK3140.out)) : gb3140 ≠ gb3141)); have n6_ := Aside0.mk ((by rw [hg]; exact Nat.ne_of_gt (blk_lt (g := gb3140) (o := .cells #[.int .i64 a0_0, .string a0_1, .bool a0_2, .slice A0_3 l0_3.length c0_3, .slice A0_4 l0_4.length c0_4] 47 (0, 0)) (by (with_reducible repeat (first | refine blk_drewN ?_ _ | refine blk_drew ?_ | refine blk_alloc ?_ _)); exact BK3140.out)) : gb3141 ≠ gb3140)); clear BK3140; clear HB; have BK3140 := n0_; have HB := n1_; have BK3141 := n2_; have GW3141 := n3_; have GE3141 := n4_; have NB3140_3141 := n5_; have NB3141_3140 := n6_; clear n0_ n1_ n2_ n3_ n4_ n5_ n6_; clear hb hbox hg) | ((with_reducible refine gate_dst (N := 3) rfl ?_); refine box_event ?hg (N := 3) ?hd (cs := #[.int .i64 0, .string (⟨#[]⟩ : ByteArray), .bool false, .slice none 0 0, .slice none 0 0]) (t := 51) ?hr ?_; (case hd => rfl); (case hg => rfl); (case hr => first | (go_simp; done) | (go_simp; rfl)); intro gb3142 hg w6 hbox hb; have n0_ := Aside0.mk (blk_below (g := gb3140) (o := .cells #[.int .i64 a0_0, .string a0_1, .bool a0_2, .slice A0_3 l0_3.length c0_3, .slice A0_4 l0_4.length c0_4] 47 (0, 0)) (by (with_reducible repeat (first | refine blk_drewN ?_ _ | refine blk_drew ?_ | refine blk_alloc ?_ _)); exact BK3140.out) hb); have n1_ := Aside0.mk (blk_below (g := gb3141) (o := .cells #[.int .i64 0, .string (⟨#[]⟩ : ByteArray), .bool false, .slice none 0 0, .slice none 0 0] 51 (0, 0)) (by (with_reducible repeat (first | refine blk_drewN ?_ _ | refine blk_drew ?_ | refine blk_alloc ?_ _)); exact BK3141.out) hb); have n2_ := Aside0.mk (below_step (by repeat (first | (with_reducible first | exact HB.out | apply below_alloc | apply pw_below_drewN | apply below_drew1 | refine below_set ?_ GE3140.out | refine below_set ?_ GE3141.out) | exact HB.out)) hb); have n3_ := Aside0.mk (hbox); have n4_ := Aside0.mk ((by rw [hg]; exact (below_size (by repeat (first | (with_reducible first | exact HB.out | apply below_alloc | apply pw_below_drewN | apply below_drew1 | refine below_set ?_ GE3140.out | refine below_set ?_ GE3141.out) | exact HB.out))) : w.heap.size ≤ gb3142)); have n5_ := Aside0.mk ((by rw [hg]; exact (below_size (by repeat (first | (with_reducible first | exact HB.out | apply below_alloc | apply pw_below_drewN | apply below_drew1 | refine below_set ?_ GE3140.out | refine below_set ?_ GE3141.out) | exact HB.out))) : w.heap.size ≤ gb3142)); have n6_ := Aside0.mk ((by rw [hg]; exact Nat.ne_of_lt (blk_lt (g := gb3140) (o := .cells #[.int .i64 a0_0, .string a0_1, .bool a0_2, .slice A0_3 l0_3.length c0_3, .slice A0_4 l0_4.length c0_4] 47 (0, 0)) (by (with_reducible repeat (first | refine blk_drewN ?_ _ | refine blk_drew ?_ | refine blk_alloc ?_ _)); exact BK3140.out)) : gb3140 ≠ gb3142)); have n7_ := Aside0.mk ((by rw [hg]; exact Nat.ne_of_gt (blk_lt (g := gb3140) (o := .cells #[.int .i64 a0_0, .string a0_1, .bool a0_2, .slice A0_3 l0_3.length c0_3, .slice A0_4 l0_4.length c0_4] 47 (0, 0)) (by (with_reducible repeat (first | refine blk_drewN ?_ _ | refine blk_drew ?_ | refine blk_alloc ?_ _)); exact BK3140.out)) : gb3142 ≠ gb3140)); have n8_ := Aside0.mk ((by rw [hg]; exact Nat.ne_of_lt (blk_lt (g := gb3141) (o := .cells #[.int .i64 0, .string (⟨#[]⟩ : ByteArray), .bool false, .slice none 0 0, .slice none 0 0] 51 (0, 0)) (by (with_reducible repeat (first | refine blk_drewN ?_ _ | refine blk_drew ?_ | refine blk_alloc ?_ _)); exact BK3141.out)) : gb3141 ≠ gb3142)); have n9_ := Aside0.mk ((by rw [hg]; exact Nat.ne_of_gt (blk_lt (g := gb3141) (o := .cells #[.int .i64 0, .string (⟨#[]⟩ : ByteArray), .bool false, .slice none 0 0, .slice none 0 0] 51 (0, 0)) (by (with_reducible repeat (first | refine blk_drewN ?_ _ | refine blk_drew ?_ | refine blk_alloc ?_ _)); exact BK3141.out)) : gb3142 ≠ gb3141)); clear BK3140; clear BK3141; clear HB; have BK3140 := n0_; have BK3141 := n1_; have HB := n2_; have BK3142 := n3_; have GW3142 := n4_; have GE3142 := n5_; have NB3140_3142 := n6_; have NB3142_3140 := n7_; have NB3141_3142 := n8_; have NB3142_3141 := n9_; clear n0_ n1_ n2_ n3_ n4_ n5_ n6_ n7_ n8_ n9_; clear hb hbox hg; have hnb7 := NB3140_3141.out; have hnc7 := NB3141_3140.out; have hnb8 := NB3140_3142.out; have hnc8 := NB3142_3140.out; have hcz9_0 : w6.cell? ⟨gb3140, 0, none⟩ = some (.int .i64 a0_0) := (blk_cell BK3140.out 0).trans rfl; have hcz9_1 : w6.cell? ⟨gb3140, 1, none⟩ = some (.string a0_1) := (blk_cell BK3140.out 1).trans rfl; have hcz9_2 : w6.cell? ⟨gb3140, 2, none⟩ = some (.bool a0_2) := (blk_cell BK3140.out 2).trans rfl; have hcz9_3 : w6.cell? ⟨gb3140, 3, none⟩ = some (.slice A0_3 l0_3.length c0_3) := (blk_cell BK3140.out 3).trans rfl; have hcz9_4 : w6.cell? ⟨gb3140, 4, none⟩ = some (.slice A0_4 l0_4.length c0_4) := (blk_cell BK3140.out 4).trans rfl; have hfz9_0 := blk_frozen BK3140.out 0; have hfz9_1 := blk_frozen BK3140.out 1; have hfz9_2 := blk_frozen BK3140.out 2; have hfz9_3 := blk_frozen BK3140.out 3; have hfz9_4 := blk_frozen BK3140.out 4; have hnb10 := NB3142_3141.out; have hnc10 := NB3141_3142.out; have hcz11_0 : w6.cell? ⟨gb3142, 0, none⟩ = some (.int .i64 0) := (blk_cell BK3142.out 0).trans rfl; have hcz11_1 : w6.cell? ⟨gb3142, 1, none⟩ = some (.string (⟨#[]⟩ : ByteArray)) := (blk_cell BK3142.out 1).trans rfl; have hcz11_2 : w6.cell? ⟨gb3142, 2, none⟩ = some (.bool false) := (blk_cell BK3142.out 2).trans rfl; have hcz11_3 : w6.cell? ⟨gb3142, 3, none⟩ = some (.slice none 0 0) := (blk_cell BK3142.out 3).trans rfl; have hcz11_4 : w6.cell? ⟨gb3142, 4, none⟩ = some (.slice none 0 0) := (blk_cell BK3142.out 4).trans rfl; have hfz11_0 := blk_frozen BK3142.out 0; have hfz11_1 := blk_frozen BK3142.out 1; have hfz11_2 := blk_frozen BK3142.out 2; have hfz11_3 := blk_frozen BK3142.out 3; have hfz11_4 := blk_frozen BK3142.out 4) | ((with_reducible refine gate_callee (f := 55) rfl ?_); refine goesL_ (some 15) rfl rfl Try.func55 (by kernel_rfl) rfl #[.slice A0_3 l0_3.length c0_3] rfl (by (try simp only [List.map_toArray, List.map_cons, List.map_nil]); first | done | rfl | (simp only [List.length_drop, List.length_take]; rfl)) ?_; (with_reducible refine (laws_toStringS.calls k _ _ l0_3 t3143 _ ?side1 ?side2 A2.out).mono ?_); (case side1 => exact Kd.C_below HR0_3.out (by repeat (first | (with_reducible first | exact HB.out | apply below_alloc | apply pw_below_drewN | apply below_drew1 | refine below_set ?_ GE3140.out | refine below_set ?_ GE3141.out | refine below_set ?_ GE3142.out) | exact HB.out))); (case side2 => exact HC0_3.out); rintro e w12 ⟨v3144, rfl, ho0, hb⟩; refine ⟨_, rfl, ?_⟩; have n0_ := Aside0.mk (Kd.R_lower ho0 (below_size (by repeat (first | (with_reducible first | exact HB.out | apply below_alloc | apply pw_below_drewN | apply below_drew1 | refine below_set ?_ GE3140.out | refine below_set ?_ GE3141.out | refine below_set ?_ GE3142.out) | exact HB.out)))); have n1_ := Aside0.mk (blk_below (g := gb3140) (o := .cells #[.int .i64 a0_0, .string a0_1, .bool a0_2, .slice A0_3 l0_3.length c0_3, .slice A0_4 l0_4.length c0_4] 47 (0, 0)) (by (with_reducible repeat (first | refine blk_drewN ?_ _ | refine blk_drew ?_ | refine blk_alloc ?_ _)); refine blk_far ?_ NB3140_3142.out _; (with_reducible repeat (first | refine blk_drewN ?_ _ | refine blk_drew ?_ | refine blk_alloc ?_ _)); refine blk_far ?_ NB3140_3142.out _; (with_reducible repeat (first | refine blk_drewN ?_ _ | refine blk_drew ?_ | refine blk_alloc ?_ _)); refine blk_far ?_ NB3140_3142.out _; (with_reducible repeat (first | refine blk_drewN ?_ _ | refine blk_drew ?_ | refine blk_alloc ?_ _)); exact BK3140.out) hb); have n2_ := Aside0.mk (blk_below (g := gb3141) (o := .cells #[.int .i64 0, .string (⟨#[]⟩ : ByteArray), .bool false, .slice none 0 0, .slice none 0 0] 51 (0, 0)) (by (with_reducible repeat (first | refine blk_drewN ?_ _ | refine blk_drew ?_ | refine blk_alloc ?_ _)); refine blk_far ?_ NB3141_3142.out _; (with_reducible repeat (first | refine blk_drewN ?_ _ | refine blk_drew ?_ | refine blk_alloc ?_ _)); refine blk_far ?_ NB3141_3142.out _; (with_reducible repeat (first | refine blk_drewN ?_ _ | refine blk_drew ?_ | refine blk_alloc ?_ _)); refine blk_far ?_ NB3141_3142.out _; (with_reducible repeat (first | refine blk_drewN ?_ _ | refine blk_drew ?_ | refine blk_alloc ?_ _)); exact BK3141.out) hb); have n3_ := Aside0.mk (blk_below (g := gb3142) (o := .cells #[.int .i64 a0_0, .string a0_1, .bool a0_2, .slice none 0 0, .slice none 0 0] 51 (0, 0)) (by (with_reducible repeat (first | refine blk_drewN ?_ _ | refine blk_drew ?_ | refine blk_alloc ?_ _)); refine blk_put (cs := #[.int .i64 a0_0, .string a0_1, .bool false, .slice none 0 0, .slice none 0 0]) ?_ 2 _ rfl; (with_reducible repeat (first | refine blk_drewN ?_ _ | refine blk_drew ?_ | refine blk_alloc ?_ _)); refine blk_put (cs := #[.int .i64 a0_0, .string (⟨#[]⟩ : ByteArray), .bool false, .slice none 0 0, .slice none 0 0]) ?_ 1 _ rfl; (with_reducible repeat (first | refine blk_drewN ?_ _ | refine blk_drew ?_ | refine blk_alloc ?_ _)); refine blk_put (cs := #[.int .i64 0, .string (⟨#[]⟩ : ByteArray), .bool false, .slice none 0 0, .slice none 0 0]) ?_ 0 _ rfl; (with_reducible repeat (first | refine blk_drewN ?_ _ | refine blk_drew ?_ | refine blk_alloc ?_ _)); exact BK3142.out) hb); have n4_ := Aside0.mk (below_step (by repeat (first | (with_reducible first | exact HB.out | apply below_alloc | apply pw_below_drewN | apply below_drew1 | refine below_set ?_ GE3140.out | refine below_set ?_ GE3141.out | refine below_set ?_ GE3142.out) | exact HB.out)) hb); clear BK3140; clear BK3141; clear BK3142; clear HB; have HO3145 := n0_; have BK3140 := n1_; have BK3141 := n2_; have BK3142 := n3_; have HB := n4_; clear n0_ n1_ n2_ n3_ n4_; (try clear hb); (try clear hb2); (try clear hk); (try clear hi); (try clear ho0); obtain ⟨Ao13, co13, eo13⟩ := Kd.R_slice HO3145.out; subst eo13; have hcz14_0 : w12.cell? ⟨gb3142, 0, none⟩ = some (.int .i64 a0_0) := (blk_cell BK3142.out 0).trans rfl; have hcz14_1 : w12.cell? ⟨gb3142, 1, none⟩ = some (.string a0_1) := (blk_cell BK3142.out 1).trans rfl; have hcz14_2 : w12.cell? ⟨gb3142, 2, none⟩ = some (.bool a0_2) := (blk_cell BK3142.out 2).trans rfl; have hcz14_3 : w12.cell? ⟨gb3142, 3, none⟩ = some (.slice none 0 0) := (blk_cell BK3142.out 3).trans rfl; have hcz14_4 : w12.cell? ⟨gb3142, 4, none⟩ = some (.slice none 0 0) := (blk_cell BK3142.out 4).trans rfl; have hfz14_0 := blk_frozen BK3142.out 0; have hfz14_1 := blk_frozen BK3142.out 1; have hfz14_2 := blk_frozen BK3142.out 2; have hfz14_3 := blk_frozen BK3142.out 3; have hfz14_4 := blk_frozen BK3142.out 4; have hcz15_0 : w12.cell? ⟨gb3140, 0, none⟩ = some (.int .i64 a0_0) := (blk_cell BK3140.out 0).trans rfl; have hcz15_1 : w12.cell? ⟨gb3140, 1, none⟩ = some (.string a0_1) := (blk_cell BK3140.out 1).trans rfl; have hcz15_2 : w12.cell? ⟨gb3140, 2, none⟩ = some (.bool a0_2) := (blk_cell BK3140.out 2).trans rfl; have hcz15_3 : w12.cell? ⟨gb3140, 3, none⟩ = some (.slice A0_3 l0_3.length c0_3) := (blk_cell BK3140.out 3).trans rfl; have hcz15_4 : w12.cell? ⟨gb3140, 4, none⟩ = some (.slice A0_4 l0_4.length c0_4) := (blk_cell BK3140.out 4).trans rfl; have hfz15_0 := blk_frozen BK3140.out 0; have hfz15_1 := blk_frozen BK3140.out 1; have hfz15_2 := blk_frozen BK3140.out 2; have hfz15_3 := blk_frozen BK3140.out 3; have hfz15_4 := blk_frozen BK3140.out 4) | ((with_reducible refine gate_callee (f := 14) rfl ?_); refine goesL_ (some 19) rfl rfl Try.func14 (by kernel_rfl) rfl #[.slice A0_4 l0_4.length c0_4] rfl (by (try simp only [List.map_toArray, List.map_cons, List.map_nil]); first | done | rfl | (simp only [List.length_drop, List.length_take]; rfl)) ?_; (with_reducible refine (ih14 k (by omega) _ _ l0_4 t3146 _ ?side1 ?side2 A3.out).mono ?_); (case side1 => exact Kd.C_below HR0_4.out (by repeat (first | (with_reducible first | exact HB.out | apply below_alloc | apply pw_below_drewN | apply below_drew1 | refine below_set ?_ GE3140.out | refine below_set ?_ GE3141.out | refine below_set ?_ GE3142.out) | exact HB.out))); (case side2 => exact HC0_4.out); rintro e w16 ⟨v3147, rfl, ho0, hb⟩; refine ⟨_, rfl, ?_⟩; have n0_ := Aside0.mk (Kd.R_below (by (with_reducible repeat (first | apply Kd.R_alloc | apply Kd.R_drewN | apply Kd.R_drew)); exact (Kd.R_mono (Kd.R_far (p := ⟨gb3142, 3, none⟩) (Kd.R_types HO3145.out BK3142.out (by decide)) (fun _ hk => hk.2) (.slice Ao13 t3143.length co13)) (fun _ h_ => h_.1))) hb); have n1_ := Aside0.mk (Kd.R_lower (Kd.R_newB (Kd.R_newB (Kd.R_new' ho0 (Kd.R_lt (by (with_reducible repeat (first | apply Kd.R_alloc | apply Kd.R_drewN | apply Kd.R_drew)); exact (Kd.R_mono (Kd.R_far (p := ⟨gb3142, 3, none⟩) (Kd.R_types HO3145.out BK3142.out (by decide)) (fun _ hk => hk.2) (.slice Ao13 t3143.length co13)) (fun _ h_ => h_.1))))) (g := gb3141) (o := .cells #[.int .i64 0, .string (⟨#[]⟩ : ByteArray), .bool false, .slice none 0 0, .slice none 0 0] 51 (0, 0)) (by (with_reducible repeat (first | refine blk_drewN ?_ _ | refine blk_drew ?_ | refine blk_alloc ?_ _)); refine blk_far ?_ NB3141_3142.out _; (with_reducible repeat (first | refine blk_drewN ?_ _ | refine blk_drew ?_ | refine blk_alloc ?_ _)); exact BK3141.out)) (g := gb3142) (o := .cells #[.int .i64 a0_0, .string a0_1, .bool a0_2, .slice Ao13 t3143.length co13, .slice none 0 0] 51 (0, 0)) (by (with_reducible repeat (first | refine blk_drewN ?_ _ | refine blk_drew ?_ | refine blk_alloc ?_ _)); refine blk_put (cs := #[.int .i64 a0_0, .string a0_1, .bool a0_2, .slice none 0 0, .slice none 0 0]) ?_ 3 _ rfl; (with_reducible repeat (first | refine blk_drewN ?_ _ | refine blk_drew ?_ | refine blk_alloc ?_ _)); exact BK3142.out)) (below_size (by repeat (first | (with_reducible first | exact HB.out | apply below_alloc | apply pw_below_drewN | apply below_drew1 | refine below_set ?_ GE3140.out | refine below_set ?_ GE3141.out | refine below_set ?_ GE3142.out) | exact HB.out)))); have n2_ := Aside0.mk (blk_below (g := gb3140) (o := .cells #[.int .i64 a0_0, .string a0_1, .bool a0_2, .slice A0_3 l0_3.length c0_3, .slice A0_4 l0_4.length c0_4] 47 (0, 0)) (by (with_reducible repeat (first | refine blk_drewN ?_ _ | refine blk_drew ?_ | refine blk_alloc ?_ _)); refine blk_far ?_ NB3140_3142.out _; (with_reducible repeat (first | refine blk_drewN ?_ _ | refine blk_drew ?_ | refine blk_alloc ?_ _)); exact BK3140.out) hb); have n3_ := Aside0.mk (blk_below (g := gb3141) (o := .cells #[.int .i64 0, .string (⟨#[]⟩ : ByteArray), .bool false, .slice none 0 0, .slice none 0 0] 51 (0, 0)) (by (with_reducible repeat (first | refine blk_drewN ?_ _ | refine blk_drew ?_ | refine blk_alloc ?_ _)); refine blk_far ?_ NB3141_3142.out _; (with_reducible repeat (first | refine blk_drewN ?_ _ | refine blk_drew ?_ | refine blk_alloc ?_ _)); exact BK3141.out) hb); have n4_ := Aside0.mk (blk_below (g := gb3142) (o := .cells #[.int .i64 a0_0, .string a0_1, .bool a0_2, .slice Ao13 t3143.length co13, .slice none 0 0] 51 (0, 0)) (by (with_reducible repeat (first | refine blk_drewN ?_ _ | refine blk_drew ?_ | refine blk_alloc ?_ _)); refine blk_put (cs := #[.int .i64 a0_0, .string a0_1, .bool a0_2, .slice none 0 0, .slice none 0 0]) ?_ 3 _ rfl; (with_reducible repeat (first | refine blk_drewN ?_ _ | refine blk_drew ?_ | refine blk_alloc ?_ _)); exact BK3142.out) hb); have n5_ := Aside0.mk (below_step (by repeat (first | (with_reducible first | exact HB.out | apply below_alloc | apply pw_below_drewN | apply below_drew1 | refine below_set ?_ GE3140.out | refine below_set ?_ GE3141.out | refine below_set ?_ GE3142.out) | exact HB.out)) hb); clear HO3145; clear BK3140; clear BK3141; clear BK3142; clear HB; have HO3145 := n0_; have HO3148 := n1_; have BK3140 := n2_; have BK3141 := n3_; have BK3142 := n4_; have HB := n5_; clear n0_ n1_ n2_ n3_ n4_ n5_; (try clear hb); (try clear hb2); (try clear hk); (try clear hi); (try clear ho0); obtain ⟨Ao17, co17, eo17⟩ := Kd.R_slice HO3148.out; subst eo17; have hcz18_0 : w16.cell? ⟨gb3142, 0, none⟩ = some (.int .i64 a0_0) := (blk_cell BK3142.out 0).trans rfl; have hcz18_1 : w16.cell? ⟨gb3142, 1, none⟩ = some (.string a0_1) := (blk_cell BK3142.out 1).trans rfl; have hcz18_2 : w16.cell? ⟨gb3142, 2, none⟩ = some (.bool a0_2) := (blk_cell BK3142.out 2).trans rfl; have hcz18_3 : w16.cell? ⟨gb3142, 3, none⟩ = some (.slice Ao13 t3143.length co13) := (blk_cell BK3142.out 3).trans rfl; have hcz18_4 : w16.cell? ⟨gb3142, 4, none⟩ = some (.slice none 0 0) := (blk_cell BK3142.out 4).trans rfl; have hfz18_0 := blk_frozen BK3142.out 0; have hfz18_1 := blk_frozen BK3142.out 1; have hfz18_2 := blk_frozen BK3142.out 2; have hfz18_3 := blk_frozen BK3142.out 3; have hfz18_4 := blk_frozen BK3142.out 4; have hcz19_0 : w16.cell? ⟨gb3141, 0, none⟩ = some (.int .i64 0) := (blk_cell BK3141.out 0).trans rfl; have hcz19_1 : w16.cell? ⟨gb3141, 1, none⟩ = some (.string (⟨#[]⟩ : ByteArray)) := (blk_cell BK3141.out 1).trans rfl; have hcz19_2 : w16.cell? ⟨gb3141, 2, none⟩ = some (.bool false) := (blk_cell BK3141.out 2).trans rfl; have hcz19_3 : w16.cell? ⟨gb3141, 3, none⟩ = some (.slice none 0 0) := (blk_cell BK3141.out 3).trans rfl; have hcz19_4 : w16.cell? ⟨gb3141, 4, none⟩ = some (.slice none 0 0) := (blk_cell BK3141.out 4).trans rfl; have hfz19_0 := blk_frozen BK3141.out 0; have hfz19_1 := blk_frozen BK3141.out 1; have hfz19_2 := blk_frozen BK3141.out 2; have hfz19_3 := blk_frozen BK3141.out 3; have hfz19_4 := blk_frozen BK3141.out 4))
  refine bodyPost_ret (results_cell_row rfl _ _ gb3141 51 #[.int .i64 a0_0, .string a0_1, .bool a0_2, .slice Ao13 t3143.length co13, .slice Ao17 t3146.length co17] (0, 0) _ rfl (by (with_reducible repeat (first | refine blk_drewN ?_ _ | refine blk_drew ?_ | refine blk_alloc ?_ _)); refine blk_put (cs := #[.int .i64 a0_0, .string a0_1, .bool a0_2, .slice Ao13 t3143.length co13, .slice none 0 0]) ?_ 4 _ rfl; (with_reducible repeat (first | refine blk_drewN ?_ _ | refine blk_drew ?_ | refine blk_alloc ?_ _)); refine blk_put (cs := #[.int .i64 a0_0, .string a0_1, .bool a0_2, .slice none 0 0, .slice none 0 0]) ?_ 3 _ rfl; (with_reducible repeat (first | refine blk_drewN ?_ _ | refine blk_drew ?_ | refine blk_alloc ?_ _)); refine blk_put (cs := #[.int .i64 a0_0, .string a0_1, .bool false, .slice none 0 0, .slice none 0 0]) ?_ 2 _ rfl; (with_reducible repeat (first | refine blk_drewN ?_ _ | refine blk_drew ?_ | refine blk_alloc ?_ _)); refine blk_put (cs := #[.int .i64 a0_0, .string (⟨#[]⟩ : ByteArray), .bool false, .slice none 0 0, .slice none 0 0]) ?_ 1 _ rfl; (with_reducible repeat (first | refine blk_drewN ?_ _ | refine blk_drew ?_ | refine blk_alloc ?_ _)); refine blk_put (cs := #[.int .i64 0, .string (⟨#[]⟩ : ByteArray), .bool false, .slice none 0 0, .slice none 0 0]) ?_ 0 _ rfl; (with_reducible repeat (first | refine blk_drewN ?_ _ | refine blk_drew ?_ | refine blk_alloc ?_ _)); refine blk_far ?_ NB3141_3142.out _; (with_reducible repeat (first | refine blk_drewN ?_ _ | refine blk_drew ?_ | refine blk_alloc ?_ _)); exact BK3141.out) Try.underlying51 rfl (by kernel_rfl)) rfl ?_
  exact ⟨_, _, by first | rfl | (simp [errW_none, errW_some] <;> rfl) | (simp [*, errW_none, errW_some] <;> rfl), by (with_reducible repeat (first | apply Kd.R_alloc | apply Kd.R_drewN | apply Kd.R_drew)); exact Kd.R_mono (Kd.R_far (p := ⟨gb3141, 4, none⟩) (Kd.R_far (p := ⟨gb3141, 3, none⟩) (Kd.R_far (p := ⟨gb3141, 2, none⟩) (Kd.R_far (p := ⟨gb3141, 1, none⟩) (Kd.R_far (p := ⟨gb3141, 0, none⟩) (Kd.R_far (p := ⟨gb3142, 4, none⟩) (Kd.R_types (Kd.R_types HO3145.out BK3142.out (by decide)) BK3141.out (by decide)) (fun _ hk => hk.1.2) (.slice Ao17 t3146.length co17)) (fun _ hk => hk.2) (.int .i64 a0_0)) (fun _ hk => hk.2) (.string a0_1)) (fun _ hk => hk.2) (.bool a0_2)) (fun _ hk => hk.2) (.slice Ao13 t3143.length co13)) (fun _ hk => hk.2) (.slice Ao17 t3146.length co17)) (fun _ hk => trivial), by (with_reducible repeat (first | apply Kd.R_alloc | apply Kd.R_drewN | apply Kd.R_drew)); exact Kd.R_mono (Kd.R_far (p := ⟨gb3141, 4, none⟩) (Kd.R_far (p := ⟨gb3141, 3, none⟩) (Kd.R_far (p := ⟨gb3141, 2, none⟩) (Kd.R_far (p := ⟨gb3141, 1, none⟩) (Kd.R_far (p := ⟨gb3141, 0, none⟩) (Kd.R_far (p := ⟨gb3142, 4, none⟩) (Kd.R_mono (Kd.R_mono HO3148.out (fun k_ hk => (⟨hk, hk.2⟩ : _ ∧ k_ ≠ gb3142))) (fun k_ hk => (⟨hk, hk.1.1.2⟩ : _ ∧ k_ ≠ gb3141))) (fun _ hk => hk.1.2) (.slice Ao17 t3146.length co17)) (fun _ hk => hk.2) (.int .i64 a0_0)) (fun _ hk => hk.2) (.string a0_1)) (fun _ hk => hk.2) (.bool a0_2)) (fun _ hk => hk.2) (.slice Ao13 t3143.length co13)) (fun _ hk => hk.2) (.slice Ao17 t3146.length co17)) (fun _ hk => hk.1.1.1.1.2), by repeat (first | (with_reducible first | exact HB.out | apply below_alloc | apply pw_below_drewN | apply below_drew1 | refine below_set ?_ GE3140.out | refine below_set ?_ GE3141.out | refine below_set ?_ GE3142.out) | exact HB.out)⟩

set_option maxHeartbeats 8000000 in
set_option maxRecDepth 100000 in
theorem laws_toExpCoreS.step (k : Nat) (ih24 : ∀ m, m < k → laws_toExpCore.Spec m) (ih14 : ∀ m, m < k → laws_toExpCoreS.Spec m) : ∀ (A0 : Option Addr) (c0 : Nat) (l0 : List (S47)) (r : List (S51)) (w : World) (hr0 : Kd.C k47 w A0 l0.length l0) (hc0 : l0.length ≤ c0) (h : laws_toExpCoreS.f k l0 = some r),
    Calls Try.prog 14 #[.slice A0 l0.length c0] w fun e w' => ∃ v0_ : Value, e = .returned (v0_) ∧ Kd.R k51 51 w' w.heap.size (fun _ => True) v0_ r ∧ Below w.heap.size w w' := by
  intro A0 c0 l0 r w hr0 hc0 h
  cases k with
  | zero => exact absurd h (by simp [laws_toExpCoreS.f])
  | succ k =>
  simp only [laws_toExpCoreS.f] at h
  have hu47 := Try.underlying47
  have hu51 := Try.underlying51
  have HR0 := Aside0.mk hr0
  have HC0 := Aside0.mk hc0
  clear hr0 hc0
  have HB := Aside0.mk (Below.refl w.heap.size w)
  have H : (if 0 ≤ (l0.length : Int) then (if ((l0.length : Int) : Int).toNat ≤ 3518437208883 then (laws_toExpCoreS.l0 k l0 (List.replicate ((l0.length : Int) : Int).toNat z51) 0) else (none)) else (none)) = some r := h
  clear h
  by_cases c2 : 0 ≤ (l0.length : Int)
  · rw [if_pos c2] at H
    have c2b0 := eq_true c2
    have c2b1 : decide (0 ≤ (l0.length : Int)) = true := decide_eq_true c2
    clear c2
    by_cases c3 : ((l0.length : Int) : Int).toNat ≤ 3518437208883
    · rw [if_pos c3] at H
      have c3b0 := eq_true c3
      have c3b1 : decide (((l0.length : Int) : Int).toNat ≤ 3518437208883) = true := decide_eq_true c3
      clear c3
      obtain ⟨y6140, hy6140⟩ : ∃ y_ : List (S51), y_ = (List.replicate ((l0.length : Int) : Int).toNat z51) := ⟨_, rfl⟩
      replace H : (laws_toExpCoreS.l0 k l0 y6140 0) = some r := by first | (rw [hy6140]; with_reducible exact H) | (have H2_ := (Option.bind_some _ _).symm.trans H; rw [hy6140]; with_reducible exact H2_) | (have H2_ := (Option.bind_some _ _).symm.trans H; with_reducible exact H2_) | with_reducible exact H | (rw [hy6140]; exact H) | exact H
      have Ny6140 := Aside0.mk hy6140
      clear hy6140
      have H' := Aside0.mk H
      clear H
      go_enter Try.func14, Try.ntmps14
      go_wp2_with (first | ((with_reducible refine gate_dst (N := 7) rfl ?_); refine Kd.R_make k51 _ 51 rfl (N := 7) rfl 27 _ _ rfl (l0.length : Int) rfl rfl Try.underlying27 (.agg #[(.int .i64 0), (.string ⟨#[]⟩), (.bool false), (.slice none 0 0), (.slice none 0 0)]) 80 info51 rfl (by decide) (by omega) z51 (ok := fun _ => True) (okp := fun _ => True) (k51_mkM _ _ _ z51 (Kd.R_nil _ _ _ _ _) (Kd.R_nil _ _ _ _ _)) (fun _ hk => hk) trivial (of_decide_eq_true (by first | (with_reducible assumption) | assumption)) (Nat.le_trans (Nat.mul_le_mul_right _ (of_decide_eq_true (by first | (with_reducible assumption) | assumption) : (l0.length : Int).toNat ≤ 3518437208883)) (by omega)) (Below.refl _ _) (Nat.le_refl _) ?_; intro v6141 w4 ho5 hb hg_ hnew_; clear hg_ hnew_; (first | rw [← Ny6140.out] at ho5 | (simp only [Int.reduceToNat] at ho5; rw [← Ny6140.out] at ho5)); have n0_ := Aside0.mk (Kd.R_lower ho5 (below_size (by repeat (first | (with_reducible first | exact HB.out | apply below_alloc | apply pw_below_drewN | apply below_drew1) | exact HB.out)))); have n1_ := Aside0.mk (below_step (by repeat (first | (with_reducible first | exact HB.out | apply below_alloc | apply pw_below_drewN | apply below_drew1) | exact HB.out)) hb); clear HB; have HO6142 := n0_; have HB := n1_; clear n0_ n1_; clear hb ho5))
      go_loopg [4] k (fun kq v4 w' => ∃ (x3_1 : List (S51)) (x4_1 : Int), v4 = .int .i64 x4_1 ∧ Aside0 (laws_toExpCoreS.l0 kq l0 x3_1 x4_1 = some r) ∧ Aside0 (kq ≤ k) ∧ Aside0 (Kd.R k51 51 w' w.heap.size (fun _ => True) v6141 x3_1) ∧ Aside0 (Below w.heap.size w w'))
      case atStart => exact ⟨(y6140), (0), (by first | rfl | (simp; done) | (simp [*]; done)), H', ⟨Nat.le_refl _⟩, ⟨by (with_reducible repeat (first | apply Kd.R_alloc | apply Kd.R_drewN | apply Kd.R_drew)); exact HO6142.out⟩, ⟨by repeat (first | (with_reducible first | exact HB.out | apply below_alloc | apply pw_below_drewN | apply below_drew1) | exact HB.out)⟩⟩
      case round =>
        clear H'
        try clear c1
        try clear c2
        try clear c2b0
        try clear c2b1
        try clear p2
        try clear c3
        try clear c3b0
        try clear c3b1
        obtain ⟨x3_1, x4_1, rfl, HA, HK1, HO_3, HB⟩ := hrel
        cases gk with
        | zero => exact absurd HA.out (by simp [laws_toExpCoreS.l0])
        | succ k1 =>
          have H := HA.out
          clear HA
          simp only [laws_toExpCoreS.l0] at H
          by_cases c6 : x4_1 < (l0.length : Int)
          · rw [if_pos c6] at H
            have c6b0 : decide (x4_1 < (l0.length : Int)) = true := decide_eq_true c6
            clear c6
            by_cases c7 : 0 ≤ x4_1
            · rw [if_pos c7] at H
              have c7b0 : decide (0 ≤ x4_1) = true := decide_eq_true c7
              clear c7
              replace H := Option.bind_eq_some_iff.mp H
              obtain ⟨⟨t6144, t6145, t6146, t6147, t6150⟩, A80, H⟩ := H
              replace H : (if x4_1 < (x3_1.length : Int) then (laws_toExpCoreS.l0 k1 l0 (x3_1.set (x4_1 : Int).toNat (⟨t6144, t6145, t6146, t6147, t6150⟩ : S51)) (wrap64 (x4_1 + 1))) else (none)) = some r := H
              have A8 := Aside0.mk A80
              clear A80
              by_cases c9 : x4_1 < (x3_1.length : Int)
              · rw [if_pos c9] at H
                have c9b0 : decide (x4_1 < (x3_1.length : Int)) = true := decide_eq_true c9
                clear c9
                obtain ⟨y6153, hy6153⟩ : ∃ y_ : List (S51), y_ = (x3_1.set (x4_1 : Int).toNat (⟨t6144, t6145, t6146, t6147, t6150⟩ : S51)) := ⟨_, rfl⟩
                replace H : (laws_toExpCoreS.l0 k1 l0 y6153 (wrap64 (x4_1 + 1))) = some r := by first | (rw [hy6153]; with_reducible exact H) | (have H2_ := (Option.bind_some _ _).symm.trans H; rw [hy6153]; with_reducible exact H2_) | (have H2_ := (Option.bind_some _ _).symm.trans H; with_reducible exact H2_) | with_reducible exact H | (rw [hy6153]; exact H) | exact H
                have Ny6153 := Aside0.mk hy6153
                clear hy6153
                have H' := Aside0.mk H
                clear H
                have p6143 : 0 ≤ (x4_1 : Int) := of_decide_eq_true (by first | (with_reducible assumption) | assumption)
                have q6143 : x4_1 < (l0.length : Int) := of_decide_eq_true (by first | (with_reducible assumption) | assumption)
                obtain ⟨ad6143, A6143_3, c6143_3, A6143_4, c6143_4, e6143, hx6143_0, hx6143_1, hx6143_2, hx6143_3, hx6143_4, hl6143_3, hi6143_3, hl6143_4, hi6143_4⟩ := at_T47 HR0.out x4_1 p6143 q6143
                cases e6143
                replace hx6143_0 := (HB.out.cell (World.block_lt_of_cell? w _ hx6143_0)).trans hx6143_0
                replace hx6143_1 := (HB.out.cell (World.block_lt_of_cell? w _ hx6143_1)).trans hx6143_1
                replace hx6143_2 := (HB.out.cell (World.block_lt_of_cell? w _ hx6143_2)).trans hx6143_2
                replace hx6143_3 := (HB.out.cell (World.block_lt_of_cell? w _ hx6143_3)).trans hx6143_3
                replace hx6143_4 := (HB.out.cell (World.block_lt_of_cell? w _ hx6143_4)).trans hx6143_4
                have HR6143_3 := Aside0.mk hi6143_3
                have HC6143_3 := Aside0.mk hl6143_3
                clear hi6143_3 hl6143_3
                have HR6143_4 := Aside0.mk hi6143_4
                have HC6143_4 := Aside0.mk hl6143_4
                clear hi6143_4 hl6143_4
                replace p6143 := eq_true p6143
                replace q6143 := eq_true q6143
                go_wp2_with (first | ((with_reducible refine gate_callee (f := 24) rfl ?_); refine goesL_ (some 20) rfl rfl Try.func24 (by kernel_rfl) rfl #[.agg #[.int .i64 ((rd_T47 l0 x4_1).f0), .string ((rd_T47 l0 x4_1).f1), .bool ((rd_T47 l0 x4_1).f2), .slice A6143_3 ((rd_T47 l0 x4_1).f3).length c6143_3, .slice A6143_4 ((rd_T47 l0 x4_1).f4).length c6143_4]] rfl (by (try simp only [List.map_toArray, List.map_cons, List.map_nil]); first | done | rfl | (simp only [List.length_drop, List.length_take]; rfl)) ?_; (with_reducible refine (ih24 k1 (by have := HK1.out; omega) ((rd_T47 l0 x4_1).f0) ((rd_T47 l0 x4_1).f1) ((rd_T47 l0 x4_1).f2) _ _ ((rd_T47 l0 x4_1).f3) _ _ ((rd_T47 l0 x4_1).f4) t6144 t6145 t6146 t6147 t6150 _ ?side1 ?side2 ?side3 ?side4 A8.out).mono ?_); (case side1 => repeat (first | exact (Kd.C_below HR6143_3.out HB.out) | (with_reducible refine Kd.C_alloc ?_ _) | (with_reducible refine Kd.C_drewN ?_ _) | (with_reducible refine Kd.C_drew ?_))); (case side2 => exact HC6143_3.out); (case side3 => repeat (first | exact (Kd.C_below HR6143_4.out HB.out) | (with_reducible refine Kd.C_alloc ?_ _) | (with_reducible refine Kd.C_drewN ?_ _) | (with_reducible refine Kd.C_drew ?_))); (case side4 => exact HC6143_4.out); rintro e w11 ⟨v6148, v6151, rfl, ho0, ho1, hb⟩; refine ⟨_, rfl, ?_⟩; have n0_ := Aside0.mk (Kd.R_mono (Kd.R_told (Kd.R_told (Kd.R_old (by (with_reducible repeat (first | apply Kd.R_alloc | apply Kd.R_drewN | apply Kd.R_drew)); exact HO_3.out) hb) (Kd.R_base ho0)) (Kd.R_base ho1)) (fun _ h_ => h_.1)); have n1_ := Aside0.mk (Kd.R_lower ho0 (below_size (by repeat (first | (with_reducible first | exact HB.out | apply below_alloc | apply pw_below_drewN | apply below_drew1) | exact HB.out)))); have n2_ := Aside0.mk (Kd.R_lower (Kd.R_new' ho1 (Kd.R_lt (by (with_reducible repeat (first | apply Kd.R_alloc | apply Kd.R_drewN | apply Kd.R_drew)); exact HO_3.out))) (below_size (by repeat (first | (with_reducible first | exact HB.out | apply below_alloc | apply pw_below_drewN | apply below_drew1) | exact HB.out)))); have n3_ := Aside0.mk (below_step (by repeat (first | (with_reducible first | exact HB.out | apply below_alloc | apply pw_below_drewN | apply below_drew1) | exact HB.out)) hb); clear HO_3; clear HB; have HO_3 := n0_; have HO6149 := n1_; have HO6152 := n2_; have HB := n3_; clear n0_ n1_ n2_ n3_; (try clear hb); (try clear hb2); (try clear hk); (try clear hi); (try clear ho0); (try clear ho1); have p10 : 0 ≤ (x4_1 : Int) := of_decide_eq_true (by first | (with_reducible assumption) | assumption); have q10 : (x4_1 : Int) < ((x3_1.length : Int) : Int) := of_decide_eq_true (by first | (with_reducible assumption) | assumption); obtain ⟨go10, co10, eo10, gb10, gl10, cl10, HG10⟩ := Kd.R_form HO_3.out (by omega); (first | cases eo10 | (injection eo10 with ea_ en_ ec_; (first | subst ea_ | (injection ea_ with ea_; subst ea_)); subst ec_; clear en_)); have GB10 := Aside0.mk gb10; have GG10 := Aside0.mk HG10; clear gb10 gl10 HG10; obtain ⟨ce10, hcl10, hM10, hcc10, hfr10⟩ := Kd.R_elem HO_3.out z51 (x4_1 : Int) p10 q10; obtain ⟨ve10_3, ve10_4, rfl, ge10_3, ge10_4⟩ := k51_openM hM10; have hx10_0 : w11.cell? ⟨go10, (x4_1 : Int).toNat * 5, none⟩ = some (.int .i64 ((rd_T51 x3_1 x4_1).f0)) := hcc10 0 _ rfl; have hx10_1 : w11.cell? ⟨go10, (x4_1 : Int).toNat * 5 + 1, none⟩ = some (.string ((rd_T51 x3_1 x4_1).f1)) := hcc10 1 _ rfl; have hx10_2 : w11.cell? ⟨go10, (x4_1 : Int).toNat * 5 + 2, none⟩ = some (.bool ((rd_T51 x3_1 x4_1).f2)) := hcc10 2 _ rfl; have hx10_3 : w11.cell? ⟨go10, (x4_1 : Int).toNat * 5 + 3, none⟩ = some (ve10_3) := hcc10 3 _ rfl; have hx10_4 : w11.cell? ⟨go10, (x4_1 : Int).toNat * 5 + 4, none⟩ = some (ve10_4) := hcc10 4 _ rfl; have hf10_0 : w11.frozen? ⟨go10, (x4_1 : Int).toNat * 5, none⟩ = false := hfr10 0; have hf10_1 : w11.frozen? ⟨go10, (x4_1 : Int).toNat * 5 + 1, none⟩ = false := hfr10 1; have hf10_2 : w11.frozen? ⟨go10, (x4_1 : Int).toNat * 5 + 2, none⟩ = false := hfr10 2; have hf10_3 : w11.frozen? ⟨go10, (x4_1 : Int).toNat * 5 + 3, none⟩ = false := hfr10 3; have hf10_4 : w11.frozen? ⟨go10, (x4_1 : Int).toNat * 5 + 4, none⟩ = false := hfr10 4; clear hcl10 hcc10 hfr10 hM10; replace p10 := eq_true p10; replace q10 := eq_true q10; obtain ⟨Ao12, co12, eo12⟩ := Kd.R_slice HO6152.out; subst eo12; obtain ⟨Ao13, co13, eo13⟩ := Kd.R_slice HO6149.out; subst eo13; have n_ := Aside0.mk (Kd.R_mono (ok' := (fun k_ => some k_ ≠ (.slice Ao13 t6147.length co13 : Value).ownBlock ∧ some k_ ≠ (.slice Ao12 t6150.length co12 : Value).ownBlock)) HO_3.out (fun k_ hk => ⟨hk.1.2, hk.2⟩)); clear HO_3; have HO_3 := n_; clear n_; have HX14 := Aside0.mk (show Kd.R k51 51 w11 w.heap.size (fun _ => True) (.slice (some ⟨go10, 0, none⟩) x3_1.length co10) x3_1 from (by (with_reducible repeat (first | apply Kd.R_alloc | apply Kd.R_drewN | apply Kd.R_drew)); exact Kd.R_mono HO_3.out (fun _ hk => trivial))); obtain ⟨ce14, hcl14, hM14, hcc14, hfr14⟩ := Kd.R_elem HX14.out z51 (x4_1 : Int) (of_decide_eq_true (by first | (with_reducible assumption) | assumption)) (by have h_ : (x4_1 : Int) < ((x3_1.length : Int) : Int) := of_decide_eq_true (by first | (with_reducible assumption) | assumption); first | exact h_ | (have e_ := (Kd.R_reads' HO_3.out).1; omega) | simpa using h_); obtain ⟨ve14_3, ve14_4, rfl, ge14_3, ge14_4⟩ := k51_openM hM14; have HP14 := Kd.R_seg HX14.out (x4_1 : Int) (of_decide_eq_true (by first | (with_reducible assumption) | assumption)) (by have h_ : (x4_1 : Int) < ((x3_1.length : Int) : Int) := of_decide_eq_true (by first | (with_reducible assumption) | assumption); first | exact h_ | (have e_ := (Kd.R_reads' HO_3.out).1; omega) | simpa using h_) (seg := [.int .i64 t6144, .string t6145, .bool t6146, .slice Ao13 t6147.length co13, .slice Ao12 t6150.length co12]) (j := 0) hcl14 hcc14 (show 5 ≤ 5 from by decide) (x' := (⟨t6144, t6145, t6146, t6147, t6150⟩ : S51)) (k51_mkM _ _ _ (⟨t6144, t6145, t6146, t6147, t6150⟩ : S51) (Kd.R_mono (Kd.R_apart' (HO6149.out) (Kd.R_typed HO_3.out) (by decide)) (fun k_ hk => ⟨trivial, fun e_ => (hk.2) (by rw [e_]; rfl)⟩)) (Kd.R_mono (HO6152.out) (fun k_ hk => ⟨trivial, fun e_ => (hk.2) (by rw [e_]; rfl)⟩))) (fun _ hk => hk); have hx14_0 := hcc14 0 _ rfl; (try simp only [show (k51).sz = 5 from rfl, Nat.mul_one, Nat.add_zero] at hx14_0); have hf14_0 := hfr14 0; (try simp only [show (k51).sz = 5 from rfl, Nat.mul_one, Nat.add_zero] at hf14_0); have hx14_1 := hcc14 1 _ rfl; (try simp only [show (k51).sz = 5 from rfl, Nat.mul_one, Nat.add_zero] at hx14_1); have hf14_1 := hfr14 1; (try simp only [show (k51).sz = 5 from rfl, Nat.mul_one, Nat.add_zero] at hf14_1); have hx14_2 := hcc14 2 _ rfl; (try simp only [show (k51).sz = 5 from rfl, Nat.mul_one, Nat.add_zero] at hx14_2); have hf14_2 := hfr14 2; (try simp only [show (k51).sz = 5 from rfl, Nat.mul_one, Nat.add_zero] at hf14_2); have hx14_3 := hcc14 3 _ rfl; (try simp only [show (k51).sz = 5 from rfl, Nat.mul_one, Nat.add_zero] at hx14_3); have hf14_3 := hfr14 3; (try simp only [show (k51).sz = 5 from rfl, Nat.mul_one, Nat.add_zero] at hf14_3); have hx14_4 := hcc14 4 _ rfl; (try simp only [show (k51).sz = 5 from rfl, Nat.mul_one, Nat.add_zero] at hx14_4); have hf14_4 := hfr14 4; (try simp only [show (k51).sz = 5 from rfl, Nat.mul_one, Nat.add_zero] at hf14_4); clear hcl14 hcc14 hfr14 hM14) | ((with_reducible refine gate_store (t := 51) (p := 21) rfl ?_); refine store_event (t := 51) (p := 21) (v := ?vo_w15) (w1 := (((((w11.setCell ⟨go10, (x4_1 : Int).toNat * 5, none⟩ (.int .i64 t6144)).setCell ⟨go10, (x4_1 : Int).toNat * 5 + 1, none⟩ (.string t6145)).setCell ⟨go10, (x4_1 : Int).toNat * 5 + 2, none⟩ (.bool t6146)).setCell ⟨go10, (x4_1 : Int).toNat * 5 + 3, none⟩ (.slice Ao13 t6147.length co13)).setCell ⟨go10, (x4_1 : Int).toNat * 5 + 4, none⟩ (.slice Ao12 t6150.length co12))) ?hg ?ho ?hn ?hr ?_; (case ho => rfl); (case hg => rfl); (case hn => rfl); (case hr => first | (go_simp; done) | (go_simp; rfl)); intro w15 hw; have hg : w11.grownBy w15 (some go10) := (by rw [hw]; exact HP14.2); have hp_ : Kd.R k51 51 w15 w.heap.size (fun _ => True) (.slice (some ⟨go10, 0, none⟩) x3_1.length co10) y6153 := (by rw [hw, Ny6153.out]; exact HP14.1); clear HP14; have n0_ := Aside0.mk (hp_); have n1_ := Aside0.mk ((by rw [hw]; exact below_set (below_set (below_set (below_set (below_set (HB.out) GB10.out) GB10.out) GB10.out) GB10.out) GB10.out : Below w.heap.size w w15)); clear HO_3; clear HB; clear HO6149; clear HO6152; have HO_3 := n0_; have HB := n1_; clear n0_ n1_; clear hg hw hp_))
                go_roundg k1
                case measure => have := HK1.out; omega
                case rel => exact ⟨(y6153), (wrap64 (x4_1 + 1)), (by first | rfl | (simp; done) | (simp [*]; done)), H', ⟨by have := HK1.out; omega⟩, ⟨by (with_reducible repeat (first | apply Kd.R_alloc | apply Kd.R_drewN | apply Kd.R_drew)); exact HO_3.out⟩, ⟨by repeat (first | (with_reducible first | exact HB.out | apply below_alloc | apply pw_below_drewN | apply below_drew1) | exact HB.out)⟩⟩
              · rw [if_neg c9] at H
                exact absurd H (by simp)
            · rw [if_neg c7] at H
              exact absurd H (by simp)
          · rw [if_neg c6] at H
            have c6b0 : decide (x4_1 < (l0.length : Int)) = false := decide_eq_false c6
            clear c6
            obtain rfl := Option.some.inj H
            go_wp2
            go_ret
            exact ⟨_, by first | rfl | (simp [errW_none, errW_some] <;> rfl) | (simp [*, errW_none, errW_some] <;> rfl), by (with_reducible repeat (first | apply Kd.R_alloc | apply Kd.R_drewN | apply Kd.R_drew)); exact HO_3.out, by repeat (first | (with_reducible first | exact HB.out | apply below_alloc | apply pw_below_drewN | apply below_drew1) | exact HB.out)⟩
    · rw [if_neg c3] at H
      exact absurd H (by simp)
  · rw [if_neg c2] at H
    exact absurd H (by simp)

theorem laws_toExpCore_group.all (k : Nat) : laws_toExpCore.Spec k ∧ laws_toExpCoreS.Spec k := by
  induction k using Nat.strongRecOn with
  | _ k ih => exact ⟨laws_toExpCore.step k (fun m hm => (ih m hm).1) (fun m hm => (ih m hm).2), laws_toExpCoreS.step k (fun m hm => (ih m hm).1) (fun m hm => (ih m hm).2)⟩
theorem laws_toExpCore.calls (k : Nat) : ∀ (a0_0 : Int) (a0_1 : ByteArray) (a0_2 : Bool) (A0_3 : Option Addr) (c0_3 : Nat) (l0_3 : List ByteArray) (A0_4 : Option Addr) (c0_4 : Nat) (l0_4 : List (S47)) (r1 : Int) (r2 : ByteArray) (r3 : Bool) (r4 : List ByteArray) (r5 : List (S51)) (w : World) (hr0_3 : Kd.C Kd.string w A0_3 l0_3.length l0_3) (hc0_3 : l0_3.length ≤ c0_3) (hr0_4 : Kd.C k47 w A0_4 l0_4.length l0_4) (hc0_4 : l0_4.length ≤ c0_4) (h : laws_toExpCore.f k a0_0 a0_1 a0_2 l0_3 l0_4 = some (r1, r2, r3, r4, r5)),
    Calls Try.prog 24 #[.agg #[.int .i64 a0_0, .string a0_1, .bool a0_2, .slice A0_3 l0_3.length c0_3, .slice A0_4 l0_4.length c0_4]] w fun e w' => ∃ v3_ v4_ : Value, e = .returned (.agg #[.int .i64 r1, .string r2, .bool r3, v3_, v4_]) ∧ Kd.R Kd.string 9 w' w.heap.size (fun _ => True) v3_ r4 ∧ Kd.R k51 51 w' w.heap.size (fun k_ => some k_ ≠ (v3_ : Value).ownBlock) v4_ r5 ∧ Below w.heap.size w w' := (laws_toExpCore_group.all k).1
theorem laws_toExpCoreS.calls (k : Nat) : ∀ (A0 : Option Addr) (c0 : Nat) (l0 : List (S47)) (r : List (S51)) (w : World) (hr0 : Kd.C k47 w A0 l0.length l0) (hc0 : l0.length ≤ c0) (h : laws_toExpCoreS.f k l0 = some r),
    Calls Try.prog 14 #[.slice A0 l0.length c0] w fun e w' => ∃ v0_ : Value, e = .returned (v0_) ∧ Kd.R k51 51 w' w.heap.size (fun _ => True) v0_ r ∧ Below w.heap.size w w' := (laws_toExpCore_group.all k).2

end Go.Proofs.Ytmdhanegafclmaa.PFnExactExpAlpha
