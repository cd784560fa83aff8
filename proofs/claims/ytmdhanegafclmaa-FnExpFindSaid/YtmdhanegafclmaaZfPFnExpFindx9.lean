/- PFnExpFindx9 of the seat's texts, cut down by prune.py to what the theorem comes to. -/
import Derived.Test.YtmdhanegafclmaaZfPFnExpFindx0
import Derived.Test.YtmdhanegafclmaaZfPFnExpFindx8
namespace Go.Proofs.Ytmdhanegafclmaa.PFnExpFind
open Go.RowKit Go.Proofs.YtmdhanegafclmaaW.PrintWords Go.Proofs.YtmdhanegafclmaaW.PrintLast Go.Proofs.YtmdhanegafclmaaW.PrintMore
attribute [local go_sem] max2_int min2_int max_two min_two max_three min_three max_four min_four
set_option linter.unusedVariables false
set_option linter.unusedSimpArgs false
def spec_ExpFind.l0 : Nat → List (S42) → Int → Int → Int → ByteArray → List Int → Int → List (S35) → Option (ByteArray × Int)
 | 0, _, _, _, _, _, _, _, _ => none
 | k + 1, x0, x6, x7, x3358000, x3358001, x3358002, x3358003, x3358004 => if x7 ≥ 0 then (if 0 ≤ x7 then (if x7 < (x0.length : Int) then ((spec_l2Fits.f k ((rd_T42 x0 x7).f0) ((rd_T42 x0 x7).f1) ((rd_T42 x0 x7).f2) x3358000 x3358001 x3358002 x3358003 x3358004).bind fun t3359 => (if t3359 = true then ((spec_l2All.f k x0 x3358000 x3358001 x3358002 x3358003 x3358004 ((rd_T42 x0 x7).f1)).bind fun t3361 => (if t3361 = true then (some ((rd_T42 x0 x7).f2, 1)) else (spec_ExpFind.l0 k x0 2 (wrap64 (x7 - 1)) x3358000 x3358001 x3358002 x3358003 x3358004))) else (spec_ExpFind.l0 k x0 x6 (wrap64 (x7 - 1)) x3358000 x3358001 x3358002 x3358003 x3358004))) else (none)) else (none)) else (some ((⟨#[]⟩ : ByteArray), x6))
def spec_ExpFind.f (k : Nat) (l0 : List (S42)) (a1_0 : Int) (a1_1 : ByteArray) (l1_2 : List Int) (a1_3 : Int) (l1_4 : List (S35)) : Option (ByteArray × Int) := if a1_0 = 1 then (spec_ExpFind.l0 k l0 0 (wrap64 ((l0.length : Int) - 1)) a1_0 a1_1 l1_2 a1_3 l1_4) else (some ((⟨#[]⟩ : ByteArray), 0))
theorem spec_ExpFind.mono_l : ∀ k, (∀ y0 y1 y2 y3 y4 y5 y6 y7, LeO (spec_ExpFind.l0 k y0 y1 y2 y3 y4 y5 y6 y7) (spec_ExpFind.l0 (k + 1) y0 y1 y2 y3 y4 y5 y6 y7))
 | 0 => fun _ _ _ _ _ _ _ _ r h => by simp [spec_ExpFind.l0] at h
 | k + 1 => by
  have ih0 := spec_ExpFind.mono_l k
  ·intro y0 y1 y2 y3 y4 y5 y6 y7
   unfold spec_ExpFind.l0
   repeat' first
   | (with_reducible exact ih0 _ _ _ _ _ _ _ _)
   | (with_reducible exact spec_l2All.mono _ _ _ _ _ _ _ _)
   | (with_reducible exact spec_l2Fits.mono _ _ _ _ _ _ _ _ _)
   | (with_reducible exact LeO.refl _)
   | (with_reducible exact LeO.none _)
   | (with_reducible refine LeO.ite ?_ ?_)
   | (with_reducible refine LeO.bind ?_ (fun _ => ?_))
   | exact ih0 _ _ _ _ _ _ _ _
   | exact spec_l2All.mono _ _ _ _ _ _ _ _
   | exact spec_l2Fits.mono _ _ _ _ _ _ _ _ _
   | exact LeO.none _
   | refine LeO.ite ?_ ?_
   | refine LeO.bind ?_ (fun _ => ?_)
theorem spec_ExpFind.mono : ∀ a0 a1 a2 a3 a4 a5 k, LeO (spec_ExpFind.f k a0 a1 a2 a3 a4 a5) (spec_ExpFind.f (k + 1) a0 a1 a2 a3 a4 a5) := by
 intro a0 a1 a2 a3 a4 a5 k
 have ih0 := spec_ExpFind.mono_l k
 unfold spec_ExpFind.f
 repeat' first
   | (with_reducible exact ih0 _ _ _ _ _ _ _ _)
   | (with_reducible exact spec_l2All.mono _ _ _ _ _ _ _ _)
   | (with_reducible exact spec_l2Fits.mono _ _ _ _ _ _ _ _ _)
   | (with_reducible exact LeO.refl _)
   | (with_reducible exact LeO.none _)
   | (with_reducible refine LeO.ite ?_ ?_)
   | (with_reducible refine LeO.bind ?_ (fun _ => ?_))
   | exact ih0 _ _ _ _ _ _ _ _
   | exact spec_l2All.mono _ _ _ _ _ _ _ _
   | exact spec_l2Fits.mono _ _ _ _ _ _ _ _ _
   | exact LeO.none _
   | refine LeO.ite ?_ ?_
   | refine LeO.bind ?_ (fun _ => ?_)
def spec_ExpFind.T9 : Bool × List (List Nat × List Nat) := (true, [([], []), ([], []), ([], []), ([], []), ([2, 3], [2, 3]), ([4], [4]), ([5], [5]), ([0, 1, 6], [0, 1, 6])])
def spec_ExpFind.B9 : List Nat := [0, 0, 0, 0, 12, 28, 60, 127]
theorem spec_ExpFind.tab9 : rtab .any (opsOf Try.f19 9) = spec_ExpFind.T9 := by kernel_rfl
theorem spec_ExpFind.bits9 : waitsOk spec_ExpFind.T9.2 spec_ExpFind.B9 = true := by kernel_rfl
set_option maxHeartbeats 8000000 in
set_option maxRecDepth 100000 in
theorem spec_ExpFind.calls (k : Nat) (A0 : Option Addr) (c0 : Nat) (l0 : List (S42)) (a1_0 : Int) (a1_1 : ByteArray) (A1_2 : Option Addr) (c1_2 : Nat) (l1_2 : List Int) (a1_3 : Int) (A1_4 : Option Addr) (c1_4 : Nat) (l1_4 : List (S35)) (r1 : ByteArray) (r2 : Int) (w : World) (hr0 : Kd.C k42 w A0 l0.length l0) (hc0 : l0.length ≤ c0) (hr1_2 : Kd.C (Kd.int .i64) w A1_2 l1_2.length l1_2) (hc1_2 : l1_2.length ≤ c1_2) (hr1_4 : Kd.C k35 w A1_4 l1_4.length l1_4) (hc1_4 : l1_4.length ≤ c1_4) (h : spec_ExpFind.f k l0 a1_0 a1_1 l1_2 a1_3 l1_4 = some (r1, r2)) :
  Calls Try.prog 19 #[.slice A0 l0.length c0, .agg #[.int .i64 a1_0, .string a1_1, .slice A1_2 l1_2.length c1_2, .int .i64 a1_3, .slice A1_4 l1_4.length c1_4]] w fun e w' => e = .returned (.tuple #[.string r1, .int .i64 r2]) ∧ Below w.heap.size w w' := by
 have hu35 := Try.underlying35
 have hu42 := Try.underlying42
 have HR0 := Aq hr0
 have HC0 := Aq hc0
 clear hr0 hc0
 have HR1_2 := Aq hr1_2
 have HC1_2 := Aq hc1_2
 clear hr1_2 hc1_2
 have HR1_4 := Aq hr1_4
 have HC1_4 := Aq hc1_4
 clear hr1_4 hc1_4
 have HB := Aq (Below.refl w.heap.size w)
 have H : (if a1_0 = 1 then (spec_ExpFind.l0 k l0 0 (wrap64 ((l0.length : Int) - 1)) a1_0 a1_1 l1_2 a1_3 l1_4) else (some ((⟨#[]⟩ : ByteArray), 0))) = some (r1, r2) := h
 clear h
 by_cases c3 : a1_0 = 1
 ·rw [if_pos c3] at H
  have c3b0 : (a1_0 == 1) = true := beq_iff_eq.mpr c3
  have c3b1 : (a1_0 != 1) = false := bne_eq_false_iff_eq.mpr c3
  clear c3
  have H' := Aq H
  clear H
  go_enter Try.func19, Try.ntmps19
  go_wp2_with (first | ((with_reducible refine gate_dst (N := 3) rfl ?_); refine box_event ?hg (N := 3) ?hd (cs := #[.int .i64 a1_0, .string a1_1, .slice A1_2 l1_2.length c1_2, .int .i64 a1_3, .slice A1_4 l1_4.length c1_4]) (t := 35) ?hr ?_; (case hd => rfl); (case hg => rfl); (case hr => first | (go_simp; done) | (go_simp; rfl)); intro gb3357 hg w4 hbox hb; have n0_ := Aq (below_step (by repeat (first | (with_reducible first | exact HB.out | apply zB | apply zC | apply zE) | exact HB.out)) hb); have n1_ := Aq (hbox); have n2_ := Aq ((by rw [hg]; exact (below_size (by repeat (first | (with_reducible first | exact HB.out | apply zB | apply zC | apply zE) | exact HB.out))) : w.heap.size ≤ gb3357)); have n3_ := Aq ((by rw [hg]; exact (below_size (by repeat (first | (with_reducible first | exact HB.out | apply zB | apply zC | apply zE) | exact HB.out))) : w.heap.size ≤ gb3357)); clear HB; have HB := n0_; have BK3357 := n1_; have GW3357 := n2_; have GE3357 := n3_; clear n0_ n1_ n2_ n3_ hb hbox hg; have hcz5_0 : w4.cell? ⟨gb3357, 0, none⟩ = some (.int .i64 a1_0) := (blk_cell BK3357.out 0).trans rfl; have hcz5_1 : w4.cell? ⟨gb3357, 1, none⟩ = some (.string a1_1) := (blk_cell BK3357.out 1).trans rfl; have hcz5_2 : w4.cell? ⟨gb3357, 2, none⟩ = some (.slice A1_2 l1_2.length c1_2) := (blk_cell BK3357.out 2).trans rfl; have hcz5_3 : w4.cell? ⟨gb3357, 3, none⟩ = some (.int .i64 a1_3) := (blk_cell BK3357.out 3).trans rfl; have hcz5_4 : w4.cell? ⟨gb3357, 4, none⟩ = some (.slice A1_4 l1_4.length c1_4) := (blk_cell BK3357.out 4).trans rfl; have hfz5_0 := blk_frozen BK3357.out 0; have hfz5_1 := blk_frozen BK3357.out 1; have hfz5_2 := blk_frozen BK3357.out 2; have hfz5_3 := blk_frozen BK3357.out 3; have hfz5_4 := blk_frozen BK3357.out 4))
  go_loopg [6, 7] k (fun kq v6 v7 w' => ∃ (x6_1 : Int) (x7_1 : Int), v6 = .int .i64 x6_1 ∧ v7 = .int .i64 x7_1 ∧ Aside0 (spec_ExpFind.l0 kq l0 x6_1 x7_1 a1_0 a1_1 l1_2 a1_3 l1_4 = some (r1, r2)) ∧ Aside0 (kq ≤ k) ∧ Aside0 (w'.heap[gb3357]? = some (.cells #[.int .i64 a1_0, .string a1_1, (.slice A1_2 l1_2.length c1_2), .int .i64 a1_3, (.slice A1_4 l1_4.length c1_4)] 35 (0, 0))) ∧ Aside0 (Below w.heap.size w w'))
  case atStart => exact ⟨(0), (wrap64 ((l0.length : Int) - 1)), (by first | rfl | (simp; done) | (simp [*]; done)), (by first | rfl | (simp; done) | (simp [*]; done)), H', ⟨Nat.le_refl _⟩, ⟨by (with_reducible repeat (first | refine zN ?_ _ | refine zD ?_ | refine zA ?_ _)); exact BK3357.out⟩, ⟨by repeat (first | (with_reducible first | exact HB.out | apply zB | apply zC | apply zE | refine below_set ?_ GE3357.out) | exact HB.out)⟩⟩
  case round =>
   clear H'
   try clear c1
   try clear p2
   try clear c3
   try clear c3b0
   try clear c3b1
   try clear hcz5_0
   try clear hcz5_1
   try clear hcz5_2
   try clear hcz5_3
   try clear hcz5_4
   try clear hfz5_0
   try clear hfz5_1
   try clear hfz5_2
   try clear hfz5_3
   try clear hfz5_4
   obtain ⟨x6_1, x7_1, rfl, rfl, HA, HK1, BK3357, HB⟩ := hrel
   cases gk with
   | zero => exact absurd HA.out (by simp [spec_ExpFind.l0])
   | succ k1 =>
    have H := HA.out
    clear HA
    simp only [spec_ExpFind.l0] at H
    by_cases c6 : x7_1 ≥ 0
    ·rw [if_pos c6] at H
     have c6b0 : decide (0 ≤ x7_1) = true := decide_eq_true c6
     clear c6
     by_cases c7 : 0 ≤ x7_1
     ·rw [if_pos c7] at H
      have c7b0 : decide (0 ≤ x7_1) = true := decide_eq_true c7
      clear c7
      by_cases c8 : x7_1 < (l0.length : Int)
      ·rw [if_pos c8] at H
       have c8b0 : decide (x7_1 < (l0.length : Int)) = true := decide_eq_true c8
       clear c8
       replace H := Option.bind_eq_some_iff.mp H
       obtain ⟨t3359, A90, H⟩ := H
       replace H : (if t3359 = true then ((spec_l2All.f k1 l0 a1_0 a1_1 l1_2 a1_3 l1_4 ((rd_T42 l0 x7_1).f1)).bind fun t3361 => (if t3361 = true then (some ((rd_T42 l0 x7_1).f2, 1)) else (spec_ExpFind.l0 k1 l0 2 (wrap64 (x7_1 - 1)) a1_0 a1_1 l1_2 a1_3 l1_4))) else (spec_ExpFind.l0 k1 l0 x6_1 (wrap64 (x7_1 - 1)) a1_0 a1_1 l1_2 a1_3 l1_4)) = some (r1, r2) := H
       have A9 := Aq A90
       clear A90
       by_cases c10 : t3359 = true
       ·subst c10
        have H1 : ((spec_l2All.f k1 l0 a1_0 a1_1 l1_2 a1_3 l1_4 ((rd_T42 l0 x7_1).f1)).bind fun t3361 => (if t3361 = true then (some ((rd_T42 l0 x7_1).f2, 1)) else (spec_ExpFind.l0 k1 l0 2 (wrap64 (x7_1 - 1)) a1_0 a1_1 l1_2 a1_3 l1_4))) = some (r1, r2) := by rw [if_pos rfl] at H; exact H
        clear H
        have H := H1
        clear H1
        replace H := Option.bind_eq_some_iff.mp H
        obtain ⟨t3361, A110, H⟩ := H
        replace H : (if t3361 = true then (some ((rd_T42 l0 x7_1).f2, 1)) else (spec_ExpFind.l0 k1 l0 2 (wrap64 (x7_1 - 1)) a1_0 a1_1 l1_2 a1_3 l1_4)) = some (r1, r2) := H
        have A11 := Aq A110
        clear A110
        by_cases c12 : t3361 = true
        ·subst c12
         have H1 : (some ((rd_T42 l0 x7_1).f2, 1)) = some (r1, r2) := by rw [if_pos rfl] at H; exact H
         clear H
         have H := H1
         clear H1
         simp only [Option.some.injEq, Prod.mk.injEq] at H
         obtain ⟨rfl, rfl⟩ := H
         try go_wp2
         have n0_ := Aq (zD BK3357.out)
         have n1_ := Aq (zE HB.out)
         clear BK3357 HB
         have BK3357 := n0_
         have HB := n1_
         clear n0_ n1_
         have p3358 : 0 ≤ (x7_1 : Int) := of_decide_eq_true (by first | (with_reducible assumption) | assumption)
         have q3358 : x7_1 < (l0.length : Int) := of_decide_eq_true (by first | (with_reducible assumption) | assumption)
         obtain ⟨ad3358, A3358_1, c3358_1, e3358, hx3358_0, hx3358_1, hx3358_2, hl3358_1, hi3358_1⟩ := at_T42 HR0.out x7_1 p3358 q3358
         have hw3358_2 := hx3358_2
         have hw3358_1 := hx3358_1
         have hw3358_0 := hx3358_0
         cases e3358
         replace hx3358_0 := (HB.out.cell (World.block_lt_of_cell? w _ hx3358_0)).trans hx3358_0
         replace hx3358_1 := (HB.out.cell (World.block_lt_of_cell? w _ hx3358_1)).trans hx3358_1
         replace hx3358_2 := (HB.out.cell (World.block_lt_of_cell? w _ hx3358_2)).trans hx3358_2
         have HR3358_1 := Aq hi3358_1
         have HC3358_1 := Aq hl3358_1
         clear hi3358_1 hl3358_1
         replace p3358 := eq_true p3358
         replace q3358 := eq_true q3358
         refine start_ (n := 7) (S := fun w' => w'.cell? ⟨gb3357, 0, none⟩ = some (.int .i64 a1_0) ∧ w'.cell? ⟨gb3357, 1, none⟩ = some (.string a1_1) ∧ w'.cell? ⟨gb3357, 2, none⟩ = some (.slice A1_2 l1_2.length c1_2) ∧ w'.cell? ⟨gb3357, 3, none⟩ = some (.int .i64 a1_3) ∧ w'.cell? ⟨gb3357, 4, none⟩ = some (.slice A1_4 l1_4.length c1_4) ∧ w'.cell? (ad3358.add ((x7_1).toNat * 3)) = some (.string ((rd_T42 l0 x7_1).f0)) ∧ w'.cell? ⟨(ad3358.add ((x7_1).toNat * 3)).block, (ad3358.add ((x7_1).toNat * 3)).off + 1, none⟩ = some (.slice A3358_1 ((rd_T42 l0 x7_1).f1).length c3358_1) ∧ w'.cell? ⟨(ad3358.add ((x7_1).toNat * 3)).block, (ad3358.add ((x7_1).toNat * 3)).off + 2, none⟩ = some (.string ((rd_T42 l0 x7_1).f2))) (ds := []) #[false, false, false, false, false, false, false] (by kernel_rfl) rfl rfl ⟨(blk_cell BK3357.out 0).trans rfl, (blk_cell BK3357.out 1).trans rfl, (blk_cell BK3357.out 2).trans rfl, (blk_cell BK3357.out 3).trans rfl, (blk_cell BK3357.out 4).trans rfl, ((HB.out.cell (World.block_lt_of_cell? w _ hw3358_0)).trans hw3358_0), ((HB.out.cell (World.block_lt_of_cell? w _ hw3358_1)).trans hw3358_1), ((HB.out.cell (World.block_lt_of_cell? w _ hw3358_2)).trans hw3358_2)⟩ (fun hHeld => ?_)
         generalize wr.drew = w13 at BK3357 HB HR3358_1 hx3358_0 hx3358_1 hx3358_2 hHeld ⊢
         refine pure_ (i := 0) (N := some 18) (v := ?_) (a' := ?_) #[true, false, false, false, false, false, false] rfl rfl (by kernel_rfl) (fun _ _ _ h => h) (Or.inl ⟨by rfl, ?_⟩) ?_ ?_
         rotate_left
         ·intro w'
          go_simp
          with_reducible rfl
         rotate_left
         ·simp only [Act.put, sA, sB, sC, i64_w, i32_w]
          rfl
         refine pure_ (i := 1) (N := some 19) (v := ?_) (a' := ?_) #[true, true, false, false, false, false, false] rfl rfl (by kernel_rfl) (fun _ _ _ h => h) (Or.inl ⟨by rfl, ?_⟩) ?_ ?_
         rotate_left
         ·intro w'
          go_simp
          with_reducible rfl
         rotate_left
         ·simp only [Act.put, sA, sB, sC, i64_w, i32_w]
          rfl
         refine pure_ (i := 2) (N := some 20) (v := ?_) (a' := ?_) #[true, true, true, false, false, false, false] rfl rfl (by kernel_rfl) (fun _ _ _ h => h) (Or.inl ⟨by rfl, ?_⟩) ?_ ?_
         rotate_left
         ·intro w'
          go_simp
          with_reducible rfl
         rotate_left
         ·simp only [Act.put, sA, sB, sC, i64_w, i32_w]
          rfl
         refine take_ (i := 3) (N := some 21) (v := ?_) (a' := ?_) #[true, true, true, true, false, false, false] rfl rfl (by kernel_rfl) (fun _ _ _ h => h) (Or.inl ⟨by rfl, ?_⟩) hHeld ?_ ?_
         rotate_left
         ·rintro w' ⟨s0, s1, s2, s3, s4, s5, s6, s7⟩
          go_simp
          with_reducible rfl
         rotate_left
         ·simp only [Act.put, sA, sB, sC, i64_w, i32_w]
          rfl
         refine take_ (i := 4) (N := some 22) (v := ?_) (a' := ?_) #[true, true, true, true, true, false, false] rfl rfl (by kernel_rfl) (fun _ _ _ h => h) (Or.inl ⟨by rfl, ?_⟩) hHeld ?_ ?_
         rotate_left
         ·rintro w' ⟨s0, s1, s2, s3, s4, s5, s6, s7⟩
          go_simp
          with_reducible rfl
         rotate_left
         ·simp only [Act.put, sA, sB, sC, i64_w, i32_w]
          rfl
         refine one_ (i := 5) (N := some 23) #[true, true, true, true, true, true, false] rfl rfl (by kernel_rfl) (by decide) (fun K hK => ?_)
         refine goes_ Try.func50 (by kernel_rfl) rfl #[.agg #[.string ((rd_T42 l0 x7_1).f0), .slice A3358_1 ((rd_T42 l0 x7_1).f1).length c3358_1, .string ((rd_T42 l0 x7_1).f2)], .agg #[.int .i64 a1_0, .string a1_1, .slice A1_2 l1_2.length c1_2, .int .i64 a1_3, .slice A1_4 l1_4.length c1_4]] (by rfl) rfl rfl (by (try simp only [List.map_toArray, List.map_cons, List.map_nil]); first | done | rfl | (simp only [List.length_drop, List.length_take]; rfl)) ?_
         with_reducible refine (spec_l2Fits.calls k1 ((rd_T42 l0 x7_1).f0) _ _ ((rd_T42 l0 x7_1).f1) ((rd_T42 l0 x7_1).f2) a1_0 a1_1 _ _ l1_2 a1_3 _ _ l1_4 true _ ?side1 ?side2 ?side3 ?side4 ?side5 ?side6 A9.out).mono ?_
         (case side1 => repeat (first | exact (Kd.C_below HR3358_1.out HB.out) | (with_reducible refine Kd.C_alloc ?_ _) | (with_reducible refine Kd.C_drewN ?_ _) | (with_reducible refine Kd.C_drew ?_)))
         (case side2 => exact HC3358_1.out)
         (case side3 => repeat (first | exact (Kd.C_below HR1_2.out HB.out) | (with_reducible refine Kd.C_alloc ?_ _) | (with_reducible refine Kd.C_drewN ?_ _) | (with_reducible refine Kd.C_drew ?_)))
         (case side4 => exact HC1_2.out)
         (case side5 => repeat (first | exact (Kd.C_below HR1_4.out HB.out) | (with_reducible refine Kd.C_alloc ?_ _) | (with_reducible refine Kd.C_drewN ?_ _) | (with_reducible refine Kd.C_drew ?_)))
         (case side6 => exact HC1_4.out)
         rintro e w14 ⟨rfl, hb⟩
         refine ⟨_, rfl, ?_⟩
         have n0_ := Aq (blk_below (g := gb3357) (o := .cells #[.int .i64 a1_0, .string a1_1, .slice A1_2 l1_2.length c1_2, .int .i64 a1_3, .slice A1_4 l1_4.length c1_4] 35 (0, 0)) (by (with_reducible repeat (first | refine zN ?_ _ | refine zD ?_ | refine zA ?_ _)); exact BK3357.out) hb)
         have n1_ := Aq (below_step (by repeat (first | (with_reducible first | exact HB.out | apply zB | apply zC | apply zE | refine below_set ?_ GE3357.out) | exact HB.out)) hb)
         clear BK3357 HB
         have BK3357 := n0_
         have HB := n1_
         clear n0_ n1_
         (try clear hb)
         (try clear hb2)
         (try clear hk)
         (try clear hi)
         refine hK.out _ _ ⟨(blk_cell BK3357.out 0).trans rfl, (blk_cell BK3357.out 1).trans rfl, (blk_cell BK3357.out 2).trans rfl, (blk_cell BK3357.out 3).trans rfl, (blk_cell BK3357.out 4).trans rfl, ((HB.out.cell (World.block_lt_of_cell? w _ hw3358_0)).trans hw3358_0), ((HB.out.cell (World.block_lt_of_cell? w _ hw3358_1)).trans hw3358_1), ((HB.out.cell (World.block_lt_of_cell? w _ hw3358_2)).trans hw3358_2)⟩ (fun hHeld => ?_)
         clear hK K
         refine norm_ (a' := ?_) ?_ ?_
         rotate_left
         ·show Act.put _ (some 23) _ = _
          simp only [Act.put, sA, sB, sC, i64_w, i32_w]
          rfl
         refine pure_ (i := 6) (N := some 24) (v := ?_) (a' := ?_) #[true, true, true, true, true, true, true] rfl rfl (by kernel_rfl) (fun _ _ _ h => h) (Or.inl ⟨by rfl, ?_⟩) ?_ ?_
         rotate_left
         ·intro w'
          go_simp
          with_reducible rfl
         rotate_left
         ·simp only [Act.put, sA, sB, sC, i64_w, i32_w]
          rfl
         refine done_ (by kernel_rfl) ?_
         try go_wp2
         have n0_ := Aq (zD BK3357.out)
         have n1_ := Aq (zE HB.out)
         clear BK3357 HB
         have BK3357 := n0_
         have HB := n1_
         clear n0_ n1_
         have p3360 : 0 ≤ (x7_1 : Int) := of_decide_eq_true (by first | (with_reducible assumption) | assumption)
         have q3360 : x7_1 < (l0.length : Int) := of_decide_eq_true (by first | (with_reducible assumption) | assumption)
         obtain ⟨ad3360, A3360_1, c3360_1, e3360, hx3360_0, hx3360_1, hx3360_2, hl3360_1, hi3360_1⟩ := at_T42 HR0.out x7_1 p3360 q3360
         have hw3360_2 := hx3360_2
         have hw3360_1 := hx3360_1
         have hw3360_0 := hx3360_0
         obtain rfl : ad3358 = ad3360 := (by injection e3360)
         obtain ⟨rfl, rfl⟩ : A3358_1 = A3360_1 ∧ c3358_1 = c3360_1 := (by have hq_ := Option.some.inj (hw3358_1.symm.trans hx3360_1); injection hq_ with hqa_ hqn_ hqc_; exact ⟨hqa_, hqc_⟩)
         replace hx3360_0 := (HB.out.cell (World.block_lt_of_cell? w _ hx3360_0)).trans hx3360_0
         replace hx3360_1 := (HB.out.cell (World.block_lt_of_cell? w _ hx3360_1)).trans hx3360_1
         replace hx3360_2 := (HB.out.cell (World.block_lt_of_cell? w _ hx3360_2)).trans hx3360_2
         have HR3360_1 := Aq hi3360_1
         have HC3360_1 := Aq hl3360_1
         clear hi3360_1 hl3360_1
         replace p3360 := eq_true p3360
         replace q3360 := eq_true q3360
         refine start_ (n := 8) (S := fun w' => w'.cell? ⟨gb3357, 0, none⟩ = some (.int .i64 a1_0) ∧ w'.cell? ⟨gb3357, 1, none⟩ = some (.string a1_1) ∧ w'.cell? ⟨gb3357, 2, none⟩ = some (.slice A1_2 l1_2.length c1_2) ∧ w'.cell? ⟨gb3357, 3, none⟩ = some (.int .i64 a1_3) ∧ w'.cell? ⟨gb3357, 4, none⟩ = some (.slice A1_4 l1_4.length c1_4) ∧ w'.cell? (ad3358.add ((x7_1).toNat * 3)) = some (.string ((rd_T42 l0 x7_1).f0)) ∧ w'.cell? ⟨(ad3358.add ((x7_1).toNat * 3)).block, (ad3358.add ((x7_1).toNat * 3)).off + 1, none⟩ = some (.slice A3358_1 ((rd_T42 l0 x7_1).f1).length c3358_1) ∧ w'.cell? ⟨(ad3358.add ((x7_1).toNat * 3)).block, (ad3358.add ((x7_1).toNat * 3)).off + 2, none⟩ = some (.string ((rd_T42 l0 x7_1).f2))) (ds := []) #[false, false, false, false, false, false, false, false] (by kernel_rfl) rfl rfl ⟨(blk_cell BK3357.out 0).trans rfl, (blk_cell BK3357.out 1).trans rfl, (blk_cell BK3357.out 2).trans rfl, (blk_cell BK3357.out 3).trans rfl, (blk_cell BK3357.out 4).trans rfl, ((HB.out.cell (World.block_lt_of_cell? w _ hw3360_0)).trans hw3360_0), ((HB.out.cell (World.block_lt_of_cell? w _ hw3360_1)).trans hw3360_1), ((HB.out.cell (World.block_lt_of_cell? w _ hw3360_2)).trans hw3360_2)⟩ (fun hHeld => ?_); refine with_tabW spec_ExpFind.tab9 spec_ExpFind.bits9 (fun HT_ HW_ => ?_)
         generalize w14.drew = w15 at BK3357 HB HR3360_1 hx3360_0 hx3360_1 hx3360_2 hHeld ⊢
         refine pure_ (i := 0) (N := some 25) (v := ?_) (a' := ?_) #[true, false, false, false, false, false, false, false] rfl rfl (any_of HT_.out (by kernel_rfl)) (fun _ _ _ h => h) (Or.inl ⟨by rfl, ?_⟩) ?_ ?_
         rotate_left
         ·intro w'
          go_simp
          with_reducible rfl
         rotate_left
         ·simp only [Act.put, sA, sB, sC, i64_w, i32_w]
          rfl
         refine pure_ (i := 2) (N := some 27) (v := ?_) (a' := ?_) #[true, false, true, false, false, false, false, false] rfl rfl (any_of HT_.out (by kernel_rfl)) (fun _ _ _ h => h) (Or.inl ⟨by rfl, ?_⟩) ?_ ?_
         rotate_left
         ·intro w'
          go_simp
          with_reducible rfl
         rotate_left
         ·simp only [Act.put, sA, sB, sC, i64_w, i32_w]
          rfl
         refine pure_ (i := 3) (N := some 28) (v := ?_) (a' := ?_) #[true, false, true, true, false, false, false, false] rfl rfl (any_of HT_.out (by kernel_rfl)) (fun _ _ _ h => h) (Or.inl ⟨by rfl, ?_⟩) ?_ ?_
         rotate_left
         ·intro w'
          go_simp
          with_reducible rfl
         rotate_left
         ·simp only [Act.put, sA, sB, sC, i64_w, i32_w]
          rfl
         refine pure_ (i := 4) (N := some 29) (v := ?_) (a' := ?_) #[true, false, true, true, true, false, false, false] rfl rfl (any_of HT_.out (by kernel_rfl)) (fun _ _ _ h => h) (Or.inl ⟨by rfl, ?_⟩) ?_ ?_
         rotate_left
         ·intro w'
          go_simp
          with_reducible rfl
         rotate_left
         ·simp only [Act.put, sA, sB, sC, i64_w, i32_w]
          rfl
         refine pure_ (i := 5) (N := some 30) (v := ?_) (a' := ?_) #[true, false, true, true, true, true, false, false] rfl rfl (any_of HT_.out (by kernel_rfl)) (fun _ _ _ h => h) (Or.inl ⟨by rfl, ?_⟩) ?_ ?_
         rotate_left
         ·intro w'
          go_simp
          with_reducible rfl
         rotate_left
         ·simp only [Act.put, sA, sB, sC, i64_w, i32_w]
          rfl
         refine take_ (i := 1) (N := some 26) (v := ?_) (a' := ?_) #[true, true, true, true, true, true, false, false] rfl rfl (take_ofW HT_.out HW_.out (by kernel_rfl)) (fun _ _ _ h => h) (Or.inl ⟨by rfl, ?_⟩) hHeld ?_ ?_
         rotate_left
         ·rintro w' ⟨s0, s1, s2, s3, s4, s5, s6, s7⟩
          go_simp
          with_reducible rfl
         rotate_left
         ·simp only [Act.put, sA, sB, sC, i64_w, i32_w]
          rfl
         refine take_ (i := 6) (N := some 31) (v := ?_) (a' := ?_) #[true, true, true, true, true, true, true, false] rfl rfl (take_ofW HT_.out HW_.out (by kernel_rfl)) (fun _ _ _ h => h) (Or.inl ⟨by rfl, ?_⟩) hHeld ?_ ?_
         rotate_left
         ·rintro w' ⟨s0, s1, s2, s3, s4, s5, s6, s7⟩
          go_simp
          with_reducible rfl
         rotate_left
         ·simp only [Act.put, sA, sB, sC, i64_w, i32_w]
          rfl
         refine one_ (i := 7) (N := some 32) #[true, true, true, true, true, true, true, true] rfl rfl (one_of HT_.out (by kernel_rfl)) (by decide) (fun K hK => ?_)
         refine goes_ Try.func51 (by kernel_rfl) rfl #[.slice (some ad3358) l0.length c0, .agg #[.int .i64 a1_0, .string a1_1, .slice A1_2 l1_2.length c1_2, .int .i64 a1_3, .slice A1_4 l1_4.length c1_4], .slice A3358_1 ((rd_T42 l0 x7_1).f1).length c3358_1] (by rfl) rfl rfl (by (try simp only [List.map_toArray, List.map_cons, List.map_nil]); first | done | rfl | (simp only [List.length_drop, List.length_take]; rfl)) ?_
         with_reducible refine (spec_l2All.calls k1 _ _ l0 a1_0 a1_1 _ _ l1_2 a1_3 _ _ l1_4 _ _ ((rd_T42 l0 x7_1).f1) true _ ?side1 ?side2 ?side3 ?side4 ?side5 ?side6 ?side7 ?side8 A11.out).mono ?_
         (case side1 => repeat (first | exact (Kd.C_below HR0.out HB.out) | (with_reducible refine Kd.C_alloc ?_ _) | (with_reducible refine Kd.C_drewN ?_ _) | (with_reducible refine Kd.C_drew ?_)))
         (case side2 => exact HC0.out)
         (case side3 => repeat (first | exact (Kd.C_below HR1_2.out HB.out) | (with_reducible refine Kd.C_alloc ?_ _) | (with_reducible refine Kd.C_drewN ?_ _) | (with_reducible refine Kd.C_drew ?_)))
         (case side4 => exact HC1_2.out)
         (case side5 => repeat (first | exact (Kd.C_below HR1_4.out HB.out) | (with_reducible refine Kd.C_alloc ?_ _) | (with_reducible refine Kd.C_drewN ?_ _) | (with_reducible refine Kd.C_drew ?_)))
         (case side6 => exact HC1_4.out)
         (case side7 => repeat (first | exact (Kd.C_below HR3360_1.out HB.out) | (with_reducible refine Kd.C_alloc ?_ _) | (with_reducible refine Kd.C_drewN ?_ _) | (with_reducible refine Kd.C_drew ?_)))
         (case side8 => exact HC3360_1.out)
         rintro e w16 ⟨rfl, hb⟩
         refine ⟨_, rfl, ?_⟩
         have n0_ := Aq (blk_below (g := gb3357) (o := .cells #[.int .i64 a1_0, .string a1_1, .slice A1_2 l1_2.length c1_2, .int .i64 a1_3, .slice A1_4 l1_4.length c1_4] 35 (0, 0)) (by (with_reducible repeat (first | refine zN ?_ _ | refine zD ?_ | refine zA ?_ _)); exact BK3357.out) hb)
         have n1_ := Aq (below_step (by repeat (first | (with_reducible first | exact HB.out | apply zB | apply zC | apply zE | refine below_set ?_ GE3357.out) | exact HB.out)) hb)
         clear BK3357 HB
         have BK3357 := n0_
         have HB := n1_
         clear n0_ n1_
         (try clear hb)
         (try clear hb2)
         (try clear hk)
         (try clear hi)
         refine hK.out _ _ ⟨(blk_cell BK3357.out 0).trans rfl, (blk_cell BK3357.out 1).trans rfl, (blk_cell BK3357.out 2).trans rfl, (blk_cell BK3357.out 3).trans rfl, (blk_cell BK3357.out 4).trans rfl, ((HB.out.cell (World.block_lt_of_cell? w _ hw3360_0)).trans hw3360_0), ((HB.out.cell (World.block_lt_of_cell? w _ hw3360_1)).trans hw3360_1), ((HB.out.cell (World.block_lt_of_cell? w _ hw3360_2)).trans hw3360_2)⟩ (fun hHeld => ?_)
         clear hK K
         refine norm_ (a' := ?_) ?_ ?_
         rotate_left
         ·show Act.put _ (some 32) _ = _
          simp only [Act.put, sA, sB, sC, i64_w, i32_w]
          rfl
         refine done_ (done_of HT_.out (by kernel_rfl)) ?_
         have p3362 : 0 ≤ (x7_1 : Int) := of_decide_eq_true (by first | (with_reducible assumption) | assumption)
         have q3362 : x7_1 < (l0.length : Int) := of_decide_eq_true (by first | (with_reducible assumption) | assumption)
         obtain ⟨ad3362, A3362_1, c3362_1, e3362, hx3362_0, hx3362_1, hx3362_2, hl3362_1, hi3362_1⟩ := at_T42 HR0.out x7_1 p3362 q3362
         obtain rfl : ad3358 = ad3362 := (by injection e3362)
         obtain ⟨rfl, rfl⟩ : A3358_1 = A3362_1 ∧ c3358_1 = c3362_1 := (by have hq_ := Option.some.inj (hw3358_1.symm.trans hx3362_1); injection hq_ with hqa_ hqn_ hqc_; exact ⟨hqa_, hqc_⟩)
         replace hx3362_0 := (HB.out.cell (World.block_lt_of_cell? w _ hx3362_0)).trans hx3362_0
         replace hx3362_1 := (HB.out.cell (World.block_lt_of_cell? w _ hx3362_1)).trans hx3362_1
         replace hx3362_2 := (HB.out.cell (World.block_lt_of_cell? w _ hx3362_2)).trans hx3362_2
         have HR3362_1 := Aq hi3362_1
         have HC3362_1 := Aq hl3362_1
         clear hi3362_1 hl3362_1
         replace p3362 := eq_true p3362
         replace q3362 := eq_true q3362
         try go_wp2
         go_ret2
         exact ⟨by first | rfl | (simp [errW_none, errW_some] <;> rfl) | (simp [*, errW_none, errW_some] <;> rfl), by repeat (first | (with_reducible first | exact HB.out | apply zB | apply zC | apply zE | refine below_set ?_ GE3357.out) | exact HB.out)⟩
        ·replace c12 := Bool.eq_false_iff.mpr c12
         subst c12
         have H1 : (spec_ExpFind.l0 k1 l0 2 (wrap64 (x7_1 - 1)) a1_0 a1_1 l1_2 a1_3 l1_4) = some (r1, r2) := by rw [if_neg (show ¬ (false = true) by decide)] at H; exact H
         clear H
         have H := H1
         clear H1
         have H' := Aq H
         clear H
         try go_wp2
         have n0_ := Aq (zD BK3357.out)
         have n1_ := Aq (zE HB.out)
         clear BK3357 HB
         have BK3357 := n0_
         have HB := n1_
         clear n0_ n1_
         have p3358 : 0 ≤ (x7_1 : Int) := of_decide_eq_true (by first | (with_reducible assumption) | assumption)
         have q3358 : x7_1 < (l0.length : Int) := of_decide_eq_true (by first | (with_reducible assumption) | assumption)
         obtain ⟨ad3358, A3358_1, c3358_1, e3358, hx3358_0, hx3358_1, hx3358_2, hl3358_1, hi3358_1⟩ := at_T42 HR0.out x7_1 p3358 q3358
         have hw3358_2 := hx3358_2
         have hw3358_1 := hx3358_1
         have hw3358_0 := hx3358_0
         cases e3358
         replace hx3358_0 := (HB.out.cell (World.block_lt_of_cell? w _ hx3358_0)).trans hx3358_0
         replace hx3358_1 := (HB.out.cell (World.block_lt_of_cell? w _ hx3358_1)).trans hx3358_1
         replace hx3358_2 := (HB.out.cell (World.block_lt_of_cell? w _ hx3358_2)).trans hx3358_2
         have HR3358_1 := Aq hi3358_1
         have HC3358_1 := Aq hl3358_1
         clear hi3358_1 hl3358_1
         replace p3358 := eq_true p3358
         replace q3358 := eq_true q3358
         refine start_ (n := 7) (S := fun w' => w'.cell? ⟨gb3357, 0, none⟩ = some (.int .i64 a1_0) ∧ w'.cell? ⟨gb3357, 1, none⟩ = some (.string a1_1) ∧ w'.cell? ⟨gb3357, 2, none⟩ = some (.slice A1_2 l1_2.length c1_2) ∧ w'.cell? ⟨gb3357, 3, none⟩ = some (.int .i64 a1_3) ∧ w'.cell? ⟨gb3357, 4, none⟩ = some (.slice A1_4 l1_4.length c1_4) ∧ w'.cell? (ad3358.add ((x7_1).toNat * 3)) = some (.string ((rd_T42 l0 x7_1).f0)) ∧ w'.cell? ⟨(ad3358.add ((x7_1).toNat * 3)).block, (ad3358.add ((x7_1).toNat * 3)).off + 1, none⟩ = some (.slice A3358_1 ((rd_T42 l0 x7_1).f1).length c3358_1) ∧ w'.cell? ⟨(ad3358.add ((x7_1).toNat * 3)).block, (ad3358.add ((x7_1).toNat * 3)).off + 2, none⟩ = some (.string ((rd_T42 l0 x7_1).f2))) (ds := []) #[false, false, false, false, false, false, false] (by kernel_rfl) rfl rfl ⟨(blk_cell BK3357.out 0).trans rfl, (blk_cell BK3357.out 1).trans rfl, (blk_cell BK3357.out 2).trans rfl, (blk_cell BK3357.out 3).trans rfl, (blk_cell BK3357.out 4).trans rfl, ((HB.out.cell (World.block_lt_of_cell? w _ hw3358_0)).trans hw3358_0), ((HB.out.cell (World.block_lt_of_cell? w _ hw3358_1)).trans hw3358_1), ((HB.out.cell (World.block_lt_of_cell? w _ hw3358_2)).trans hw3358_2)⟩ (fun hHeld => ?_)
         generalize wr.drew = w17 at BK3357 HB HR3358_1 hx3358_0 hx3358_1 hx3358_2 hHeld ⊢
         refine pure_ (i := 0) (N := some 18) (v := ?_) (a' := ?_) #[true, false, false, false, false, false, false] rfl rfl (by kernel_rfl) (fun _ _ _ h => h) (Or.inl ⟨by rfl, ?_⟩) ?_ ?_
         rotate_left
         ·intro w'
          go_simp
          with_reducible rfl
         rotate_left
         ·simp only [Act.put, sA, sB, sC, i64_w, i32_w]
          rfl
         refine pure_ (i := 1) (N := some 19) (v := ?_) (a' := ?_) #[true, true, false, false, false, false, false] rfl rfl (by kernel_rfl) (fun _ _ _ h => h) (Or.inl ⟨by rfl, ?_⟩) ?_ ?_
         rotate_left
         ·intro w'
          go_simp
          with_reducible rfl
         rotate_left
         ·simp only [Act.put, sA, sB, sC, i64_w, i32_w]
          rfl
         refine pure_ (i := 2) (N := some 20) (v := ?_) (a' := ?_) #[true, true, true, false, false, false, false] rfl rfl (by kernel_rfl) (fun _ _ _ h => h) (Or.inl ⟨by rfl, ?_⟩) ?_ ?_
         rotate_left
         ·intro w'
          go_simp
          with_reducible rfl
         rotate_left
         ·simp only [Act.put, sA, sB, sC, i64_w, i32_w]
          rfl
         refine take_ (i := 3) (N := some 21) (v := ?_) (a' := ?_) #[true, true, true, true, false, false, false] rfl rfl (by kernel_rfl) (fun _ _ _ h => h) (Or.inl ⟨by rfl, ?_⟩) hHeld ?_ ?_
         rotate_left
         ·rintro w' ⟨s0, s1, s2, s3, s4, s5, s6, s7⟩
          go_simp
          with_reducible rfl
         rotate_left
         ·simp only [Act.put, sA, sB, sC, i64_w, i32_w]
          rfl
         refine take_ (i := 4) (N := some 22) (v := ?_) (a' := ?_) #[true, true, true, true, true, false, false] rfl rfl (by kernel_rfl) (fun _ _ _ h => h) (Or.inl ⟨by rfl, ?_⟩) hHeld ?_ ?_
         rotate_left
         ·rintro w' ⟨s0, s1, s2, s3, s4, s5, s6, s7⟩
          go_simp
          with_reducible rfl
         rotate_left
         ·simp only [Act.put, sA, sB, sC, i64_w, i32_w]
          rfl
         refine one_ (i := 5) (N := some 23) #[true, true, true, true, true, true, false] rfl rfl (by kernel_rfl) (by decide) (fun K hK => ?_)
         refine goes_ Try.func50 (by kernel_rfl) rfl #[.agg #[.string ((rd_T42 l0 x7_1).f0), .slice A3358_1 ((rd_T42 l0 x7_1).f1).length c3358_1, .string ((rd_T42 l0 x7_1).f2)], .agg #[.int .i64 a1_0, .string a1_1, .slice A1_2 l1_2.length c1_2, .int .i64 a1_3, .slice A1_4 l1_4.length c1_4]] (by rfl) rfl rfl (by (try simp only [List.map_toArray, List.map_cons, List.map_nil]); first | done | rfl | (simp only [List.length_drop, List.length_take]; rfl)) ?_
         with_reducible refine (spec_l2Fits.calls k1 ((rd_T42 l0 x7_1).f0) _ _ ((rd_T42 l0 x7_1).f1) ((rd_T42 l0 x7_1).f2) a1_0 a1_1 _ _ l1_2 a1_3 _ _ l1_4 true _ ?side1 ?side2 ?side3 ?side4 ?side5 ?side6 A9.out).mono ?_
         (case side1 => repeat (first | exact (Kd.C_below HR3358_1.out HB.out) | (with_reducible refine Kd.C_alloc ?_ _) | (with_reducible refine Kd.C_drewN ?_ _) | (with_reducible refine Kd.C_drew ?_)))
         (case side2 => exact HC3358_1.out)
         (case side3 => repeat (first | exact (Kd.C_below HR1_2.out HB.out) | (with_reducible refine Kd.C_alloc ?_ _) | (with_reducible refine Kd.C_drewN ?_ _) | (with_reducible refine Kd.C_drew ?_)))
         (case side4 => exact HC1_2.out)
         (case side5 => repeat (first | exact (Kd.C_below HR1_4.out HB.out) | (with_reducible refine Kd.C_alloc ?_ _) | (with_reducible refine Kd.C_drewN ?_ _) | (with_reducible refine Kd.C_drew ?_)))
         (case side6 => exact HC1_4.out)
         rintro e w18 ⟨rfl, hb⟩
         refine ⟨_, rfl, ?_⟩
         have n0_ := Aq (blk_below (g := gb3357) (o := .cells #[.int .i64 a1_0, .string a1_1, .slice A1_2 l1_2.length c1_2, .int .i64 a1_3, .slice A1_4 l1_4.length c1_4] 35 (0, 0)) (by (with_reducible repeat (first | refine zN ?_ _ | refine zD ?_ | refine zA ?_ _)); exact BK3357.out) hb)
         have n1_ := Aq (below_step (by repeat (first | (with_reducible first | exact HB.out | apply zB | apply zC | apply zE | refine below_set ?_ GE3357.out) | exact HB.out)) hb)
         clear BK3357 HB
         have BK3357 := n0_
         have HB := n1_
         clear n0_ n1_
         (try clear hb)
         (try clear hb2)
         (try clear hk)
         (try clear hi)
         refine hK.out _ _ ⟨(blk_cell BK3357.out 0).trans rfl, (blk_cell BK3357.out 1).trans rfl, (blk_cell BK3357.out 2).trans rfl, (blk_cell BK3357.out 3).trans rfl, (blk_cell BK3357.out 4).trans rfl, ((HB.out.cell (World.block_lt_of_cell? w _ hw3358_0)).trans hw3358_0), ((HB.out.cell (World.block_lt_of_cell? w _ hw3358_1)).trans hw3358_1), ((HB.out.cell (World.block_lt_of_cell? w _ hw3358_2)).trans hw3358_2)⟩ (fun hHeld => ?_)
         clear hK K
         refine norm_ (a' := ?_) ?_ ?_
         rotate_left
         ·show Act.put _ (some 23) _ = _
          simp only [Act.put, sA, sB, sC, i64_w, i32_w]
          rfl
         refine pure_ (i := 6) (N := some 24) (v := ?_) (a' := ?_) #[true, true, true, true, true, true, true] rfl rfl (by kernel_rfl) (fun _ _ _ h => h) (Or.inl ⟨by rfl, ?_⟩) ?_ ?_
         rotate_left
         ·intro w'
          go_simp
          with_reducible rfl
         rotate_left
         ·simp only [Act.put, sA, sB, sC, i64_w, i32_w]
          rfl
         refine done_ (by kernel_rfl) ?_
         try go_wp2
         have n0_ := Aq (zD BK3357.out)
         have n1_ := Aq (zE HB.out)
         clear BK3357 HB
         have BK3357 := n0_
         have HB := n1_
         clear n0_ n1_
         have p3360 : 0 ≤ (x7_1 : Int) := of_decide_eq_true (by first | (with_reducible assumption) | assumption)
         have q3360 : x7_1 < (l0.length : Int) := of_decide_eq_true (by first | (with_reducible assumption) | assumption)
         obtain ⟨ad3360, A3360_1, c3360_1, e3360, hx3360_0, hx3360_1, hx3360_2, hl3360_1, hi3360_1⟩ := at_T42 HR0.out x7_1 p3360 q3360
         have hw3360_2 := hx3360_2
         have hw3360_1 := hx3360_1
         have hw3360_0 := hx3360_0
         obtain rfl : ad3358 = ad3360 := (by injection e3360)
         obtain ⟨rfl, rfl⟩ : A3358_1 = A3360_1 ∧ c3358_1 = c3360_1 := (by have hq_ := Option.some.inj (hw3358_1.symm.trans hx3360_1); injection hq_ with hqa_ hqn_ hqc_; exact ⟨hqa_, hqc_⟩)
         replace hx3360_0 := (HB.out.cell (World.block_lt_of_cell? w _ hx3360_0)).trans hx3360_0
         replace hx3360_1 := (HB.out.cell (World.block_lt_of_cell? w _ hx3360_1)).trans hx3360_1
         replace hx3360_2 := (HB.out.cell (World.block_lt_of_cell? w _ hx3360_2)).trans hx3360_2
         have HR3360_1 := Aq hi3360_1
         have HC3360_1 := Aq hl3360_1
         clear hi3360_1 hl3360_1
         replace p3360 := eq_true p3360
         replace q3360 := eq_true q3360
         refine start_ (n := 8) (S := fun w' => w'.cell? ⟨gb3357, 0, none⟩ = some (.int .i64 a1_0) ∧ w'.cell? ⟨gb3357, 1, none⟩ = some (.string a1_1) ∧ w'.cell? ⟨gb3357, 2, none⟩ = some (.slice A1_2 l1_2.length c1_2) ∧ w'.cell? ⟨gb3357, 3, none⟩ = some (.int .i64 a1_3) ∧ w'.cell? ⟨gb3357, 4, none⟩ = some (.slice A1_4 l1_4.length c1_4) ∧ w'.cell? (ad3358.add ((x7_1).toNat * 3)) = some (.string ((rd_T42 l0 x7_1).f0)) ∧ w'.cell? ⟨(ad3358.add ((x7_1).toNat * 3)).block, (ad3358.add ((x7_1).toNat * 3)).off + 1, none⟩ = some (.slice A3358_1 ((rd_T42 l0 x7_1).f1).length c3358_1) ∧ w'.cell? ⟨(ad3358.add ((x7_1).toNat * 3)).block, (ad3358.add ((x7_1).toNat * 3)).off + 2, none⟩ = some (.string ((rd_T42 l0 x7_1).f2))) (ds := []) #[false, false, false, false, false, false, false, false] (by kernel_rfl) rfl rfl ⟨(blk_cell BK3357.out 0).trans rfl, (blk_cell BK3357.out 1).trans rfl, (blk_cell BK3357.out 2).trans rfl, (blk_cell BK3357.out 3).trans rfl, (blk_cell BK3357.out 4).trans rfl, ((HB.out.cell (World.block_lt_of_cell? w _ hw3360_0)).trans hw3360_0), ((HB.out.cell (World.block_lt_of_cell? w _ hw3360_1)).trans hw3360_1), ((HB.out.cell (World.block_lt_of_cell? w _ hw3360_2)).trans hw3360_2)⟩ (fun hHeld => ?_); refine with_tabW spec_ExpFind.tab9 spec_ExpFind.bits9 (fun HT_ HW_ => ?_)
         generalize w18.drew = w19 at BK3357 HB HR3360_1 hx3360_0 hx3360_1 hx3360_2 hHeld ⊢
         refine pure_ (i := 0) (N := some 25) (v := ?_) (a' := ?_) #[true, false, false, false, false, false, false, false] rfl rfl (any_of HT_.out (by kernel_rfl)) (fun _ _ _ h => h) (Or.inl ⟨by rfl, ?_⟩) ?_ ?_
         rotate_left
         ·intro w'
          go_simp
          with_reducible rfl
         rotate_left
         ·simp only [Act.put, sA, sB, sC, i64_w, i32_w]
          rfl
         refine pure_ (i := 2) (N := some 27) (v := ?_) (a' := ?_) #[true, false, true, false, false, false, false, false] rfl rfl (any_of HT_.out (by kernel_rfl)) (fun _ _ _ h => h) (Or.inl ⟨by rfl, ?_⟩) ?_ ?_
         rotate_left
         ·intro w'
          go_simp
          with_reducible rfl
         rotate_left
         ·simp only [Act.put, sA, sB, sC, i64_w, i32_w]
          rfl
         refine pure_ (i := 3) (N := some 28) (v := ?_) (a' := ?_) #[true, false, true, true, false, false, false, false] rfl rfl (any_of HT_.out (by kernel_rfl)) (fun _ _ _ h => h) (Or.inl ⟨by rfl, ?_⟩) ?_ ?_
         rotate_left
         ·intro w'
          go_simp
          with_reducible rfl
         rotate_left
         ·simp only [Act.put, sA, sB, sC, i64_w, i32_w]
          rfl
         refine pure_ (i := 4) (N := some 29) (v := ?_) (a' := ?_) #[true, false, true, true, true, false, false, false] rfl rfl (any_of HT_.out (by kernel_rfl)) (fun _ _ _ h => h) (Or.inl ⟨by rfl, ?_⟩) ?_ ?_
         rotate_left
         ·intro w'
          go_simp
          with_reducible rfl
         rotate_left
         ·simp only [Act.put, sA, sB, sC, i64_w, i32_w]
          rfl
         refine pure_ (i := 5) (N := some 30) (v := ?_) (a' := ?_) #[true, false, true, true, true, true, false, false] rfl rfl (any_of HT_.out (by kernel_rfl)) (fun _ _ _ h => h) (Or.inl ⟨by rfl, ?_⟩) ?_ ?_
         rotate_left
         ·intro w'
          go_simp
          with_reducible rfl
         rotate_left
         ·simp only [Act.put, sA, sB, sC, i64_w, i32_w]
          rfl
         refine take_ (i := 1) (N := some 26) (v := ?_) (a' := ?_) #[true, true, true, true, true, true, false, false] rfl rfl (take_ofW HT_.out HW_.out (by kernel_rfl)) (fun _ _ _ h => h) (Or.inl ⟨by rfl, ?_⟩) hHeld ?_ ?_
         rotate_left
         ·rintro w' ⟨s0, s1, s2, s3, s4, s5, s6, s7⟩
          go_simp
          with_reducible rfl
         rotate_left
         ·simp only [Act.put, sA, sB, sC, i64_w, i32_w]
          rfl
         refine take_ (i := 6) (N := some 31) (v := ?_) (a' := ?_) #[true, true, true, true, true, true, true, false] rfl rfl (take_ofW HT_.out HW_.out (by kernel_rfl)) (fun _ _ _ h => h) (Or.inl ⟨by rfl, ?_⟩) hHeld ?_ ?_
         rotate_left
         ·rintro w' ⟨s0, s1, s2, s3, s4, s5, s6, s7⟩
          go_simp
          with_reducible rfl
         rotate_left
         ·simp only [Act.put, sA, sB, sC, i64_w, i32_w]
          rfl
         refine one_ (i := 7) (N := some 32) #[true, true, true, true, true, true, true, true] rfl rfl (one_of HT_.out (by kernel_rfl)) (by decide) (fun K hK => ?_)
         refine goes_ Try.func51 (by kernel_rfl) rfl #[.slice (some ad3358) l0.length c0, .agg #[.int .i64 a1_0, .string a1_1, .slice A1_2 l1_2.length c1_2, .int .i64 a1_3, .slice A1_4 l1_4.length c1_4], .slice A3358_1 ((rd_T42 l0 x7_1).f1).length c3358_1] (by rfl) rfl rfl (by (try simp only [List.map_toArray, List.map_cons, List.map_nil]); first | done | rfl | (simp only [List.length_drop, List.length_take]; rfl)) ?_
         with_reducible refine (spec_l2All.calls k1 _ _ l0 a1_0 a1_1 _ _ l1_2 a1_3 _ _ l1_4 _ _ ((rd_T42 l0 x7_1).f1) false _ ?side1 ?side2 ?side3 ?side4 ?side5 ?side6 ?side7 ?side8 A11.out).mono ?_
         (case side1 => repeat (first | exact (Kd.C_below HR0.out HB.out) | (with_reducible refine Kd.C_alloc ?_ _) | (with_reducible refine Kd.C_drewN ?_ _) | (with_reducible refine Kd.C_drew ?_)))
         (case side2 => exact HC0.out)
         (case side3 => repeat (first | exact (Kd.C_below HR1_2.out HB.out) | (with_reducible refine Kd.C_alloc ?_ _) | (with_reducible refine Kd.C_drewN ?_ _) | (with_reducible refine Kd.C_drew ?_)))
         (case side4 => exact HC1_2.out)
         (case side5 => repeat (first | exact (Kd.C_below HR1_4.out HB.out) | (with_reducible refine Kd.C_alloc ?_ _) | (with_reducible refine Kd.C_drewN ?_ _) | (with_reducible refine Kd.C_drew ?_)))
         (case side6 => exact HC1_4.out)
         (case side7 => repeat (first | exact (Kd.C_below HR3360_1.out HB.out) | (with_reducible refine Kd.C_alloc ?_ _) | (with_reducible refine Kd.C_drewN ?_ _) | (with_reducible refine Kd.C_drew ?_)))
         (case side8 => exact HC3360_1.out)
         rintro e w20 ⟨rfl, hb⟩
         refine ⟨_, rfl, ?_⟩
         have n0_ := Aq (blk_below (g := gb3357) (o := .cells #[.int .i64 a1_0, .string a1_1, .slice A1_2 l1_2.length c1_2, .int .i64 a1_3, .slice A1_4 l1_4.length c1_4] 35 (0, 0)) (by (with_reducible repeat (first | refine zN ?_ _ | refine zD ?_ | refine zA ?_ _)); exact BK3357.out) hb)
         have n1_ := Aq (below_step (by repeat (first | (with_reducible first | exact HB.out | apply zB | apply zC | apply zE | refine below_set ?_ GE3357.out) | exact HB.out)) hb)
         clear BK3357 HB
         have BK3357 := n0_
         have HB := n1_
         clear n0_ n1_
         (try clear hb)
         (try clear hb2)
         (try clear hk)
         (try clear hi)
         refine hK.out _ _ ⟨(blk_cell BK3357.out 0).trans rfl, (blk_cell BK3357.out 1).trans rfl, (blk_cell BK3357.out 2).trans rfl, (blk_cell BK3357.out 3).trans rfl, (blk_cell BK3357.out 4).trans rfl, ((HB.out.cell (World.block_lt_of_cell? w _ hw3360_0)).trans hw3360_0), ((HB.out.cell (World.block_lt_of_cell? w _ hw3360_1)).trans hw3360_1), ((HB.out.cell (World.block_lt_of_cell? w _ hw3360_2)).trans hw3360_2)⟩ (fun hHeld => ?_)
         clear hK K
         refine norm_ (a' := ?_) ?_ ?_
         rotate_left
         ·show Act.put _ (some 32) _ = _
          simp only [Act.put, sA, sB, sC, i64_w, i32_w]
          rfl
         refine done_ (done_of HT_.out (by kernel_rfl)) ?_
         try go_wp2
         go_roundg k1
         case measure => have := HK1.out; omega
         case rel => exact ⟨(2), (wrap64 (x7_1 - 1)), (by first | rfl | (simp; done) | (simp [*]; done)), (by first | rfl | (simp; done) | (simp [*]; done)), H', ⟨by have := HK1.out; omega⟩, ⟨by (with_reducible repeat (first | refine zN ?_ _ | refine zD ?_ | refine zA ?_ _)); exact BK3357.out⟩, ⟨by repeat (first | (with_reducible first | exact HB.out | apply zB | apply zC | apply zE | refine below_set ?_ GE3357.out) | exact HB.out)⟩⟩
       ·replace c10 := Bool.eq_false_iff.mpr c10
        subst c10
        have H1 : (spec_ExpFind.l0 k1 l0 x6_1 (wrap64 (x7_1 - 1)) a1_0 a1_1 l1_2 a1_3 l1_4) = some (r1, r2) := by rw [if_neg (show ¬ (false = true) by decide)] at H; exact H
        clear H
        have H := H1
        clear H1
        have H' := Aq H
        clear H
        try go_wp2
        have n0_ := Aq (zD BK3357.out)
        have n1_ := Aq (zE HB.out)
        clear BK3357 HB
        have BK3357 := n0_
        have HB := n1_
        clear n0_ n1_
        have p3358 : 0 ≤ (x7_1 : Int) := of_decide_eq_true (by first | (with_reducible assumption) | assumption)
        have q3358 : x7_1 < (l0.length : Int) := of_decide_eq_true (by first | (with_reducible assumption) | assumption)
        obtain ⟨ad3358, A3358_1, c3358_1, e3358, hx3358_0, hx3358_1, hx3358_2, hl3358_1, hi3358_1⟩ := at_T42 HR0.out x7_1 p3358 q3358
        have hw3358_2 := hx3358_2
        have hw3358_1 := hx3358_1
        have hw3358_0 := hx3358_0
        cases e3358
        replace hx3358_0 := (HB.out.cell (World.block_lt_of_cell? w _ hx3358_0)).trans hx3358_0
        replace hx3358_1 := (HB.out.cell (World.block_lt_of_cell? w _ hx3358_1)).trans hx3358_1
        replace hx3358_2 := (HB.out.cell (World.block_lt_of_cell? w _ hx3358_2)).trans hx3358_2
        have HR3358_1 := Aq hi3358_1
        have HC3358_1 := Aq hl3358_1
        clear hi3358_1 hl3358_1
        replace p3358 := eq_true p3358
        replace q3358 := eq_true q3358
        refine start_ (n := 7) (S := fun w' => w'.cell? ⟨gb3357, 0, none⟩ = some (.int .i64 a1_0) ∧ w'.cell? ⟨gb3357, 1, none⟩ = some (.string a1_1) ∧ w'.cell? ⟨gb3357, 2, none⟩ = some (.slice A1_2 l1_2.length c1_2) ∧ w'.cell? ⟨gb3357, 3, none⟩ = some (.int .i64 a1_3) ∧ w'.cell? ⟨gb3357, 4, none⟩ = some (.slice A1_4 l1_4.length c1_4) ∧ w'.cell? (ad3358.add ((x7_1).toNat * 3)) = some (.string ((rd_T42 l0 x7_1).f0)) ∧ w'.cell? ⟨(ad3358.add ((x7_1).toNat * 3)).block, (ad3358.add ((x7_1).toNat * 3)).off + 1, none⟩ = some (.slice A3358_1 ((rd_T42 l0 x7_1).f1).length c3358_1) ∧ w'.cell? ⟨(ad3358.add ((x7_1).toNat * 3)).block, (ad3358.add ((x7_1).toNat * 3)).off + 2, none⟩ = some (.string ((rd_T42 l0 x7_1).f2))) (ds := []) #[false, false, false, false, false, false, false] (by kernel_rfl) rfl rfl ⟨(blk_cell BK3357.out 0).trans rfl, (blk_cell BK3357.out 1).trans rfl, (blk_cell BK3357.out 2).trans rfl, (blk_cell BK3357.out 3).trans rfl, (blk_cell BK3357.out 4).trans rfl, ((HB.out.cell (World.block_lt_of_cell? w _ hw3358_0)).trans hw3358_0), ((HB.out.cell (World.block_lt_of_cell? w _ hw3358_1)).trans hw3358_1), ((HB.out.cell (World.block_lt_of_cell? w _ hw3358_2)).trans hw3358_2)⟩ (fun hHeld => ?_)
        generalize wr.drew = w21 at BK3357 HB HR3358_1 hx3358_0 hx3358_1 hx3358_2 hHeld ⊢
        refine pure_ (i := 0) (N := some 18) (v := ?_) (a' := ?_) #[true, false, false, false, false, false, false] rfl rfl (by kernel_rfl) (fun _ _ _ h => h) (Or.inl ⟨by rfl, ?_⟩) ?_ ?_
        rotate_left
        ·intro w'
         go_simp
         with_reducible rfl
        rotate_left
        ·simp only [Act.put, sA, sB, sC, i64_w, i32_w]
         rfl
        refine pure_ (i := 1) (N := some 19) (v := ?_) (a' := ?_) #[true, true, false, false, false, false, false] rfl rfl (by kernel_rfl) (fun _ _ _ h => h) (Or.inl ⟨by rfl, ?_⟩) ?_ ?_
        rotate_left
        ·intro w'
         go_simp
         with_reducible rfl
        rotate_left
        ·simp only [Act.put, sA, sB, sC, i64_w, i32_w]
         rfl
        refine pure_ (i := 2) (N := some 20) (v := ?_) (a' := ?_) #[true, true, true, false, false, false, false] rfl rfl (by kernel_rfl) (fun _ _ _ h => h) (Or.inl ⟨by rfl, ?_⟩) ?_ ?_
        rotate_left
        ·intro w'
         go_simp
         with_reducible rfl
        rotate_left
        ·simp only [Act.put, sA, sB, sC, i64_w, i32_w]
         rfl
        refine take_ (i := 3) (N := some 21) (v := ?_) (a' := ?_) #[true, true, true, true, false, false, false] rfl rfl (by kernel_rfl) (fun _ _ _ h => h) (Or.inl ⟨by rfl, ?_⟩) hHeld ?_ ?_
        rotate_left
        ·rintro w' ⟨s0, s1, s2, s3, s4, s5, s6, s7⟩
         go_simp
         with_reducible rfl
        rotate_left
        ·simp only [Act.put, sA, sB, sC, i64_w, i32_w]
         rfl
        refine take_ (i := 4) (N := some 22) (v := ?_) (a' := ?_) #[true, true, true, true, true, false, false] rfl rfl (by kernel_rfl) (fun _ _ _ h => h) (Or.inl ⟨by rfl, ?_⟩) hHeld ?_ ?_
        rotate_left
        ·rintro w' ⟨s0, s1, s2, s3, s4, s5, s6, s7⟩
         go_simp
         with_reducible rfl
        rotate_left
        ·simp only [Act.put, sA, sB, sC, i64_w, i32_w]
         rfl
        refine one_ (i := 5) (N := some 23) #[true, true, true, true, true, true, false] rfl rfl (by kernel_rfl) (by decide) (fun K hK => ?_)
        refine goes_ Try.func50 (by kernel_rfl) rfl #[.agg #[.string ((rd_T42 l0 x7_1).f0), .slice A3358_1 ((rd_T42 l0 x7_1).f1).length c3358_1, .string ((rd_T42 l0 x7_1).f2)], .agg #[.int .i64 a1_0, .string a1_1, .slice A1_2 l1_2.length c1_2, .int .i64 a1_3, .slice A1_4 l1_4.length c1_4]] (by rfl) rfl rfl (by (try simp only [List.map_toArray, List.map_cons, List.map_nil]); first | done | rfl | (simp only [List.length_drop, List.length_take]; rfl)) ?_
        with_reducible refine (spec_l2Fits.calls k1 ((rd_T42 l0 x7_1).f0) _ _ ((rd_T42 l0 x7_1).f1) ((rd_T42 l0 x7_1).f2) a1_0 a1_1 _ _ l1_2 a1_3 _ _ l1_4 false _ ?side1 ?side2 ?side3 ?side4 ?side5 ?side6 A9.out).mono ?_
        (case side1 => repeat (first | exact (Kd.C_below HR3358_1.out HB.out) | (with_reducible refine Kd.C_alloc ?_ _) | (with_reducible refine Kd.C_drewN ?_ _) | (with_reducible refine Kd.C_drew ?_)))
        (case side2 => exact HC3358_1.out)
        (case side3 => repeat (first | exact (Kd.C_below HR1_2.out HB.out) | (with_reducible refine Kd.C_alloc ?_ _) | (with_reducible refine Kd.C_drewN ?_ _) | (with_reducible refine Kd.C_drew ?_)))
        (case side4 => exact HC1_2.out)
        (case side5 => repeat (first | exact (Kd.C_below HR1_4.out HB.out) | (with_reducible refine Kd.C_alloc ?_ _) | (with_reducible refine Kd.C_drewN ?_ _) | (with_reducible refine Kd.C_drew ?_)))
        (case side6 => exact HC1_4.out)
        rintro e w22 ⟨rfl, hb⟩
        refine ⟨_, rfl, ?_⟩
        have n0_ := Aq (blk_below (g := gb3357) (o := .cells #[.int .i64 a1_0, .string a1_1, .slice A1_2 l1_2.length c1_2, .int .i64 a1_3, .slice A1_4 l1_4.length c1_4] 35 (0, 0)) (by (with_reducible repeat (first | refine zN ?_ _ | refine zD ?_ | refine zA ?_ _)); exact BK3357.out) hb)
        have n1_ := Aq (below_step (by repeat (first | (with_reducible first | exact HB.out | apply zB | apply zC | apply zE | refine below_set ?_ GE3357.out) | exact HB.out)) hb)
        clear BK3357 HB
        have BK3357 := n0_
        have HB := n1_
        clear n0_ n1_
        (try clear hb)
        (try clear hb2)
        (try clear hk)
        (try clear hi)
        refine hK.out _ _ ⟨(blk_cell BK3357.out 0).trans rfl, (blk_cell BK3357.out 1).trans rfl, (blk_cell BK3357.out 2).trans rfl, (blk_cell BK3357.out 3).trans rfl, (blk_cell BK3357.out 4).trans rfl, ((HB.out.cell (World.block_lt_of_cell? w _ hw3358_0)).trans hw3358_0), ((HB.out.cell (World.block_lt_of_cell? w _ hw3358_1)).trans hw3358_1), ((HB.out.cell (World.block_lt_of_cell? w _ hw3358_2)).trans hw3358_2)⟩ (fun hHeld => ?_)
        clear hK K
        refine norm_ (a' := ?_) ?_ ?_
        rotate_left
        ·show Act.put _ (some 23) _ = _
         simp only [Act.put, sA, sB, sC, i64_w, i32_w]
         rfl
        refine pure_ (i := 6) (N := some 24) (v := ?_) (a' := ?_) #[true, true, true, true, true, true, true] rfl rfl (by kernel_rfl) (fun _ _ _ h => h) (Or.inl ⟨by rfl, ?_⟩) ?_ ?_
        rotate_left
        ·intro w'
         go_simp
         with_reducible rfl
        rotate_left
        ·simp only [Act.put, sA, sB, sC, i64_w, i32_w]
         rfl
        refine done_ (by kernel_rfl) ?_
        try go_wp2
        go_roundg k1
        case measure => have := HK1.out; omega
        case rel => exact ⟨(x6_1), (wrap64 (x7_1 - 1)), (by first | rfl | (simp; done) | (simp [*]; done)), (by first | rfl | (simp; done) | (simp [*]; done)), H', ⟨by have := HK1.out; omega⟩, ⟨by (with_reducible repeat (first | refine zN ?_ _ | refine zD ?_ | refine zA ?_ _)); exact BK3357.out⟩, ⟨by repeat (first | (with_reducible first | exact HB.out | apply zB | apply zC | apply zE | refine below_set ?_ GE3357.out) | exact HB.out)⟩⟩
      ·rw [if_neg c8] at H
       exact absurd H (by simp)
     ·rw [if_neg c7] at H
      exact absurd H (by simp)
    ·rw [if_neg c6] at H
     have c6b0 : decide (0 ≤ x7_1) = false := decide_eq_false c6
     clear c6
     simp only [Option.some.injEq, Prod.mk.injEq] at H
     obtain ⟨rfl, rfl⟩ := H
     go_wp2
     go_ret2
     exact ⟨by first | rfl | (simp [errW_none, errW_some] <;> rfl) | (simp [*, errW_none, errW_some] <;> rfl), by repeat (first | (with_reducible first | exact HB.out | apply zB | apply zC | apply zE | refine below_set ?_ GE3357.out) | exact HB.out)⟩
 ·rw [if_neg c3] at H
  have c3b0 : (a1_0 == 1) = false := beq_eq_false_iff_ne.mpr c3
  have c3b1 : (a1_0 != 1) = true := bne_iff_ne.mpr c3
  simp only [Option.some.injEq, Prod.mk.injEq] at H
  obtain ⟨rfl, rfl⟩ := H
  go_enter Try.func19, Try.ntmps19
  go_wp2_with (first | ((with_reducible refine gate_dst (N := 3) rfl ?_); refine box_event ?hg (N := 3) ?hd (cs := #[.int .i64 a1_0, .string a1_1, .slice A1_2 l1_2.length c1_2, .int .i64 a1_3, .slice A1_4 l1_4.length c1_4]) (t := 35) ?hr ?_; (case hd => rfl); (case hg => rfl); (case hr => first | (go_simp; done) | (go_simp; rfl)); intro gb3357 hg w23 hbox hb; have n0_ := Aq (below_step (by repeat (first | (with_reducible first | exact HB.out | apply zB | apply zC | apply zE) | exact HB.out)) hb); have n1_ := Aq (hbox); have n2_ := Aq ((by rw [hg]; exact (below_size (by repeat (first | (with_reducible first | exact HB.out | apply zB | apply zC | apply zE) | exact HB.out))) : w.heap.size ≤ gb3357)); have n3_ := Aq ((by rw [hg]; exact (below_size (by repeat (first | (with_reducible first | exact HB.out | apply zB | apply zC | apply zE) | exact HB.out))) : w.heap.size ≤ gb3357)); clear HB; have HB := n0_; have BK3357 := n1_; have GW3357 := n2_; have GE3357 := n3_; clear n0_ n1_ n2_ n3_ hb hbox hg; have hcz24_0 : w23.cell? ⟨gb3357, 0, none⟩ = some (.int .i64 a1_0) := (blk_cell BK3357.out 0).trans rfl; have hcz24_1 : w23.cell? ⟨gb3357, 1, none⟩ = some (.string a1_1) := (blk_cell BK3357.out 1).trans rfl; have hcz24_2 : w23.cell? ⟨gb3357, 2, none⟩ = some (.slice A1_2 l1_2.length c1_2) := (blk_cell BK3357.out 2).trans rfl; have hcz24_3 : w23.cell? ⟨gb3357, 3, none⟩ = some (.int .i64 a1_3) := (blk_cell BK3357.out 3).trans rfl; have hcz24_4 : w23.cell? ⟨gb3357, 4, none⟩ = some (.slice A1_4 l1_4.length c1_4) := (blk_cell BK3357.out 4).trans rfl; have hfz24_0 := blk_frozen BK3357.out 0; have hfz24_1 := blk_frozen BK3357.out 1; have hfz24_2 := blk_frozen BK3357.out 2; have hfz24_3 := blk_frozen BK3357.out 3; have hfz24_4 := blk_frozen BK3357.out 4))
  go_ret2
  exact ⟨by first | rfl | (simp [errW_none, errW_some] <;> rfl) | (simp [*, errW_none, errW_some] <;> rfl), by repeat (first | (with_reducible first | exact HB.out | apply zB | apply zC | apply zE | refine below_set ?_ GE3357.out) | exact HB.out)⟩
end Go.Proofs.Ytmdhanegafclmaa.PFnExpFind
