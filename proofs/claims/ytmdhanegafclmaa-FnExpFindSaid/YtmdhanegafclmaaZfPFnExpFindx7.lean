/- PFnExpFindx7 of the seat's texts, cut down by prune.py to what the theorem comes to. -/
import Derived.Test.YtmdhanegafclmaaZfPFnExpFindx0
import Derived.Test.YtmdhanegafclmaaZfPFnExpFindx6
namespace Go.Proofs.Ytmdhanegafclmaa.PFnExpFind
open Go.RowKit Go.Proofs.YtmdhanegafclmaaW.PrintWords Go.Proofs.YtmdhanegafclmaaW.PrintLast Go.Proofs.YtmdhanegafclmaaW.PrintMore
attribute [local go_sem] max2_int min2_int max_two min_two max_three min_three max_four min_four
set_option linter.unusedVariables false
set_option linter.unusedSimpArgs false
mutual
def impl_ExpFind.l0 : Nat → List (S42) → List (S42) → Int → Int → Int → ByteArray → List Int → Int → List (S35) → Option (ByteArray × Int)
 | 0, _, _, _, _, _, _, _, _, _ => none
 | k + 1, x6, x16, x17, x18, x3335000, x3335001, x3335002, x3335003, x3335004 => if x18 < x17 then (if 0 ≤ x18 then (if x18 < (x16.length : Int) then (if ((rd_T42 x16 x18).f0).toList = x3335001.toList then ((impl_expWithin.f k ((rd_T42 x16 x18).f1) x3335002).bind fun t3337 => (if t3337 = true then (if x6.length < 2513169434916 then (impl_ExpFind.l0 k (x6 ++ [(⟨(rd_T42 x16 x18).f0, (rd_T42 x16 x18).f1, (rd_T42 x16 x18).f2⟩ : S42)]) x16 x17 (wrap64 (x18 + 1)) x3335000 x3335001 x3335002 x3335003 x3335004) else (none)) else (impl_ExpFind.l0 k x6 x16 x17 (wrap64 (x18 + 1)) x3335000 x3335001 x3335002 x3335003 x3335004))) else (impl_ExpFind.l0 k x6 x16 x17 (wrap64 (x18 + 1)) x3335000 x3335001 x3335002 x3335003 x3335004)) else (none)) else (none)) else (if (x6.length : Int) = 0 then (some ((⟨#[]⟩ : ByteArray), 0)) else (impl_ExpFind.l1 k x6 (wrap64 ((x6.length : Int) - 1))))
def impl_ExpFind.l1 : Nat → List (S42) → Int → Option (ByteArray × Int)
 | 0, _, _ => none
 | k + 1, x6, x9 => if x9 ≥ 0 then (impl_ExpFind.l2 k x6 x9 true x6 (x6.length : Int) 0) else (some ((⟨#[]⟩ : ByteArray), 2))
def impl_ExpFind.l2 : Nat → List (S42) → Int → Bool → List (S42) → Int → Int → Option (ByteArray × Int)
 | 0, _, _, _, _, _, _ => none
 | k + 1, x6, x9, x10, x49, x50, x51 => if x51 < x50 then (if 0 ≤ x51 then (if x51 < (x49.length : Int) then (if x10 = true then (if 0 ≤ x9 then (if x9 < (x6.length : Int) then ((impl_expWithin.f k ((rd_T42 x49 x51).f1) ((rd_T42 x6 x9).f1)).bind fun t3344 => (impl_ExpFind.l2 k x6 x9 t3344 x49 x50 (wrap64 (x51 + 1)))) else (none)) else (none)) else (impl_ExpFind.l2 k x6 x9 false x49 x50 (wrap64 (x51 + 1)))) else (none)) else (none)) else (if x10 = true then (if 0 ≤ x9 then (if x9 < (x6.length : Int) then (some ((rd_T42 x6 x9).f2, 1)) else (none)) else (none)) else (impl_ExpFind.l1 k x6 (wrap64 (x9 - 1))))
end
def impl_ExpFind.f (k : Nat) (l0 : List (S42)) (a1_0 : Int) (a1_1 : ByteArray) (l1_2 : List Int) (a1_3 : Int) (l1_4 : List (S35)) : Option (ByteArray × Int) := if a1_0 = 1 then (impl_ExpFind.l0 k ([] : List (S42)) l0 (l0.length : Int) 0 a1_0 a1_1 l1_2 a1_3 l1_4) else (some ((⟨#[]⟩ : ByteArray), 0))
theorem impl_ExpFind.mono_l : ∀ k, (∀ y0 y1 y2 y3 y4 y5 y6 y7 y8, LeO (impl_ExpFind.l0 k y0 y1 y2 y3 y4 y5 y6 y7 y8) (impl_ExpFind.l0 (k + 1) y0 y1 y2 y3 y4 y5 y6 y7 y8)) ∧ (∀ y0 y1, LeO (impl_ExpFind.l1 k y0 y1) (impl_ExpFind.l1 (k + 1) y0 y1)) ∧ (∀ y0 y1 y2 y3 y4 y5, LeO (impl_ExpFind.l2 k y0 y1 y2 y3 y4 y5) (impl_ExpFind.l2 (k + 1) y0 y1 y2 y3 y4 y5))
 | 0 => ⟨fun _ _ _ _ _ _ _ _ _ r h => by simp [impl_ExpFind.l0] at h, fun _ _ r h => by simp [impl_ExpFind.l1] at h, fun _ _ _ _ _ _ r h => by simp [impl_ExpFind.l2] at h⟩
 | k + 1 => by
  obtain ⟨ih0, ih1, ih2⟩ := impl_ExpFind.mono_l k
  refine ⟨?_, ?_, ?_⟩
  ·intro y0 y1 y2 y3 y4 y5 y6 y7 y8
   unfold impl_ExpFind.l0
   repeat' first
   | (with_reducible exact ih0 _ _ _ _ _ _ _ _ _)
   | (with_reducible exact ih1 _ _)
   | (with_reducible exact ih2 _ _ _ _ _ _)
   | (with_reducible exact impl_expWithin.mono _ _ _)
   | (with_reducible exact LeO.refl _)
   | (with_reducible exact LeO.none _)
   | (with_reducible refine LeO.ite ?_ ?_)
   | (with_reducible refine LeO.bind ?_ (fun _ => ?_))
   | exact ih0 _ _ _ _ _ _ _ _ _
   | exact ih1 _ _
   | exact ih2 _ _ _ _ _ _
   | exact impl_expWithin.mono _ _ _
   | exact LeO.none _
   | refine LeO.ite ?_ ?_
   | refine LeO.bind ?_ (fun _ => ?_)
  ·intro y0 y1
   unfold impl_ExpFind.l1
   repeat' first
   | (with_reducible exact ih0 _ _ _ _ _ _ _ _ _)
   | (with_reducible exact ih1 _ _)
   | (with_reducible exact ih2 _ _ _ _ _ _)
   | (with_reducible exact impl_expWithin.mono _ _ _)
   | (with_reducible exact LeO.refl _)
   | (with_reducible exact LeO.none _)
   | (with_reducible refine LeO.ite ?_ ?_)
   | (with_reducible refine LeO.bind ?_ (fun _ => ?_))
   | exact ih0 _ _ _ _ _ _ _ _ _
   | exact ih1 _ _
   | exact ih2 _ _ _ _ _ _
   | exact impl_expWithin.mono _ _ _
   | exact LeO.none _
   | refine LeO.ite ?_ ?_
   | refine LeO.bind ?_ (fun _ => ?_)
  ·intro y0 y1 y2 y3 y4 y5
   unfold impl_ExpFind.l2
   repeat' first
   | (with_reducible exact ih0 _ _ _ _ _ _ _ _ _)
   | (with_reducible exact ih1 _ _)
   | (with_reducible exact ih2 _ _ _ _ _ _)
   | (with_reducible exact impl_expWithin.mono _ _ _)
   | (with_reducible exact LeO.refl _)
   | (with_reducible exact LeO.none _)
   | (with_reducible refine LeO.ite ?_ ?_)
   | (with_reducible refine LeO.bind ?_ (fun _ => ?_))
   | exact ih0 _ _ _ _ _ _ _ _ _
   | exact ih1 _ _
   | exact ih2 _ _ _ _ _ _
   | exact impl_expWithin.mono _ _ _
   | exact LeO.none _
   | refine LeO.ite ?_ ?_
   | refine LeO.bind ?_ (fun _ => ?_)
theorem impl_ExpFind.mono : ∀ a0 a1 a2 a3 a4 a5 k, LeO (impl_ExpFind.f k a0 a1 a2 a3 a4 a5) (impl_ExpFind.f (k + 1) a0 a1 a2 a3 a4 a5) := by
 intro a0 a1 a2 a3 a4 a5 k
 obtain ⟨ih0, ih1, ih2⟩ := impl_ExpFind.mono_l k
 unfold impl_ExpFind.f
 repeat' first
   | (with_reducible exact ih0 _ _ _ _ _ _ _ _ _)
   | (with_reducible exact ih1 _ _)
   | (with_reducible exact ih2 _ _ _ _ _ _)
   | (with_reducible exact impl_expWithin.mono _ _ _)
   | (with_reducible exact LeO.refl _)
   | (with_reducible exact LeO.none _)
   | (with_reducible refine LeO.ite ?_ ?_)
   | (with_reducible refine LeO.bind ?_ (fun _ => ?_))
   | exact ih0 _ _ _ _ _ _ _ _ _
   | exact ih1 _ _
   | exact ih2 _ _ _ _ _ _
   | exact impl_expWithin.mono _ _ _
   | exact LeO.none _
   | refine LeO.ite ?_ ?_
   | refine LeO.bind ?_ (fun _ => ?_)
set_option maxHeartbeats 8000000 in
set_option maxRecDepth 100000 in
theorem impl_ExpFind.calls (k : Nat) (P0_ : Nat → Prop) (A0 : Option Addr) (c0 : Nat) (l0 : List (S42)) (a1_0 : Int) (a1_1 : ByteArray) (A1_2 : Option Addr) (c1_2 : Nat) (l1_2 : List Int) (a1_3 : Int) (A1_4 : Option Addr) (c1_4 : Nat) (l1_4 : List (S35)) (r1 : ByteArray) (r2 : Int) (w : World) (hs0 : Kd.V k42 42 w w.heap.size (fun k_ => P0_ k_) (.slice A0 l0.length c0) l0) (hr1_2 : Kd.C (Kd.int .i64) w A1_2 l1_2.length l1_2) (hc1_2 : l1_2.length ≤ c1_2) (hr1_4 : Kd.C k35 w A1_4 l1_4.length l1_4) (hc1_4 : l1_4.length ≤ c1_4) (h : impl_ExpFind.f k l0 a1_0 a1_1 l1_2 a1_3 l1_4 = some (r1, r2)) :
  Calls Try.prog 18 #[.slice A0 l0.length c0, .agg #[.int .i64 a1_0, .string a1_1, .slice A1_2 l1_2.length c1_2, .int .i64 a1_3, .slice A1_4 l1_4.length c1_4]] w fun e w' => e = .returned (.tuple #[.string r1, .int .i64 r2]) ∧ Below w.heap.size w w' := by
 have hu35 := Try.underlying35
 have hu42 := Try.underlying42
 have HO0 := Aq (show Kd.V k42 42 w w.heap.size (fun k_ => (P0_ k_ ∨ w.heap.size ≤ k_)) (.slice A0 l0.length c0) l0 from Kd.V_mono hs0 (fun k_ hk => .inl hk))
 have HR1_2 := Aq hr1_2
 have HC1_2 := Aq hc1_2
 clear hr1_2 hc1_2
 have HR1_4 := Aq hr1_4
 have HC1_4 := Aq hc1_4
 clear hr1_4 hc1_4
 have HB := Aq (Below.refl w.heap.size w)
 have H : (if a1_0 = 1 then (impl_ExpFind.l0 k ([] : List (S42)) l0 (l0.length : Int) 0 a1_0 a1_1 l1_2 a1_3 l1_4) else (some ((⟨#[]⟩ : ByteArray), 0))) = some (r1, r2) := h
 clear h
 by_cases c3 : a1_0 = 1
 ·rw [if_pos c3] at H
  have c3b0 : (a1_0 == 1) = true := beq_iff_eq.mpr c3
  have c3b1 : (a1_0 != 1) = false := bne_eq_false_iff_eq.mpr c3
  clear c3
  have H' := Aq H
  clear H
  go_enter Try.func18, Try.ntmps18
  go_wp2_with (first | ((with_reducible refine gate_dst (N := 3) rfl ?_); refine box_event ?hg (N := 3) ?hd (cs := #[.int .i64 a1_0, .string a1_1, .slice A1_2 l1_2.length c1_2, .int .i64 a1_3, .slice A1_4 l1_4.length c1_4]) (t := 35) ?hr ?_; (case hd => rfl); (case hg => rfl); (case hr => first | (go_simp; done) | (go_simp; rfl)); intro gb3334 hg w4 hbox hb; have n0_ := Aq (Kd.V_below (Kd.V_elderB (by (with_reducible repeat (first | apply Kd.V_alloc | apply Kd.V_drewN | apply Kd.V_drew)); exact HO0.out) gb3334 (Nat.le_of_eq hg.symm)) hb); have n1_ := Aq (below_step (by repeat (first | (with_reducible first | exact HB.out | apply zB | apply zC | apply zE) | exact HB.out)) hb); have n2_ := Aq (hbox); have n3_ := Aq ((by rw [hg]; exact (below_size (by repeat (first | (with_reducible first | exact HB.out | apply zB | apply zC | apply zE) | exact HB.out))) : w.heap.size ≤ gb3334)); have n4_ := Aq ((by rw [hg]; exact (below_size (by repeat (first | (with_reducible first | exact HB.out | apply zB | apply zC | apply zE) | exact HB.out))) : w.heap.size ≤ gb3334)); clear HO0 HB; have HO0 := n0_; have HB := n1_; have BK3334 := n2_; have GW3334 := n3_; have GE3334 := n4_; clear n0_ n1_ n2_ n3_ n4_ hb hbox hg; have hcz5_0 : w4.cell? ⟨gb3334, 0, none⟩ = some (.int .i64 a1_0) := (blk_cell BK3334.out 0).trans rfl; have hcz5_1 : w4.cell? ⟨gb3334, 1, none⟩ = some (.string a1_1) := (blk_cell BK3334.out 1).trans rfl; have hcz5_2 : w4.cell? ⟨gb3334, 2, none⟩ = some (.slice A1_2 l1_2.length c1_2) := (blk_cell BK3334.out 2).trans rfl; have hcz5_3 : w4.cell? ⟨gb3334, 3, none⟩ = some (.int .i64 a1_3) := (blk_cell BK3334.out 3).trans rfl; have hcz5_4 : w4.cell? ⟨gb3334, 4, none⟩ = some (.slice A1_4 l1_4.length c1_4) := (blk_cell BK3334.out 4).trans rfl; have hfz5_0 := blk_frozen BK3334.out 0; have hfz5_1 := blk_frozen BK3334.out 1; have hfz5_2 := blk_frozen BK3334.out 2; have hfz5_3 := blk_frozen BK3334.out 3; have hfz5_4 := blk_frozen BK3334.out 4))
  go_loopg [6, 18] k (fun kq v6 v18 w' => ∃ (x6_1 : List (S42)) (x18_1 : Int), v18 = .int .i64 x18_1 ∧ Aside0 (impl_ExpFind.l0 kq x6_1 l0 (l0.length : Int) x18_1 a1_0 a1_1 l1_2 a1_3 l1_4 = some (r1, r2)) ∧ Aside0 (kq ≤ k) ∧ Aside0 (Kd.N k42 42 w' w.heap.size (fun k_ => (P0_ k_ ∨ w.heap.size ≤ k_) ∧ k_ ≠ gb3334) v6 x6_1) ∧ Aside0 (Kd.V k42 42 w' w.heap.size (fun k_ => (P0_ k_ ∨ w.heap.size ≤ k_) ∧ some k_ ≠ (v6 : Value).ownBlock ∧ k_ ≠ gb3334) (.slice A0 l0.length c0) l0) ∧ Aside0 (w'.heap[gb3334]? = some (.cells #[.int .i64 a1_0, .string a1_1, (.slice A1_2 l1_2.length c1_2), .int .i64 a1_3, (.slice A1_4 l1_4.length c1_4)] 35 (0, 0))) ∧ Aside0 (Below w.heap.size w w'))
  case atStart => exact ⟨(([] : List (S42))), (0), (by first | rfl | (simp; done) | (simp [*]; done)), H', ⟨Nat.le_refl _⟩, ⟨by first | exact Kd.S_nil _ _ _ _ _ | exact Kd.N_nil _ _ _ _ _ | exact Kd.V_nil _ _ _ _ _ | exact Kd.Q_nil _ _ _ _ _ | exact Kd.R_nil _ _ _ _ _⟩, ⟨by (with_reducible repeat (first | apply Kd.V_alloc | apply Kd.V_drewN | apply Kd.V_drew)); exact Kd.V_mono HO0.out (fun _ hk => ⟨hk.1, ⟨(by simp [Value.ownBlock]), hk.2⟩⟩)⟩, ⟨by (with_reducible repeat (first | refine zN ?_ _ | refine zD ?_ | refine zA ?_ _)); exact BK3334.out⟩, ⟨by repeat (first | (with_reducible first | exact HB.out | apply zB | apply zC | apply zE | refine below_set ?_ GE3334.out) | exact HB.out)⟩⟩
  case round =>
   clear H'
   try clear c1
   try clear p2
   try clear c3
   try clear c3b0
   try clear c3b1
   try clear hcz5_0
   try clear hcz5_1
   try clear hcz5_2
   try clear hcz5_3
   try clear hcz5_4
   try clear hfz5_0
   try clear hfz5_1
   try clear hfz5_2
   try clear hfz5_3
   try clear hfz5_4
   obtain ⟨x6_1, x18_1, rfl, HA, HK1, HO_6, HO_16, BK3334, HB⟩ := hrel
   cases gk with
   | zero => exact absurd HA.out (by simp [impl_ExpFind.l0])
   | succ k1 =>
    have H := HA.out
    clear HA
    simp only [impl_ExpFind.l0] at H
    by_cases c6 : x18_1 < (l0.length : Int)
    ·rw [if_pos c6] at H
     have c6b0 : decide (x18_1 < (l0.length : Int)) = true := decide_eq_true c6
     clear c6
     by_cases c7 : 0 ≤ x18_1
     ·rw [if_pos c7] at H
      have c7b0 : decide (0 ≤ x18_1) = true := decide_eq_true c7
      clear c7
      by_cases c8 : x18_1 < (l0.length : Int)
      ·rw [if_pos c8] at H
       have c8b0 : decide (x18_1 < (l0.length : Int)) = true := decide_eq_true c8
       clear c8
       by_cases c9 : ((rd_T42 l0 x18_1).f0).toList = a1_1.toList
       ·rw [if_pos c9] at H
        have c9b0 : (((rd_T42 l0 x18_1).f0).toList == a1_1.toList) = true := beq_iff_eq.mpr c9
        have c9b1 : (((rd_T42 l0 x18_1).f0).toList != a1_1.toList) = false := bne_eq_false_iff_eq.mpr c9
        clear c9
        replace H := Option.bind_eq_some_iff.mp H
        obtain ⟨t3337, A100, H⟩ := H
        replace H : (if t3337 = true then (if x6_1.length < 2513169434916 then (impl_ExpFind.l0 k1 (x6_1 ++ [(⟨(rd_T42 l0 x18_1).f0, (rd_T42 l0 x18_1).f1, (rd_T42 l0 x18_1).f2⟩ : S42)]) l0 (l0.length : Int) (wrap64 (x18_1 + 1)) a1_0 a1_1 l1_2 a1_3 l1_4) else (none)) else (impl_ExpFind.l0 k1 x6_1 l0 (l0.length : Int) (wrap64 (x18_1 + 1)) a1_0 a1_1 l1_2 a1_3 l1_4)) = some (r1, r2) := H
        have A10 := Aq A100
        clear A100
        by_cases c11 : t3337 = true
        ·subst c11
         have H1 : (if x6_1.length < 2513169434916 then (impl_ExpFind.l0 k1 (x6_1 ++ [(⟨(rd_T42 l0 x18_1).f0, (rd_T42 l0 x18_1).f1, (rd_T42 l0 x18_1).f2⟩ : S42)]) l0 (l0.length : Int) (wrap64 (x18_1 + 1)) a1_0 a1_1 l1_2 a1_3 l1_4) else (none)) = some (r1, r2) := by rw [if_pos rfl] at H; exact H
         clear H
         have H := H1
         clear H1
         by_cases c12 : x6_1.length < 2513169434916
         ·rw [if_pos c12] at H
          have LMc12 := Aq c12
          clear c12
          obtain ⟨y3338, hy3338⟩ : ∃ y_ : List (S42), y_ = (x6_1 ++ [(⟨(rd_T42 l0 x18_1).f0, (rd_T42 l0 x18_1).f1, (rd_T42 l0 x18_1).f2⟩ : S42)]) := ⟨_, rfl⟩
          replace H : (impl_ExpFind.l0 k1 y3338 l0 (l0.length : Int) (wrap64 (x18_1 + 1)) a1_0 a1_1 l1_2 a1_3 l1_4) = some (r1, r2) := by first | (rw [hy3338]; with_reducible exact H) | (have H2_ := (Option.bind_some _ _).symm.trans H; rw [hy3338]; with_reducible exact H2_) | (have H2_ := (Option.bind_some _ _).symm.trans H; with_reducible exact H2_) | with_reducible exact H | (rw [hy3338]; exact H) | exact H
          have Ny3338 := Aq hy3338
          clear hy3338
          have H' := Aq H
          clear H
          have p3335 : 0 ≤ (x18_1 : Int) := of_decide_eq_true (by first | (with_reducible assumption) | assumption)
          have q3335 : x18_1 < (l0.length : Int) := of_decide_eq_true (by first | (with_reducible assumption) | assumption)
          obtain ⟨ad3335, A3335_1, c3335_1, e3335, hx3335_0, hx3335_1, hx3335_2, hl3335_1, hi3335_1⟩ := at_T42 (Kd.V_reads' HO_16.out).2.2 x18_1 p3335 q3335
          cases e3335
          obtain ⟨ce3335, hce3335, hMe3335, hcc3335⟩ := Kd.V_get HO_16.out z42 x18_1 p3335 (by first | exact q3335 | exact of_decide_eq_true (by first | (with_reducible assumption) | assumption) | (have e_ := (Kd.V_reads' HO_16.out).1; omega))
          obtain ⟨ua3335_1, uc3335_1, rfl, ul3335_1, ge3335_1⟩ := k42_openF hMe3335
          have hv3335_1 := hcc3335 1 _ rfl
          rw [add_field _ _ 1 (by omega)] at hv3335_1
          replace hv3335_1 := Option.some.inj (hv3335_1.symm.trans hx3335_1)
          injection hv3335_1 with hva_ hvn_ hvc_
          rw [hva_] at ge3335_1
          rw [hvc_] at ul3335_1
          have HL3335_1 := Aq (show Kd.V (Kd.int .i64) 3 _ w.heap.size _ _ ((rd_T42 l0 x18_1).f1) from Kd.V_mk ul3335_1 ge3335_1)
          clear hva_ hvn_ hvc_ ge3335_1 ul3335_1 hcc3335 hce3335
          have HR3335_1 := Aq hi3335_1
          have HC3335_1 := Aq hl3335_1
          clear hi3335_1 hl3335_1
          replace p3335 := eq_true p3335
          replace q3335 := eq_true q3335
          go_wp2_with (first | ((with_reducible refine gate_dst (N := 8) rfl ?_); refine box_event ?hg (N := 8) ?hd (cs := #[.string (⟨#[]⟩ : ByteArray), .slice none 0 0, .string (⟨#[]⟩ : ByteArray)]) (t := 42) ?hr ?_; (case hd => rfl); (case hg => rfl); (case hr => first | (go_simp; done) | (go_simp; rfl)); intro gb3336 hg w13 hbox hb; have n0_ := Aq (Kd.N_below (Kd.N_elderB (by (with_reducible repeat (first | apply Kd.N_alloc | apply Kd.N_drewN | apply Kd.N_drew)); exact HO_6.out) gb3336 (Nat.le_of_eq hg.symm)) hb); have n1_ := Aq (Kd.V_below (Kd.V_elderB (by (with_reducible repeat (first | apply Kd.V_alloc | apply Kd.V_drewN | apply Kd.V_drew)); exact HO_16.out) gb3336 (Nat.le_of_eq hg.symm)) hb); have n2_ := Aq (Kd.V_below (Kd.V_elderB (by (with_reducible repeat (first | apply Kd.V_alloc | apply Kd.V_drewN | apply Kd.V_drew)); exact HL3335_1.out) gb3336 (Nat.le_of_eq hg.symm)) hb); have n3_ := Aq (blk_below (g := gb3334) (o := .cells #[.int .i64 a1_0, .string a1_1, .slice A1_2 l1_2.length c1_2, .int .i64 a1_3, .slice A1_4 l1_4.length c1_4] 35 (0, 0)) (by (with_reducible repeat (first | refine zN ?_ _ | refine zD ?_ | refine zA ?_ _)); exact BK3334.out) hb); have n4_ := Aq (Kd.C_below (by repeat (first | (with_reducible exact HR3335_1.out) | (with_reducible refine Kd.C_alloc ?_ _) | (with_reducible refine Kd.C_drewN ?_ _) | (with_reducible refine Kd.C_drew ?_) | exact HR3335_1.out | exact (Kd.V_reads' HL3335_1.out).2.2)) hb); have n5_ := Aq (below_step (by repeat (first | (with_reducible first | exact HB.out | apply zB | apply zC | apply zE | refine below_set ?_ GE3334.out) | exact HB.out)) hb); have n6_ := Aq (hbox); have n7_ := Aq ((by rw [hg]; exact (below_size (by repeat (first | (with_reducible first | exact HB.out | apply zB | apply zC | apply zE | refine below_set ?_ GE3334.out) | exact HB.out))) : w.heap.size ≤ gb3336)); have n8_ := Aq ((by rw [hg]; exact (below_size (by repeat (first | (with_reducible first | exact HB.out | apply zB | apply zC | apply zE | refine below_set ?_ GE3334.out) | exact HB.out))) : w.heap.size ≤ gb3336)); have n9_ := Aq ((by rw [hg]; exact Nat.ne_of_lt (blk_lt (g := gb3334) (o := .cells #[.int .i64 a1_0, .string a1_1, .slice A1_2 l1_2.length c1_2, .int .i64 a1_3, .slice A1_4 l1_4.length c1_4] 35 (0, 0)) (by (with_reducible repeat (first | refine zN ?_ _ | refine zD ?_ | refine zA ?_ _)); exact BK3334.out)) : gb3334 ≠ gb3336)); have n10_ := Aq ((by rw [hg]; exact Nat.ne_of_gt (blk_lt (g := gb3334) (o := .cells #[.int .i64 a1_0, .string a1_1, .slice A1_2 l1_2.length c1_2, .int .i64 a1_3, .slice A1_4 l1_4.length c1_4] 35 (0, 0)) (by (with_reducible repeat (first | refine zN ?_ _ | refine zD ?_ | refine zA ?_ _)); exact BK3334.out)) : gb3336 ≠ gb3334)); clear HO_6 HO_16 HL3335_1 BK3334 HR3335_1 HB; have HO_6 := n0_; have HO_16 := n1_; have HL3335_1 := n2_; have BK3334 := n3_; have HR3335_1 := n4_; have HB := n5_; have BK3336 := n6_; have GW3336 := n7_; have GE3336 := n8_; have NB3334_3336 := n9_; have NB3336_3334 := n10_; clear n0_ n1_ n2_ n3_ n4_ n5_ n6_ n7_ n8_ n9_ n10_ hb hbox hg; have hnb14 := NB3336_3334.out; have hnc14 := NB3334_3336.out; have hcz15_0 : w13.cell? ⟨gb3336, 0, none⟩ = some (.string (⟨#[]⟩ : ByteArray)) := (blk_cell BK3336.out 0).trans rfl; have hcz15_1 : w13.cell? ⟨gb3336, 1, none⟩ = some (.slice none 0 0) := (blk_cell BK3336.out 1).trans rfl; have hcz15_2 : w13.cell? ⟨gb3336, 2, none⟩ = some (.string (⟨#[]⟩ : ByteArray)) := (blk_cell BK3336.out 2).trans rfl; have hfz15_0 := blk_frozen BK3336.out 0; have hfz15_1 := blk_frozen BK3336.out 1; have hfz15_2 := blk_frozen BK3336.out 2) | ((with_reducible refine gate_store (t := 42) (p := 8) rfl ?_); (try (rw [drewN_self w13]; generalize hq_ : World.drewN w13 _ = w13; have n0_ := Aq (Kd.N_at hq_ HO_6.out); have n1_ := Aq (Kd.V_at hq_ HO_16.out); have n2_ := Aq (Kd.V_at hq_ HL3335_1.out); have n3_ := Aq (blk_at hq_ BK3334.out); have n4_ := Aq (blk_at hq_ BK3336.out); have n5_ := Aq (Kd.C_at hq_ HR3335_1.out); have n6_ := Aq (below_at hq_ HB.out); clear hq_ HO_6 HO_16 HL3335_1 BK3334 BK3336 HR3335_1 HB; have HO_6 := n0_; have HO_16 := n1_; have HL3335_1 := n2_; have BK3334 := n3_; have BK3336 := n4_; have HR3335_1 := n5_; have HB := n6_; clear n0_ n1_ n2_ n3_ n4_ n5_ n6_)); refine store_event (t := 42) (p := 8) (v := ?vo_w16) (w1 := (((w13.setCell ⟨gb3336, 0, none⟩ (.string ((rd_T42 l0 x18_1).f0))).setCell ⟨gb3336, 1, none⟩ (.slice A3335_1 ((rd_T42 l0 x18_1).f1).length c3335_1)).setCell ⟨gb3336, 2, none⟩ (.string ((rd_T42 l0 x18_1).f2)))) ?hg ?ho ?hn ?hr ?_; (case ho => rfl); (case hg => rfl); (case hn => rfl); (case hr => first | (go_simp; done) | (go_simp; rfl)); intro w16 hw; have n0_ : Aside0 (Kd.N k42 42 w16 w.heap.size (fun k_ => (P0_ k_ ∨ w.heap.size ≤ k_) ∧ k_ ≠ gb3334 ∧ k_ ≠ gb3336) u6 x6_1) := ⟨(by rw [hw]; exact (by (with_reducible repeat (first | apply Kd.N_alloc | apply Kd.N_drewN | apply Kd.N_drew)); exact Kd.N_mono (Kd.N_far (p := ⟨gb3336, 2, none⟩) (Kd.N_far (p := ⟨gb3336, 1, none⟩) (Kd.N_far (p := ⟨gb3336, 0, none⟩) (Kd.N_mono HO_6.out (fun k_ hk => (⟨hk, hk.2⟩ : _ ∧ k_ ≠ gb3336))) (fun _ hk => hk.2) (.string ((rd_T42 l0 x18_1).f0))) (fun _ hk => hk.2) (.slice A3335_1 ((rd_T42 l0 x18_1).f1).length c3335_1)) (fun _ hk => hk.2) (.string ((rd_T42 l0 x18_1).f2))) (fun _ hk => ⟨hk.1.1.1, ⟨hk.1.1.2, hk.1.2⟩⟩)))⟩; have n1_ : Aside0 (Kd.V k42 42 w16 w.heap.size (fun k_ => (P0_ k_ ∨ w.heap.size ≤ k_) ∧ some k_ ≠ (u6 : Value).ownBlock ∧ k_ ≠ gb3334 ∧ k_ ≠ gb3336) (.slice (some ad3335) l0.length c0) l0) := ⟨(by rw [hw]; exact (by (with_reducible repeat (first | apply Kd.V_alloc | apply Kd.V_drewN | apply Kd.V_drew)); exact Kd.V_mono (Kd.V_far (p := ⟨gb3336, 2, none⟩) (Kd.V_far (p := ⟨gb3336, 1, none⟩) (Kd.V_far (p := ⟨gb3336, 0, none⟩) (Kd.V_mono HO_16.out (fun k_ hk => (⟨hk, hk.2⟩ : _ ∧ k_ ≠ gb3336))) (fun _ hk => hk.2) (.string ((rd_T42 l0 x18_1).f0))) (fun _ hk => hk.2) (.slice A3335_1 ((rd_T42 l0 x18_1).f1).length c3335_1)) (fun _ hk => hk.2) (.string ((rd_T42 l0 x18_1).f2))) (fun _ hk => ⟨hk.1.1.1, ⟨hk.1.1.2.1, ⟨hk.1.1.2.2, hk.1.2⟩⟩⟩)))⟩; have n2_ : Aside0 (Kd.V (Kd.int .i64) 3 w16 w.heap.size (fun k_ => (P0_ k_ ∨ w.heap.size ≤ k_) ∧ some k_ ≠ (u6 : Value).ownBlock ∧ k_ ≠ gb3334 ∧ k_ ≠ gb3336) (.slice A3335_1 ((rd_T42 l0 x18_1).f1).length c3335_1) ((rd_T42 l0 x18_1).f1)) := ⟨(by rw [hw]; exact (by (with_reducible repeat (first | apply Kd.V_alloc | apply Kd.V_drewN | apply Kd.V_drew)); exact Kd.V_mono (Kd.V_far (p := ⟨gb3336, 2, none⟩) (Kd.V_far (p := ⟨gb3336, 1, none⟩) (Kd.V_far (p := ⟨gb3336, 0, none⟩) (Kd.V_mono HL3335_1.out (fun k_ hk => (⟨hk, hk.2⟩ : _ ∧ k_ ≠ gb3336))) (fun _ hk => hk.2) (.string ((rd_T42 l0 x18_1).f0))) (fun _ hk => hk.2) (.slice A3335_1 ((rd_T42 l0 x18_1).f1).length c3335_1)) (fun _ hk => hk.2) (.string ((rd_T42 l0 x18_1).f2))) (fun _ hk => ⟨hk.1.1.1, ⟨hk.1.1.2.1, ⟨hk.1.1.2.2, hk.1.2⟩⟩⟩)))⟩; have n3_ : Aside0 (w16.heap[gb3334]? = some (.cells #[.int .i64 a1_0, .string a1_1, .slice A1_2 l1_2.length c1_2, .int .i64 a1_3, .slice A1_4 l1_4.length c1_4] 35 (0, 0))) := ⟨(by rw [hw]; exact (by (with_reducible repeat (first | refine zN ?_ _ | refine zD ?_ | refine zA ?_ _)); refine blk_far ?_ NB3334_3336.out _; (with_reducible repeat (first | refine zN ?_ _ | refine zD ?_ | refine zA ?_ _)); refine blk_far ?_ NB3334_3336.out _; (with_reducible repeat (first | refine zN ?_ _ | refine zD ?_ | refine zA ?_ _)); refine blk_far ?_ NB3334_3336.out _; (with_reducible repeat (first | refine zN ?_ _ | refine zD ?_ | refine zA ?_ _)); exact BK3334.out))⟩; have n4_ : Aside0 (w16.heap[gb3336]? = some (.cells #[.string ((rd_T42 l0 x18_1).f0), .slice A3335_1 ((rd_T42 l0 x18_1).f1).length c3335_1, .string ((rd_T42 l0 x18_1).f2)] 42 (0, 0))) := ⟨(by rw [hw]; exact (by (with_reducible repeat (first | refine zN ?_ _ | refine zD ?_ | refine zA ?_ _)); refine blk_put (cs := #[.string ((rd_T42 l0 x18_1).f0), .slice A3335_1 ((rd_T42 l0 x18_1).f1).length c3335_1, .string (⟨#[]⟩ : ByteArray)]) ?_ 2 _ rfl; (with_reducible repeat (first | refine zN ?_ _ | refine zD ?_ | refine zA ?_ _)); refine blk_put (cs := #[.string ((rd_T42 l0 x18_1).f0), .slice none 0 0, .string (⟨#[]⟩ : ByteArray)]) ?_ 1 _ rfl; (with_reducible repeat (first | refine zN ?_ _ | refine zD ?_ | refine zA ?_ _)); refine blk_put (cs := #[.string (⟨#[]⟩ : ByteArray), .slice none 0 0, .string (⟨#[]⟩ : ByteArray)]) ?_ 0 _ rfl; (with_reducible repeat (first | refine zN ?_ _ | refine zD ?_ | refine zA ?_ _)); exact BK3336.out))⟩; have n5_ : Aside0 (Below w.heap.size w w16) := ⟨(by rw [hw]; exact (by repeat (first | (with_reducible first | exact HB.out | apply zB | apply zC | apply zE | refine below_set ?_ GE3334.out | refine below_set ?_ GE3336.out) | exact HB.out)))⟩; clear hw HO_6 HO_16 HL3335_1 BK3334 BK3336 HB; have HO_6 := n0_; have HO_16 := n1_; have HL3335_1 := n2_; have BK3334 := n3_; have BK3336 := n4_; have HB := n5_; clear n0_ n1_ n2_ n3_ n4_ n5_; have hcz17_0 : w16.cell? ⟨gb3336, 0, none⟩ = some (.string ((rd_T42 l0 x18_1).f0)) := (blk_cell BK3336.out 0).trans rfl; have hcz17_1 : w16.cell? ⟨gb3336, 1, none⟩ = some (.slice A3335_1 ((rd_T42 l0 x18_1).f1).length c3335_1) := (blk_cell BK3336.out 1).trans rfl; have hcz17_2 : w16.cell? ⟨gb3336, 2, none⟩ = some (.string ((rd_T42 l0 x18_1).f2)) := (blk_cell BK3336.out 2).trans rfl; have hfz17_0 := blk_frozen BK3336.out 0; have hfz17_1 := blk_frozen BK3336.out 1; have hfz17_2 := blk_frozen BK3336.out 2; have hcz18_0 : w16.cell? ⟨gb3334, 0, none⟩ = some (.int .i64 a1_0) := (blk_cell BK3334.out 0).trans rfl; have hcz18_1 : w16.cell? ⟨gb3334, 1, none⟩ = some (.string a1_1) := (blk_cell BK3334.out 1).trans rfl; have hcz18_2 : w16.cell? ⟨gb3334, 2, none⟩ = some (.slice A1_2 l1_2.length c1_2) := (blk_cell BK3334.out 2).trans rfl; have hcz18_3 : w16.cell? ⟨gb3334, 3, none⟩ = some (.int .i64 a1_3) := (blk_cell BK3334.out 3).trans rfl; have hcz18_4 : w16.cell? ⟨gb3334, 4, none⟩ = some (.slice A1_4 l1_4.length c1_4) := (blk_cell BK3334.out 4).trans rfl; have hfz18_0 := blk_frozen BK3334.out 0; have hfz18_1 := blk_frozen BK3334.out 1; have hfz18_2 := blk_frozen BK3334.out 2; have hfz18_3 := blk_frozen BK3334.out 3; have hfz18_4 := blk_frozen BK3334.out 4) | (go_at_call 49; (with_reducible refine (impl_expWithin.calls k1 _ _ ((rd_T42 l0 x18_1).f1) _ _ l1_2 true _ ?side1 ?side2 ?side3 ?side4 A10.out).mono ?_); (case side1 => repeat (first | exact (by repeat (first | (with_reducible exact HR3335_1.out) | (with_reducible refine Kd.C_alloc ?_ _) | (with_reducible refine Kd.C_drewN ?_ _) | (with_reducible refine Kd.C_drew ?_) | exact HR3335_1.out | exact (Kd.V_reads' HL3335_1.out).2.2)) | (with_reducible refine Kd.C_alloc ?_ _) | (with_reducible refine Kd.C_drewN ?_ _) | (with_reducible refine Kd.C_drew ?_))); (case side2 => exact HC3335_1.out); (case side3 => repeat (first | exact (Kd.C_below HR1_2.out HB.out) | (with_reducible refine Kd.C_alloc ?_ _) | (with_reducible refine Kd.C_drewN ?_ _) | (with_reducible refine Kd.C_drew ?_))); (case side4 => exact HC1_2.out); rintro e w' ⟨rfl, ⟨nd, rfl⟩⟩; (try first | exact ⟨rfl, _, World.drewN_drewN _ _ _⟩ | exact ⟨rfl, _, Eq.trans (World.drewN_drewN _ _ _) (congrArg (World.drewN _) (Nat.add_assoc _ _ _))⟩)) | ((with_reducible refine gate_builtin (b := .append) (xs := #[.tmp 34, .tmp 36]) rfl ?_); at_builtin; refine Kd.N_append k42 (w0 := w) w.heap.size rfl (.tmp 34) (.tmp 36) 31 42 (.agg #[(.string ⟨#[]⟩), (.slice none 0 0), (.string ⟨#[]⟩)]) 56 rfl Try.underlying31 info42 rfl (by decide) (by omega) u6 x6_1 (⟨(rd_T42 l0 x18_1).f0, (rd_T42 l0 x18_1).f1, (rd_T42 l0 x18_1).f2⟩ : S42) [.string ((rd_T42 l0 x18_1).f0), .slice A3335_1 ((rd_T42 l0 x18_1).f1).length c3335_1, .string ((rd_T42 l0 x18_1).f2)] (fun k_ => (P0_ k_ ∨ w.heap.size ≤ k_) ∧ k_ ≠ gb3334 ∧ k_ ≠ gb3336) (fun k_ => ((fun k_ => (P0_ k_ ∨ w.heap.size ≤ k_) ∧ k_ ≠ gb3334 ∧ k_ ≠ gb3336)) k_ ∧ some k_ ≠ (u6 : Value).ownBlock) rfl rfl ?aP (fun _ hk => hk) ?aF ?aO ?aB ?aS ?aL ?_; (case aP => first | exact (k42_mkF _ _ (⟨(rd_T42 l0 x18_1).f0, (rd_T42 l0 x18_1).f1, (rd_T42 l0 x18_1).f2⟩ : S42) (Kd.V_reads' (Kd.V_mono (ok' := (fun k_ => ((fun k_ => (P0_ k_ ∨ w.heap.size ≤ k_) ∧ k_ ≠ gb3334 ∧ k_ ≠ gb3336)) k_ ∧ some k_ ≠ (u6 : Value).ownBlock)) (HL3335_1.out) (fun k_ hk => ⟨⟨hk.1, ⟨hk.2.2.1, hk.2.2.2⟩⟩, hk.2.1⟩))).2.1 (Kd.V_F (Kd.V_mono (ok' := (fun k_ => ((fun k_ => (P0_ k_ ∨ w.heap.size ≤ k_) ∧ k_ ≠ gb3334 ∧ k_ ≠ gb3336)) k_ ∧ some k_ ≠ (u6 : Value).ownBlock)) (HL3335_1.out) (fun k_ hk => ⟨⟨hk.1, ⟨hk.2.2.1, hk.2.2.2⟩⟩, hk.2.1⟩)))) | exact (k42_mkF _ _ (⟨(rd_T42 l0 x18_1).f0, (rd_T42 l0 x18_1).f1, (rd_T42 l0 x18_1).f2⟩ : S42) (Kd.V_reads' (Kd.V_mono (ok' := (fun k_ => ((fun k_ => (P0_ k_ ∨ w.heap.size ≤ k_) ∧ k_ ≠ gb3334 ∧ k_ ≠ gb3336)) k_ ∧ some k_ ≠ (u6 : Value).ownBlock)) (HL3335_1.out) (fun k_ hk => ⟨⟨hk.1, ⟨hk.2.2.1, hk.2.2.2⟩⟩, hk.2.1⟩))).2.1 (Kd.V_F (Kd.V_mono (ok' := (fun k_ => ((fun k_ => (P0_ k_ ∨ w.heap.size ≤ k_) ∧ k_ ≠ gb3334 ∧ k_ ≠ gb3336)) k_ ∧ some k_ ≠ (u6 : Value).ownBlock)) (Kd.V_drewN HL3335_1.out _) (fun k_ hk => ⟨⟨hk.1, ⟨hk.2.2.1, hk.2.2.2⟩⟩, hk.2.1⟩))))); (case aB => exact (by repeat (first | (with_reducible first | exact HB.out | apply zB | apply zC | apply zE | refine below_set ?_ GE3334.out | refine below_set ?_ GE3336.out) | exact HB.out))); (case aF => exact (fun k_ hk => ⟨(.inr (Nat.le_trans (below_size (by repeat (first | (with_reducible first | exact HB.out | apply zB | apply zC | apply zE | refine below_set ?_ GE3334.out | refine below_set ?_ GE3336.out) | exact HB.out))) hk)), Kd.freshB (g := gb3334) (o := .cells #[.int .i64 a1_0, .string a1_1, .slice A1_2 l1_2.length c1_2, .int .i64 a1_3, .slice A1_4 l1_4.length c1_4] 35 (0, 0)) (by (with_reducible repeat (first | refine zN ?_ _ | refine zD ?_ | refine zA ?_ _)); exact BK3334.out) k_ hk, Kd.freshB (g := gb3336) (o := .cells #[.string ((rd_T42 l0 x18_1).f0), .slice A3335_1 ((rd_T42 l0 x18_1).f1).length c3335_1, .string ((rd_T42 l0 x18_1).f2)] 42 (0, 0)) (by (with_reducible repeat (first | refine zN ?_ _ | refine zD ?_ | refine zA ?_ _)); exact BK3336.out) k_ hk⟩)); (case aO => exact (by (with_reducible repeat (first | apply Kd.N_alloc | apply Kd.N_drewN | apply Kd.N_drew)); exact HO_6.out)); (case aS => exact (below_size (by repeat (first | (with_reducible first | exact HB.out | apply zB | apply zC | apply zE | refine below_set ?_ GE3334.out | refine below_set ?_ GE3336.out) | exact HB.out)))); (case aL => have := LMc12.out; omega); intro v3339 w19 ho hb hg hat; rw [← Ny3338.out] at ho; have n0_ := Aq (Kd.V_afterv (ok := (fun k_ => (P0_ k_ ∨ w.heap.size ≤ k_) ∧ k_ ≠ gb3334 ∧ k_ ≠ gb3336)) (by (with_reducible repeat (first | apply Kd.V_alloc | apply Kd.V_drewN | apply Kd.V_drew)); exact Kd.V_mono HO_16.out (fun _ hk => ⟨⟨hk.1, ⟨hk.2.2.1, hk.2.2.2⟩⟩, hk.2.1⟩)) hg hat); have n1_ := Aq (blk_grown (g := gb3334) (o := .cells #[.int .i64 a1_0, .string a1_1, .slice A1_2 l1_2.length c1_2, .int .i64 a1_3, .slice A1_4 l1_4.length c1_4] 35 (0, 0)) (by (with_reducible repeat (first | refine zN ?_ _ | refine zD ?_ | refine zA ?_ _)); exact BK3334.out) hg (Kd.N_ne HO_6.out BK3334.out (by decide))); have n2_ := Aq (Kd.V_afterv (ok := (fun k_ => (P0_ k_ ∨ w.heap.size ≤ k_) ∧ k_ ≠ gb3334 ∧ k_ ≠ gb3336)) (by (with_reducible repeat (first | apply Kd.V_alloc | apply Kd.V_drewN | apply Kd.V_drew)); exact Kd.V_mono HL3335_1.out (fun _ hk => ⟨⟨hk.1, ⟨hk.2.2.1, hk.2.2.2⟩⟩, hk.2.1⟩)) hg hat); have n3_ := Aq (blk_grown (g := gb3336) (o := .cells #[.string ((rd_T42 l0 x18_1).f0), .slice A3335_1 ((rd_T42 l0 x18_1).f1).length c3335_1, .string ((rd_T42 l0 x18_1).f2)] 42 (0, 0)) (by (with_reducible repeat (first | refine zN ?_ _ | refine zD ?_ | refine zA ?_ _)); exact BK3336.out) hg (Kd.N_away HO_6.out (fun _ hk => hk.2.2))); have n4_ := Aq (hb); have n5_ := Aq (ho); clear HO_16 BK3334 HL3335_1 BK3336 HB HO_6; have HO_16 := n0_; have BK3334 := n1_; have HL3335_1 := n2_; have BK3336 := n3_; have HB := n4_; have HO3340 := n5_; clear n0_ n1_ n2_ n3_ n4_ n5_ ho hb hg hat))
          go_roundg k1
          case measure => have := HK1.out; omega
          case rel => exact ⟨(y3338), (wrap64 (x18_1 + 1)), (by first | rfl | (simp; done) | (simp [*]; done)), H', ⟨by have := HK1.out; omega⟩, ⟨by (with_reducible repeat (first | apply Kd.N_alloc | apply Kd.N_drewN | apply Kd.N_drew)); exact Kd.N_mono HO3340.out (fun _ hk => ⟨hk.1, hk.2.1⟩)⟩, ⟨by (with_reducible repeat (first | apply Kd.V_alloc | apply Kd.V_drewN | apply Kd.V_drew)); exact Kd.V_mono HO_16.out (fun _ hk => ⟨hk.1.1, ⟨hk.2, hk.1.2.1⟩⟩)⟩, ⟨by (with_reducible repeat (first | refine zN ?_ _ | refine zD ?_ | refine zA ?_ _)); exact BK3334.out⟩, ⟨by repeat (first | (with_reducible first | exact HB.out | apply zB | apply zC | apply zE | refine below_set ?_ GE3334.out | refine below_set ?_ GE3336.out) | exact HB.out)⟩⟩
         ·rw [if_neg c12] at H
          exact absurd H (by simp)
        ·replace c11 := Bool.eq_false_iff.mpr c11
         subst c11
         have H1 : (impl_ExpFind.l0 k1 x6_1 l0 (l0.length : Int) (wrap64 (x18_1 + 1)) a1_0 a1_1 l1_2 a1_3 l1_4) = some (r1, r2) := by rw [if_neg (show ¬ (false = true) by decide)] at H; exact H
         clear H
         have H := H1
         clear H1
         have H' := Aq H
         clear H
         have p3335 : 0 ≤ (x18_1 : Int) := of_decide_eq_true (by first | (with_reducible assumption) | assumption)
         have q3335 : x18_1 < (l0.length : Int) := of_decide_eq_true (by first | (with_reducible assumption) | assumption)
         obtain ⟨ad3335, A3335_1, c3335_1, e3335, hx3335_0, hx3335_1, hx3335_2, hl3335_1, hi3335_1⟩ := at_T42 (Kd.V_reads' HO_16.out).2.2 x18_1 p3335 q3335
         cases e3335
         obtain ⟨ce3335, hce3335, hMe3335, hcc3335⟩ := Kd.V_get HO_16.out z42 x18_1 p3335 (by first | exact q3335 | exact of_decide_eq_true (by first | (with_reducible assumption) | assumption) | (have e_ := (Kd.V_reads' HO_16.out).1; omega))
         obtain ⟨ua3335_1, uc3335_1, rfl, ul3335_1, ge3335_1⟩ := k42_openF hMe3335
         have hv3335_1 := hcc3335 1 _ rfl
         rw [add_field _ _ 1 (by omega)] at hv3335_1
         replace hv3335_1 := Option.some.inj (hv3335_1.symm.trans hx3335_1)
         injection hv3335_1 with hva_ hvn_ hvc_
         rw [hva_] at ge3335_1
         rw [hvc_] at ul3335_1
         have HL3335_1 := Aq (show Kd.V (Kd.int .i64) 3 _ w.heap.size _ _ ((rd_T42 l0 x18_1).f1) from Kd.V_mk ul3335_1 ge3335_1)
         clear hva_ hvn_ hvc_ ge3335_1 ul3335_1 hcc3335 hce3335
         have HR3335_1 := Aq hi3335_1
         have HC3335_1 := Aq hl3335_1
         clear hi3335_1 hl3335_1
         replace p3335 := eq_true p3335
         replace q3335 := eq_true q3335
         go_wp2_with (first | ((with_reducible refine gate_dst (N := 8) rfl ?_); refine box_event ?hg (N := 8) ?hd (cs := #[.string (⟨#[]⟩ : ByteArray), .slice none 0 0, .string (⟨#[]⟩ : ByteArray)]) (t := 42) ?hr ?_; (case hd => rfl); (case hg => rfl); (case hr => first | (go_simp; done) | (go_simp; rfl)); intro gb3336 hg w20 hbox hb; have n0_ := Aq (Kd.N_below (Kd.N_elderB (by (with_reducible repeat (first | apply Kd.N_alloc | apply Kd.N_drewN | apply Kd.N_drew)); exact HO_6.out) gb3336 (Nat.le_of_eq hg.symm)) hb); have n1_ := Aq (Kd.V_below (Kd.V_elderB (by (with_reducible repeat (first | apply Kd.V_alloc | apply Kd.V_drewN | apply Kd.V_drew)); exact HO_16.out) gb3336 (Nat.le_of_eq hg.symm)) hb); have n2_ := Aq (Kd.V_below (Kd.V_elderB (by (with_reducible repeat (first | apply Kd.V_alloc | apply Kd.V_drewN | apply Kd.V_drew)); exact HL3335_1.out) gb3336 (Nat.le_of_eq hg.symm)) hb); have n3_ := Aq (blk_below (g := gb3334) (o := .cells #[.int .i64 a1_0, .string a1_1, .slice A1_2 l1_2.length c1_2, .int .i64 a1_3, .slice A1_4 l1_4.length c1_4] 35 (0, 0)) (by (with_reducible repeat (first | refine zN ?_ _ | refine zD ?_ | refine zA ?_ _)); exact BK3334.out) hb); have n4_ := Aq (Kd.C_below (by repeat (first | (with_reducible exact HR3335_1.out) | (with_reducible refine Kd.C_alloc ?_ _) | (with_reducible refine Kd.C_drewN ?_ _) | (with_reducible refine Kd.C_drew ?_) | exact HR3335_1.out | exact (Kd.V_reads' HL3335_1.out).2.2)) hb); have n5_ := Aq (below_step (by repeat (first | (with_reducible first | exact HB.out | apply zB | apply zC | apply zE | refine below_set ?_ GE3334.out) | exact HB.out)) hb); have n6_ := Aq (hbox); have n7_ := Aq ((by rw [hg]; exact (below_size (by repeat (first | (with_reducible first | exact HB.out | apply zB | apply zC | apply zE | refine below_set ?_ GE3334.out) | exact HB.out))) : w.heap.size ≤ gb3336)); have n8_ := Aq ((by rw [hg]; exact (below_size (by repeat (first | (with_reducible first | exact HB.out | apply zB | apply zC | apply zE | refine below_set ?_ GE3334.out) | exact HB.out))) : w.heap.size ≤ gb3336)); have n9_ := Aq ((by rw [hg]; exact Nat.ne_of_lt (blk_lt (g := gb3334) (o := .cells #[.int .i64 a1_0, .string a1_1, .slice A1_2 l1_2.length c1_2, .int .i64 a1_3, .slice A1_4 l1_4.length c1_4] 35 (0, 0)) (by (with_reducible repeat (first | refine zN ?_ _ | refine zD ?_ | refine zA ?_ _)); exact BK3334.out)) : gb3334 ≠ gb3336)); have n10_ := Aq ((by rw [hg]; exact Nat.ne_of_gt (blk_lt (g := gb3334) (o := .cells #[.int .i64 a1_0, .string a1_1, .slice A1_2 l1_2.length c1_2, .int .i64 a1_3, .slice A1_4 l1_4.length c1_4] 35 (0, 0)) (by (with_reducible repeat (first | refine zN ?_ _ | refine zD ?_ | refine zA ?_ _)); exact BK3334.out)) : gb3336 ≠ gb3334)); clear HO_6 HO_16 HL3335_1 BK3334 HR3335_1 HB; have HO_6 := n0_; have HO_16 := n1_; have HL3335_1 := n2_; have BK3334 := n3_; have HR3335_1 := n4_; have HB := n5_; have BK3336 := n6_; have GW3336 := n7_; have GE3336 := n8_; have NB3334_3336 := n9_; have NB3336_3334 := n10_; clear n0_ n1_ n2_ n3_ n4_ n5_ n6_ n7_ n8_ n9_ n10_ hb hbox hg; have hnb21 := NB3336_3334.out; have hnc21 := NB3334_3336.out; have hcz22_0 : w20.cell? ⟨gb3336, 0, none⟩ = some (.string (⟨#[]⟩ : ByteArray)) := (blk_cell BK3336.out 0).trans rfl; have hcz22_1 : w20.cell? ⟨gb3336, 1, none⟩ = some (.slice none 0 0) := (blk_cell BK3336.out 1).trans rfl; have hcz22_2 : w20.cell? ⟨gb3336, 2, none⟩ = some (.string (⟨#[]⟩ : ByteArray)) := (blk_cell BK3336.out 2).trans rfl; have hfz22_0 := blk_frozen BK3336.out 0; have hfz22_1 := blk_frozen BK3336.out 1; have hfz22_2 := blk_frozen BK3336.out 2; have hcz23_0 : w20.cell? ⟨gb3334, 0, none⟩ = some (.int .i64 a1_0) := (blk_cell BK3334.out 0).trans rfl; have hcz23_1 : w20.cell? ⟨gb3334, 1, none⟩ = some (.string a1_1) := (blk_cell BK3334.out 1).trans rfl; have hcz23_2 : w20.cell? ⟨gb3334, 2, none⟩ = some (.slice A1_2 l1_2.length c1_2) := (blk_cell BK3334.out 2).trans rfl; have hcz23_3 : w20.cell? ⟨gb3334, 3, none⟩ = some (.int .i64 a1_3) := (blk_cell BK3334.out 3).trans rfl; have hcz23_4 : w20.cell? ⟨gb3334, 4, none⟩ = some (.slice A1_4 l1_4.length c1_4) := (blk_cell BK3334.out 4).trans rfl; have hfz23_0 := blk_frozen BK3334.out 0; have hfz23_1 := blk_frozen BK3334.out 1; have hfz23_2 := blk_frozen BK3334.out 2; have hfz23_3 := blk_frozen BK3334.out 3; have hfz23_4 := blk_frozen BK3334.out 4) | (go_at_call 49; (with_reducible refine (impl_expWithin.calls k1 _ _ ((rd_T42 l0 x18_1).f1) _ _ l1_2 false _ ?side1 ?side2 ?side3 ?side4 A10.out).mono ?_); (case side1 => repeat (first | exact ((Kd.V_reads' (by (with_reducible repeat (first | apply Kd.V_alloc | apply Kd.V_drewN | apply Kd.V_drew)); exact (Kd.V_mono (Kd.V_far (p := ⟨gb3336, 2, none⟩) (Kd.V_far (p := ⟨gb3336, 1, none⟩) (Kd.V_far (p := ⟨gb3336, 0, none⟩) (Kd.V_mono HL3335_1.out (fun k_ hk => (⟨hk, hk.2⟩ : _ ∧ k_ ≠ gb3336))) (fun _ hk => hk.2) (.string ((rd_T42 l0 x18_1).f0))) (fun _ hk => hk.2) (.slice A3335_1 ((rd_T42 l0 x18_1).f1).length c3335_1)) (fun _ hk => hk.2) (.string ((rd_T42 l0 x18_1).f2))) (fun _ h_ => h_.1)))).2.2) | (with_reducible refine Kd.C_alloc ?_ _) | (with_reducible refine Kd.C_drewN ?_ _) | (with_reducible refine Kd.C_drew ?_))); (case side2 => exact HC3335_1.out); (case side3 => exact Kd.C_below HR1_2.out (by repeat (first | (with_reducible first | exact HB.out | apply zB | apply zC | apply zE | refine below_set ?_ GE3334.out | refine below_set ?_ GE3336.out) | exact HB.out))); (case side4 => exact HC1_2.out); rintro e w' ⟨rfl, ⟨nd, rfl⟩⟩; (try first | exact ⟨rfl, _, World.drewN_drewN _ _ _⟩ | exact ⟨rfl, _, Eq.trans (World.drewN_drewN _ _ _) (congrArg (World.drewN _) (Nat.add_assoc _ _ _))⟩)))
         go_roundg k1
         case measure => have := HK1.out; omega
         case rel => exact ⟨(x6_1), (wrap64 (x18_1 + 1)), (by first | rfl | (simp; done) | (simp [*]; done)), H', ⟨by have := HK1.out; omega⟩, ⟨by (with_reducible repeat (first | apply Kd.N_alloc | apply Kd.N_drewN | apply Kd.N_drew)); exact Kd.N_mono (Kd.N_far (p := ⟨gb3336, 2, none⟩) (Kd.N_far (p := ⟨gb3336, 1, none⟩) (Kd.N_far (p := ⟨gb3336, 0, none⟩) (Kd.N_mono HO_6.out (fun k_ hk => (⟨hk, hk.2⟩ : _ ∧ k_ ≠ gb3336))) (fun _ hk => hk.2) (.string ((rd_T42 l0 x18_1).f0))) (fun _ hk => hk.2) (.slice A3335_1 ((rd_T42 l0 x18_1).f1).length c3335_1)) (fun _ hk => hk.2) (.string ((rd_T42 l0 x18_1).f2))) (fun _ hk => ⟨hk.1.1.1, hk.1.1.2⟩)⟩, ⟨by (with_reducible repeat (first | apply Kd.V_alloc | apply Kd.V_drewN | apply Kd.V_drew)); exact Kd.V_mono (Kd.V_far (p := ⟨gb3336, 2, none⟩) (Kd.V_far (p := ⟨gb3336, 1, none⟩) (Kd.V_far (p := ⟨gb3336, 0, none⟩) (Kd.V_mono HO_16.out (fun k_ hk => (⟨hk, hk.2⟩ : _ ∧ k_ ≠ gb3336))) (fun _ hk => hk.2) (.string ((rd_T42 l0 x18_1).f0))) (fun _ hk => hk.2) (.slice A3335_1 ((rd_T42 l0 x18_1).f1).length c3335_1)) (fun _ hk => hk.2) (.string ((rd_T42 l0 x18_1).f2))) (fun _ hk => ⟨hk.1.1.1, ⟨hk.1.1.2.1, hk.1.1.2.2⟩⟩)⟩, ⟨by (with_reducible repeat (first | refine zN ?_ _ | refine zD ?_ | refine zA ?_ _)); refine blk_far ?_ NB3334_3336.out _; (with_reducible repeat (first | refine zN ?_ _ | refine zD ?_ | refine zA ?_ _)); refine blk_far ?_ NB3334_3336.out _; (with_reducible repeat (first | refine zN ?_ _ | refine zD ?_ | refine zA ?_ _)); refine blk_far ?_ NB3334_3336.out _; (with_reducible repeat (first | refine zN ?_ _ | refine zD ?_ | refine zA ?_ _)); exact BK3334.out⟩, ⟨by repeat (first | (with_reducible first | exact HB.out | apply zB | apply zC | apply zE | refine below_set ?_ GE3334.out | refine below_set ?_ GE3336.out) | exact HB.out)⟩⟩
       ·rw [if_neg c9] at H
        have c9b0 : (((rd_T42 l0 x18_1).f0).toList == a1_1.toList) = false := beq_eq_false_iff_ne.mpr c9
        have c9b1 : (((rd_T42 l0 x18_1).f0).toList != a1_1.toList) = true := bne_iff_ne.mpr c9
        have H' := Aq H
        clear H
        have p3335 : 0 ≤ (x18_1 : Int) := of_decide_eq_true (by first | (with_reducible assumption) | assumption)
        have q3335 : x18_1 < (l0.length : Int) := of_decide_eq_true (by first | (with_reducible assumption) | assumption)
        obtain ⟨ad3335, A3335_1, c3335_1, e3335, hx3335_0, hx3335_1, hx3335_2, hl3335_1, hi3335_1⟩ := at_T42 (Kd.V_reads' HO_16.out).2.2 x18_1 p3335 q3335
        cases e3335
        obtain ⟨ce3335, hce3335, hMe3335, hcc3335⟩ := Kd.V_get HO_16.out z42 x18_1 p3335 (by first | exact q3335 | exact of_decide_eq_true (by first | (with_reducible assumption) | assumption) | (have e_ := (Kd.V_reads' HO_16.out).1; omega))
        obtain ⟨ua3335_1, uc3335_1, rfl, ul3335_1, ge3335_1⟩ := k42_openF hMe3335
        have hv3335_1 := hcc3335 1 _ rfl
        rw [add_field _ _ 1 (by omega)] at hv3335_1
        replace hv3335_1 := Option.some.inj (hv3335_1.symm.trans hx3335_1)
        injection hv3335_1 with hva_ hvn_ hvc_
        rw [hva_] at ge3335_1
        rw [hvc_] at ul3335_1
        have HL3335_1 := Aq (show Kd.V (Kd.int .i64) 3 _ w.heap.size _ _ ((rd_T42 l0 x18_1).f1) from Kd.V_mk ul3335_1 ge3335_1)
        clear hva_ hvn_ hvc_ ge3335_1 ul3335_1 hcc3335 hce3335
        have HR3335_1 := Aq hi3335_1
        have HC3335_1 := Aq hl3335_1
        clear hi3335_1 hl3335_1
        replace p3335 := eq_true p3335
        replace q3335 := eq_true q3335
        go_wp2_with (first | ((with_reducible refine gate_dst (N := 8) rfl ?_); refine box_event ?hg (N := 8) ?hd (cs := #[.string (⟨#[]⟩ : ByteArray), .slice none 0 0, .string (⟨#[]⟩ : ByteArray)]) (t := 42) ?hr ?_; (case hd => rfl); (case hg => rfl); (case hr => first | (go_simp; done) | (go_simp; rfl)); intro gb3336 hg w24 hbox hb; have n0_ := Aq (Kd.N_below (Kd.N_elderB (by (with_reducible repeat (first | apply Kd.N_alloc | apply Kd.N_drewN | apply Kd.N_drew)); exact HO_6.out) gb3336 (Nat.le_of_eq hg.symm)) hb); have n1_ := Aq (Kd.V_below (Kd.V_elderB (by (with_reducible repeat (first | apply Kd.V_alloc | apply Kd.V_drewN | apply Kd.V_drew)); exact HO_16.out) gb3336 (Nat.le_of_eq hg.symm)) hb); have n2_ := Aq (Kd.V_below (Kd.V_elderB (by (with_reducible repeat (first | apply Kd.V_alloc | apply Kd.V_drewN | apply Kd.V_drew)); exact HL3335_1.out) gb3336 (Nat.le_of_eq hg.symm)) hb); have n3_ := Aq (blk_below (g := gb3334) (o := .cells #[.int .i64 a1_0, .string a1_1, .slice A1_2 l1_2.length c1_2, .int .i64 a1_3, .slice A1_4 l1_4.length c1_4] 35 (0, 0)) (by (with_reducible repeat (first | refine zN ?_ _ | refine zD ?_ | refine zA ?_ _)); exact BK3334.out) hb); have n4_ := Aq (Kd.C_below (by repeat (first | (with_reducible exact HR3335_1.out) | (with_reducible refine Kd.C_alloc ?_ _) | (with_reducible refine Kd.C_drewN ?_ _) | (with_reducible refine Kd.C_drew ?_) | exact HR3335_1.out | exact (Kd.V_reads' HL3335_1.out).2.2)) hb); have n5_ := Aq (below_step (by repeat (first | (with_reducible first | exact HB.out | apply zB | apply zC | apply zE | refine below_set ?_ GE3334.out) | exact HB.out)) hb); have n6_ := Aq (hbox); have n7_ := Aq ((by rw [hg]; exact (below_size (by repeat (first | (with_reducible first | exact HB.out | apply zB | apply zC | apply zE | refine below_set ?_ GE3334.out) | exact HB.out))) : w.heap.size ≤ gb3336)); have n8_ := Aq ((by rw [hg]; exact (below_size (by repeat (first | (with_reducible first | exact HB.out | apply zB | apply zC | apply zE | refine below_set ?_ GE3334.out) | exact HB.out))) : w.heap.size ≤ gb3336)); have n9_ := Aq ((by rw [hg]; exact Nat.ne_of_lt (blk_lt (g := gb3334) (o := .cells #[.int .i64 a1_0, .string a1_1, .slice A1_2 l1_2.length c1_2, .int .i64 a1_3, .slice A1_4 l1_4.length c1_4] 35 (0, 0)) (by (with_reducible repeat (first | refine zN ?_ _ | refine zD ?_ | refine zA ?_ _)); exact BK3334.out)) : gb3334 ≠ gb3336)); have n10_ := Aq ((by rw [hg]; exact Nat.ne_of_gt (blk_lt (g := gb3334) (o := .cells #[.int .i64 a1_0, .string a1_1, .slice A1_2 l1_2.length c1_2, .int .i64 a1_3, .slice A1_4 l1_4.length c1_4] 35 (0, 0)) (by (with_reducible repeat (first | refine zN ?_ _ | refine zD ?_ | refine zA ?_ _)); exact BK3334.out)) : gb3336 ≠ gb3334)); clear HO_6 HO_16 HL3335_1 BK3334 HR3335_1 HB; have HO_6 := n0_; have HO_16 := n1_; have HL3335_1 := n2_; have BK3334 := n3_; have HR3335_1 := n4_; have HB := n5_; have BK3336 := n6_; have GW3336 := n7_; have GE3336 := n8_; have NB3334_3336 := n9_; have NB3336_3334 := n10_; clear n0_ n1_ n2_ n3_ n4_ n5_ n6_ n7_ n8_ n9_ n10_ hb hbox hg; have hnb25 := NB3336_3334.out; have hnc25 := NB3334_3336.out; have hcz26_0 : w24.cell? ⟨gb3336, 0, none⟩ = some (.string (⟨#[]⟩ : ByteArray)) := (blk_cell BK3336.out 0).trans rfl; have hcz26_1 : w24.cell? ⟨gb3336, 1, none⟩ = some (.slice none 0 0) := (blk_cell BK3336.out 1).trans rfl; have hcz26_2 : w24.cell? ⟨gb3336, 2, none⟩ = some (.string (⟨#[]⟩ : ByteArray)) := (blk_cell BK3336.out 2).trans rfl; have hfz26_0 := blk_frozen BK3336.out 0; have hfz26_1 := blk_frozen BK3336.out 1; have hfz26_2 := blk_frozen BK3336.out 2; have hcz27_0 : w24.cell? ⟨gb3334, 0, none⟩ = some (.int .i64 a1_0) := (blk_cell BK3334.out 0).trans rfl; have hcz27_1 : w24.cell? ⟨gb3334, 1, none⟩ = some (.string a1_1) := (blk_cell BK3334.out 1).trans rfl; have hcz27_2 : w24.cell? ⟨gb3334, 2, none⟩ = some (.slice A1_2 l1_2.length c1_2) := (blk_cell BK3334.out 2).trans rfl; have hcz27_3 : w24.cell? ⟨gb3334, 3, none⟩ = some (.int .i64 a1_3) := (blk_cell BK3334.out 3).trans rfl; have hcz27_4 : w24.cell? ⟨gb3334, 4, none⟩ = some (.slice A1_4 l1_4.length c1_4) := (blk_cell BK3334.out 4).trans rfl; have hfz27_0 := blk_frozen BK3334.out 0; have hfz27_1 := blk_frozen BK3334.out 1; have hfz27_2 := blk_frozen BK3334.out 2; have hfz27_3 := blk_frozen BK3334.out 3; have hfz27_4 := blk_frozen BK3334.out 4))
        go_roundg k1
        case measure => have := HK1.out; omega
        case rel => exact ⟨(x6_1), (wrap64 (x18_1 + 1)), (by first | rfl | (simp; done) | (simp [*]; done)), H', ⟨by have := HK1.out; omega⟩, ⟨by (with_reducible repeat (first | apply Kd.N_alloc | apply Kd.N_drewN | apply Kd.N_drew)); exact Kd.N_mono (Kd.N_far (p := ⟨gb3336, 2, none⟩) (Kd.N_far (p := ⟨gb3336, 1, none⟩) (Kd.N_far (p := ⟨gb3336, 0, none⟩) (Kd.N_mono HO_6.out (fun k_ hk => (⟨hk, hk.2⟩ : _ ∧ k_ ≠ gb3336))) (fun _ hk => hk.2) (.string ((rd_T42 l0 x18_1).f0))) (fun _ hk => hk.2) (.slice A3335_1 ((rd_T42 l0 x18_1).f1).length c3335_1)) (fun _ hk => hk.2) (.string ((rd_T42 l0 x18_1).f2))) (fun _ hk => ⟨hk.1.1.1, hk.1.1.2⟩)⟩, ⟨by (with_reducible repeat (first | apply Kd.V_alloc | apply Kd.V_drewN | apply Kd.V_drew)); exact Kd.V_mono (Kd.V_far (p := ⟨gb3336, 2, none⟩) (Kd.V_far (p := ⟨gb3336, 1, none⟩) (Kd.V_far (p := ⟨gb3336, 0, none⟩) (Kd.V_mono HO_16.out (fun k_ hk => (⟨hk, hk.2⟩ : _ ∧ k_ ≠ gb3336))) (fun _ hk => hk.2) (.string ((rd_T42 l0 x18_1).f0))) (fun _ hk => hk.2) (.slice A3335_1 ((rd_T42 l0 x18_1).f1).length c3335_1)) (fun _ hk => hk.2) (.string ((rd_T42 l0 x18_1).f2))) (fun _ hk => ⟨hk.1.1.1, ⟨hk.1.1.2.1, hk.1.1.2.2⟩⟩)⟩, ⟨by (with_reducible repeat (first | refine zN ?_ _ | refine zD ?_ | refine zA ?_ _)); refine blk_far ?_ NB3334_3336.out _; (with_reducible repeat (first | refine zN ?_ _ | refine zD ?_ | refine zA ?_ _)); refine blk_far ?_ NB3334_3336.out _; (with_reducible repeat (first | refine zN ?_ _ | refine zD ?_ | refine zA ?_ _)); refine blk_far ?_ NB3334_3336.out _; (with_reducible repeat (first | refine zN ?_ _ | refine zD ?_ | refine zA ?_ _)); exact BK3334.out⟩, ⟨by repeat (first | (with_reducible first | exact HB.out | apply zB | apply zC | apply zE | refine below_set ?_ GE3334.out | refine below_set ?_ GE3336.out) | exact HB.out)⟩⟩
      ·rw [if_neg c8] at H
       exact absurd H (by simp)
     ·rw [if_neg c7] at H
      exact absurd H (by simp)
    ·rw [if_neg c6] at H
     have c6b0 : decide (x18_1 < (l0.length : Int)) = false := decide_eq_false c6
     clear c6
     by_cases c28 : (x6_1.length : Int) = 0
     ·rw [if_pos c28] at H
      have c28b0 : ((x6_1.length : Int) == 0) = true := beq_iff_eq.mpr c28
      have c28b1 : ((x6_1.length : Int) != 0) = false := bne_eq_false_iff_eq.mpr c28
      clear c28
      simp only [Option.some.injEq, Prod.mk.injEq] at H
      obtain ⟨rfl, rfl⟩ := H
      obtain ⟨Ao29, co29, eo29⟩ := Kd.N_slice HO_6.out
      subst eo29
      go_wp2
      repeat (go_quiet (fail); try go_wp2)
      go_ret2
      exact ⟨by first | rfl | (simp [errW_none, errW_some] <;> rfl) | (simp [*, errW_none, errW_some] <;> rfl), by repeat (first | (with_reducible first | exact HB.out | apply zB | apply zC | apply zE | refine below_set ?_ GE3334.out) | exact HB.out)⟩
     ·rw [if_neg c28] at H
      have c28b0 : ((x6_1.length : Int) == 0) = false := beq_eq_false_iff_ne.mpr c28
      have c28b1 : ((x6_1.length : Int) != 0) = true := bne_iff_ne.mpr c28
      have c28b2 : ¬ (x6_1 = []) := fun h_ => c28 (by rw [h_]; rfl)
      have H' := Aq H
      clear H
      obtain ⟨Ao30, co30, eo30⟩ := Kd.N_slice HO_6.out
      subst eo30
      go_wp2
      repeat (go_quiet (fail); try go_wp2)
      go_loopg [9] k1 (fun kq v9 w' => ∃ (x9_2 : Int), v9 = .int .i64 x9_2 ∧ Aside0 (impl_ExpFind.l1 kq x6_1 x9_2 = some (r1, r2)) ∧ Aside0 (kq ≤ k1) ∧ Aside0 (Kd.N k42 42 w' w.heap.size (fun k_ => (P0_ k_ ∨ w.heap.size ≤ k_) ∧ k_ ≠ gb3334) (.slice Ao30 x6_1.length co30) x6_1) ∧ Aside0 (w'.heap[gb3334]? = some (.cells #[.int .i64 a1_0, .string a1_1, (.slice A1_2 l1_2.length c1_2), .int .i64 a1_3, (.slice A1_4 l1_4.length c1_4)] 35 (0, 0))) ∧ Aside0 (Below w.heap.size w w'))
      case atStart => exact ⟨(wrap64 ((x6_1.length : Int) - 1)), (by first | rfl | (simp; done) | (simp [*]; done)), H', ⟨Nat.le_refl _⟩, ⟨by (with_reducible repeat (first | apply Kd.N_alloc | apply Kd.N_drewN | apply Kd.N_drew)); exact HO_6.out⟩, ⟨by (with_reducible repeat (first | refine zN ?_ _ | refine zD ?_ | refine zA ?_ _)); exact BK3334.out⟩, ⟨by repeat (first | (with_reducible first | exact HB.out | apply zB | apply zC | apply zE | refine below_set ?_ GE3334.out) | exact HB.out)⟩⟩
      case round =>
       clear H'
       try clear c1
       try clear c2
       try clear p2
       try clear c3
       try clear c3b0
       try clear c3b1
       try clear p3
       try clear q3
       try clear hx3
       try clear c6
       try clear c6b0
       try clear p6
       try clear c7
       try clear c7b0
       try clear c8
       try clear c8b0
       try clear c9
       try clear c9b0
       try clear c9b1
       try clear c11
       try clear c12
       try clear c14
       try clear c18
       try clear c21
       try clear c25
       try clear c28
       try clear c28b0
       try clear c28b1
       try clear c28b2
       try clear hcz15_0
       try clear hcz15_1
       try clear hcz15_2
       try clear hcz17_0
       try clear hcz17_1
       try clear hcz17_2
       try clear hcz18_0
       try clear hcz18_1
       try clear hcz18_2
       try clear hcz18_3
       try clear hcz18_4
       try clear hcz22_0
       try clear hcz22_1
       try clear hcz22_2
       try clear hcz23_0
       try clear hcz23_1
       try clear hcz23_2
       try clear hcz23_3
       try clear hcz23_4
       try clear hcz26_0
       try clear hcz26_1
       try clear hcz26_2
       try clear hcz27_0
       try clear hcz27_1
       try clear hcz27_2
       try clear hcz27_3
       try clear hcz27_4
       try clear hcz5_0
       try clear hcz5_1
       try clear hcz5_2
       try clear hcz5_3
       try clear hcz5_4
       try clear hfz15_0
       try clear hfz15_1
       try clear hfz15_2
       try clear hfz17_0
       try clear hfz17_1
       try clear hfz17_2
       try clear hfz18_0
       try clear hfz18_1
       try clear hfz18_2
       try clear hfz18_3
       try clear hfz18_4
       try clear hfz22_0
       try clear hfz22_1
       try clear hfz22_2
       try clear hfz23_0
       try clear hfz23_1
       try clear hfz23_2
       try clear hfz23_3
       try clear hfz23_4
       try clear hfz26_0
       try clear hfz26_1
       try clear hfz26_2
       try clear hfz27_0
       try clear hfz27_1
       try clear hfz27_2
       try clear hfz27_3
       try clear hfz27_4
       try clear hfz5_0
       try clear hfz5_1
       try clear hfz5_2
       try clear hfz5_3
       try clear hfz5_4
       try clear hx3335_0
       try clear hx3335_1
       try clear hx3335_2
       try clear p2
       try clear p3335
       try clear q3335
       obtain ⟨x9_2, rfl, HA, HK2, HO_6, BK3334, HB⟩ := hrel
       cases gk with
       | zero => exact absurd HA.out (by simp [impl_ExpFind.l1])
       | succ k2 =>
        have H := HA.out
        clear HA
        simp only [impl_ExpFind.l1] at H
        by_cases c31 : x9_2 ≥ 0
        ·rw [if_pos c31] at H
         have c31b0 : decide (0 ≤ x9_2) = true := decide_eq_true c31
         clear c31
         have H' := Aq H
         clear H
         go_wp2
         repeat (go_quiet (fail); try go_wp2)
         go_loopg [10, 51] k2 (fun kq v10 v51 w' => ∃ (x10_3 : Bool) (x51_3 : Int), v10 = .bool x10_3 ∧ v51 = .int .i64 x51_3 ∧ Aside0 (impl_ExpFind.l2 kq x6_1 x9_2 x10_3 x6_1 (x6_1.length : Int) x51_3 = some (r1, r2)) ∧ Aside0 (kq ≤ k2) ∧ Aside0 (Kd.N k42 42 w' w.heap.size (fun k_ => (P0_ k_ ∨ w.heap.size ≤ k_) ∧ k_ ≠ gb3334) (.slice Ao30 x6_1.length co30) x6_1) ∧ Aside0 (Kd.N k42 42 w' w.heap.size (fun k_ => (P0_ k_ ∨ w.heap.size ≤ k_) ∧ k_ ≠ gb3334) (.slice Ao30 x6_1.length co30) x6_1) ∧ Aside0 (w'.heap[gb3334]? = some (.cells #[.int .i64 a1_0, .string a1_1, (.slice A1_2 l1_2.length c1_2), .int .i64 a1_3, (.slice A1_4 l1_4.length c1_4)] 35 (0, 0))) ∧ Aside0 (Below w.heap.size w w'))
         case atStart => exact ⟨(true), (0), (by first | rfl | (simp; done) | (simp [*]; done)), (by first | rfl | (simp; done) | (simp [*]; done)), H', ⟨Nat.le_refl _⟩, ⟨by (with_reducible repeat (first | apply Kd.N_alloc | apply Kd.N_drewN | apply Kd.N_drew)); exact HO_6.out⟩, ⟨by (with_reducible repeat (first | apply Kd.N_alloc | apply Kd.N_drewN | apply Kd.N_drew)); exact HO_6.out⟩, ⟨by (with_reducible repeat (first | refine zN ?_ _ | refine zD ?_ | refine zA ?_ _)); exact BK3334.out⟩, ⟨by repeat (first | (with_reducible first | exact HB.out | apply zB | apply zC | apply zE | refine below_set ?_ GE3334.out) | exact HB.out)⟩⟩
         case round =>
          clear H'
          try clear c1
          try clear c2
          try clear p2
          try clear c3
          try clear c3b0
          try clear c3b1
          try clear p3
          try clear q3
          try clear hx3
          try clear c6
          try clear c6b0
          try clear p6
          try clear c7
          try clear c7b0
          try clear c8
          try clear c8b0
          try clear c9
          try clear c9b0
          try clear c9b1
          try clear c11
          try clear c12
          try clear c14
          try clear c18
          try clear c21
          try clear c25
          try clear c28
          try clear c28b0
          try clear c28b1
          try clear c28b2
          try clear c31
          try clear c31b0
          try clear hcz15_0
          try clear hcz15_1
          try clear hcz15_2
          try clear hcz17_0
          try clear hcz17_1
          try clear hcz17_2
          try clear hcz18_0
          try clear hcz18_1
          try clear hcz18_2
          try clear hcz18_3
          try clear hcz18_4
          try clear hcz22_0
          try clear hcz22_1
          try clear hcz22_2
          try clear hcz23_0
          try clear hcz23_1
          try clear hcz23_2
          try clear hcz23_3
          try clear hcz23_4
          try clear hcz26_0
          try clear hcz26_1
          try clear hcz26_2
          try clear hcz27_0
          try clear hcz27_1
          try clear hcz27_2
          try clear hcz27_3
          try clear hcz27_4
          try clear hcz5_0
          try clear hcz5_1
          try clear hcz5_2
          try clear hcz5_3
          try clear hcz5_4
          try clear hfz15_0
          try clear hfz15_1
          try clear hfz15_2
          try clear hfz17_0
          try clear hfz17_1
          try clear hfz17_2
          try clear hfz18_0
          try clear hfz18_1
          try clear hfz18_2
          try clear hfz18_3
          try clear hfz18_4
          try clear hfz22_0
          try clear hfz22_1
          try clear hfz22_2
          try clear hfz23_0
          try clear hfz23_1
          try clear hfz23_2
          try clear hfz23_3
          try clear hfz23_4
          try clear hfz26_0
          try clear hfz26_1
          try clear hfz26_2
          try clear hfz27_0
          try clear hfz27_1
          try clear hfz27_2
          try clear hfz27_3
          try clear hfz27_4
          try clear hfz5_0
          try clear hfz5_1
          try clear hfz5_2
          try clear hfz5_3
          try clear hfz5_4
          try clear hx3335_0
          try clear hx3335_1
          try clear hx3335_2
          try clear p2
          try clear p3
          try clear p3335
          try clear p6
          try clear q3
          try clear q3335
          obtain ⟨x10_3, x51_3, rfl, rfl, HA, HK3, HO_6, HO_49, BK3334, HB⟩ := hrel
          cases gk with
          | zero => exact absurd HA.out (by simp [impl_ExpFind.l2])
          | succ k3 =>
           have H := HA.out
           clear HA
           simp only [impl_ExpFind.l2] at H
           by_cases c32 : x51_3 < (x6_1.length : Int)
           ·rw [if_pos c32] at H
            have c32b0 : decide (x51_3 < (x6_1.length : Int)) = true := decide_eq_true c32
            clear c32
            by_cases c33 : 0 ≤ x51_3
            ·rw [if_pos c33] at H
             have c33b0 : decide (0 ≤ x51_3) = true := decide_eq_true c33
             clear c33
             by_cases c34 : x51_3 < (x6_1.length : Int)
             ·rw [if_pos c34] at H
              have c34b0 : decide (x51_3 < (x6_1.length : Int)) = true := decide_eq_true c34
              clear c34
              by_cases c35 : x10_3 = true
              ·subst c35
               have H1 : (if 0 ≤ x9_2 then (if x9_2 < (x6_1.length : Int) then ((impl_expWithin.f k3 ((rd_T42 x6_1 x51_3).f1) ((rd_T42 x6_1 x9_2).f1)).bind fun t3344 => (impl_ExpFind.l2 k3 x6_1 x9_2 t3344 x6_1 (x6_1.length : Int) (wrap64 (x51_3 + 1)))) else (none)) else (none)) = some (r1, r2) := by rw [if_pos rfl] at H; exact H
               clear H
               have H := H1
               clear H1
               by_cases c36 : 0 ≤ x9_2
               ·rw [if_pos c36] at H
                have c36b0 : decide (0 ≤ x9_2) = true := decide_eq_true c36
                clear c36
                by_cases c37 : x9_2 < (x6_1.length : Int)
                ·rw [if_pos c37] at H
                 have c37b0 : decide (x9_2 < (x6_1.length : Int)) = true := decide_eq_true c37
                 clear c37
                 replace H := Option.bind_eq_some_iff.mp H
                 obtain ⟨t3344, A380, H⟩ := H
                 replace H : (impl_ExpFind.l2 k3 x6_1 x9_2 t3344 x6_1 (x6_1.length : Int) (wrap64 (x51_3 + 1))) = some (r1, r2) := H
                 have A38 := Aq A380
                 clear A380
                 have H' := Aq H
                 clear H
                 have p3341 : 0 ≤ (x51_3 : Int) := of_decide_eq_true (by first | (with_reducible assumption) | assumption)
                 have q3341 : x51_3 < (x6_1.length : Int) := of_decide_eq_true (by first | (with_reducible assumption) | assumption)
                 obtain ⟨ad3341, A3341_1, c3341_1, e3341, hx3341_0, hx3341_1, hx3341_2, hl3341_1, hi3341_1⟩ := at_T42 (Kd.N_reads' HO_49.out).2.2 x51_3 p3341 q3341
                 cases e3341
                 obtain ⟨ce3341, hce3341, hMe3341, hcc3341⟩ := Kd.N_get HO_49.out z42 x51_3 p3341 (by first | exact q3341 | exact of_decide_eq_true (by first | (with_reducible assumption) | assumption) | (have e_ := (Kd.N_reads' HO_49.out).1; omega))
                 obtain ⟨ua3341_1, uc3341_1, rfl, ul3341_1, ge3341_1⟩ := k42_openF hMe3341
                 have hv3341_1 := hcc3341 1 _ rfl
                 rw [add_field _ _ 1 (by omega)] at hv3341_1
                 replace hv3341_1 := Option.some.inj (hv3341_1.symm.trans hx3341_1)
                 injection hv3341_1 with hva_ hvn_ hvc_
                 rw [hva_] at ge3341_1
                 rw [hvc_] at ul3341_1
                 have HL3341_1 := Aq (show Kd.V (Kd.int .i64) 3 _ w.heap.size _ _ ((rd_T42 x6_1 x51_3).f1) from Kd.V_mk ul3341_1 ge3341_1)
                 clear hva_ hvn_ hvc_ ge3341_1 ul3341_1 hcc3341 hce3341
                 have HR3341_1 := Aq hi3341_1
                 have HC3341_1 := Aq hl3341_1
                 clear hi3341_1 hl3341_1
                 replace p3341 := eq_true p3341
                 replace q3341 := eq_true q3341
                 go_wp2_with (first | ((with_reducible refine gate_dst (N := 12) rfl ?_); refine box_event ?hg (N := 12) ?hd (cs := #[.string (⟨#[]⟩ : ByteArray), .slice none 0 0, .string (⟨#[]⟩ : ByteArray)]) (t := 42) ?hr ?_; (case hd => rfl); (case hg => rfl); (case hr => first | (go_simp; done) | (go_simp; rfl)); intro gb3342 hg w39 hbox hb; have n0_ := Aq (Kd.N_below (Kd.N_elderB (by (with_reducible repeat (first | apply Kd.N_alloc | apply Kd.N_drewN | apply Kd.N_drew)); exact HO_6.out) gb3342 (Nat.le_of_eq hg.symm)) hb); have n1_ := Aq (Kd.N_below (Kd.N_elderB (by (with_reducible repeat (first | apply Kd.N_alloc | apply Kd.N_drewN | apply Kd.N_drew)); exact HO_49.out) gb3342 (Nat.le_of_eq hg.symm)) hb); have n2_ := Aq (Kd.V_below (Kd.V_elderB (by (with_reducible repeat (first | apply Kd.V_alloc | apply Kd.V_drewN | apply Kd.V_drew)); exact HL3341_1.out) gb3342 (Nat.le_of_eq hg.symm)) hb); have n3_ := Aq (blk_below (g := gb3334) (o := .cells #[.int .i64 a1_0, .string a1_1, .slice A1_2 l1_2.length c1_2, .int .i64 a1_3, .slice A1_4 l1_4.length c1_4] 35 (0, 0)) (by (with_reducible repeat (first | refine zN ?_ _ | refine zD ?_ | refine zA ?_ _)); exact BK3334.out) hb); have n4_ := Aq (Kd.C_below (by repeat (first | (with_reducible exact HR3341_1.out) | (with_reducible refine Kd.C_alloc ?_ _) | (with_reducible refine Kd.C_drewN ?_ _) | (with_reducible refine Kd.C_drew ?_) | exact HR3341_1.out | exact (Kd.V_reads' HL3341_1.out).2.2)) hb); have n5_ := Aq (below_step (by repeat (first | (with_reducible first | exact HB.out | apply zB | apply zC | apply zE | refine below_set ?_ GE3334.out) | exact HB.out)) hb); have n6_ := Aq (hbox); have n7_ := Aq ((by rw [hg]; exact (below_size (by repeat (first | (with_reducible first | exact HB.out | apply zB | apply zC | apply zE | refine below_set ?_ GE3334.out) | exact HB.out))) : w.heap.size ≤ gb3342)); have n8_ := Aq ((by rw [hg]; exact (below_size (by repeat (first | (with_reducible first | exact HB.out | apply zB | apply zC | apply zE | refine below_set ?_ GE3334.out) | exact HB.out))) : w.heap.size ≤ gb3342)); have n9_ := Aq ((by rw [hg]; exact Nat.ne_of_lt (blk_lt (g := gb3334) (o := .cells #[.int .i64 a1_0, .string a1_1, .slice A1_2 l1_2.length c1_2, .int .i64 a1_3, .slice A1_4 l1_4.length c1_4] 35 (0, 0)) (by (with_reducible repeat (first | refine zN ?_ _ | refine zD ?_ | refine zA ?_ _)); exact BK3334.out)) : gb3334 ≠ gb3342)); have n10_ := Aq ((by rw [hg]; exact Nat.ne_of_gt (blk_lt (g := gb3334) (o := .cells #[.int .i64 a1_0, .string a1_1, .slice A1_2 l1_2.length c1_2, .int .i64 a1_3, .slice A1_4 l1_4.length c1_4] 35 (0, 0)) (by (with_reducible repeat (first | refine zN ?_ _ | refine zD ?_ | refine zA ?_ _)); exact BK3334.out)) : gb3342 ≠ gb3334)); clear HO_6 HO_49 HL3341_1 BK3334 HR3341_1 HB; have HO_6 := n0_; have HO_49 := n1_; have HL3341_1 := n2_; have BK3334 := n3_; have HR3341_1 := n4_; have HB := n5_; have BK3342 := n6_; have GW3342 := n7_; have GE3342 := n8_; have NB3334_3342 := n9_; have NB3342_3334 := n10_; clear n0_ n1_ n2_ n3_ n4_ n5_ n6_ n7_ n8_ n9_ n10_ hb hbox hg; have hnb40 := NB3342_3334.out; have hnc40 := NB3334_3342.out; have hcz41_0 : w39.cell? ⟨gb3342, 0, none⟩ = some (.string (⟨#[]⟩ : ByteArray)) := (blk_cell BK3342.out 0).trans rfl; have hcz41_1 : w39.cell? ⟨gb3342, 1, none⟩ = some (.slice none 0 0) := (blk_cell BK3342.out 1).trans rfl; have hcz41_2 : w39.cell? ⟨gb3342, 2, none⟩ = some (.string (⟨#[]⟩ : ByteArray)) := (blk_cell BK3342.out 2).trans rfl; have hfz41_0 := blk_frozen BK3342.out 0; have hfz41_1 := blk_frozen BK3342.out 1; have hfz41_2 := blk_frozen BK3342.out 2) | ((with_reducible refine gate_store (t := 42) (p := 12) rfl ?_); (try (rw [drewN_self w39]; generalize hq_ : World.drewN w39 _ = w39; have n0_ := Aq (Kd.N_at hq_ HO_6.out); have n1_ := Aq (Kd.N_at hq_ HO_49.out); have n2_ := Aq (Kd.V_at hq_ HL3341_1.out); have n3_ := Aq (blk_at hq_ BK3334.out); have n4_ := Aq (blk_at hq_ BK3342.out); have n5_ := Aq (Kd.C_at hq_ HR3341_1.out); have n6_ := Aq (below_at hq_ HB.out); clear hq_ HO_6 HO_49 HL3341_1 BK3334 BK3342 HR3341_1 HB; have HO_6 := n0_; have HO_49 := n1_; have HL3341_1 := n2_; have BK3334 := n3_; have BK3342 := n4_; have HR3341_1 := n5_; have HB := n6_; clear n0_ n1_ n2_ n3_ n4_ n5_ n6_)); refine store_event (t := 42) (p := 12) (v := ?vo_w42) (w1 := (((w39.setCell ⟨gb3342, 0, none⟩ (.string ((rd_T42 x6_1 x51_3).f0))).setCell ⟨gb3342, 1, none⟩ (.slice A3341_1 ((rd_T42 x6_1 x51_3).f1).length c3341_1)).setCell ⟨gb3342, 2, none⟩ (.string ((rd_T42 x6_1 x51_3).f2)))) ?hg ?ho ?hn ?hr ?_; (case ho => rfl); (case hg => rfl); (case hn => rfl); (case hr => first | (go_simp; done) | (go_simp; rfl)); intro w42 hw; have n0_ : Aside0 (Kd.N k42 42 w42 w.heap.size (fun k_ => (P0_ k_ ∨ w.heap.size ≤ k_) ∧ k_ ≠ gb3334 ∧ k_ ≠ gb3342) (.slice (some ad3341) x6_1.length co30) x6_1) := ⟨(by rw [hw]; exact (by (with_reducible repeat (first | apply Kd.N_alloc | apply Kd.N_drewN | apply Kd.N_drew)); exact Kd.N_mono (Kd.N_far (p := ⟨gb3342, 2, none⟩) (Kd.N_far (p := ⟨gb3342, 1, none⟩) (Kd.N_far (p := ⟨gb3342, 0, none⟩) (Kd.N_mono HO_6.out (fun k_ hk => (⟨hk, hk.2⟩ : _ ∧ k_ ≠ gb3342))) (fun _ hk => hk.2) (.string ((rd_T42 x6_1 x51_3).f0))) (fun _ hk => hk.2) (.slice A3341_1 ((rd_T42 x6_1 x51_3).f1).length c3341_1)) (fun _ hk => hk.2) (.string ((rd_T42 x6_1 x51_3).f2))) (fun _ hk => ⟨hk.1.1.1, ⟨hk.1.1.2, hk.1.2⟩⟩)))⟩; have n1_ : Aside0 (Kd.N k42 42 w42 w.heap.size (fun k_ => (P0_ k_ ∨ w.heap.size ≤ k_) ∧ k_ ≠ gb3334 ∧ k_ ≠ gb3342) (.slice (some ad3341) x6_1.length co30) x6_1) := ⟨(by rw [hw]; exact (by (with_reducible repeat (first | apply Kd.N_alloc | apply Kd.N_drewN | apply Kd.N_drew)); exact Kd.N_mono (Kd.N_far (p := ⟨gb3342, 2, none⟩) (Kd.N_far (p := ⟨gb3342, 1, none⟩) (Kd.N_far (p := ⟨gb3342, 0, none⟩) (Kd.N_mono HO_49.out (fun k_ hk => (⟨hk, hk.2⟩ : _ ∧ k_ ≠ gb3342))) (fun _ hk => hk.2) (.string ((rd_T42 x6_1 x51_3).f0))) (fun _ hk => hk.2) (.slice A3341_1 ((rd_T42 x6_1 x51_3).f1).length c3341_1)) (fun _ hk => hk.2) (.string ((rd_T42 x6_1 x51_3).f2))) (fun _ hk => ⟨hk.1.1.1, ⟨hk.1.1.2, hk.1.2⟩⟩)))⟩; have n2_ : Aside0 (Kd.V (Kd.int .i64) 3 w42 w.heap.size (fun k_ => (P0_ k_ ∨ w.heap.size ≤ k_) ∧ some k_ ≠ (.slice (some ad3341) x6_1.length co30 : Value).ownBlock ∧ k_ ≠ gb3334 ∧ k_ ≠ gb3342) (.slice A3341_1 ((rd_T42 x6_1 x51_3).f1).length c3341_1) ((rd_T42 x6_1 x51_3).f1)) := ⟨(by rw [hw]; exact (by (with_reducible repeat (first | apply Kd.V_alloc | apply Kd.V_drewN | apply Kd.V_drew)); exact Kd.V_mono (Kd.V_far (p := ⟨gb3342, 2, none⟩) (Kd.V_far (p := ⟨gb3342, 1, none⟩) (Kd.V_far (p := ⟨gb3342, 0, none⟩) (Kd.V_mono HL3341_1.out (fun k_ hk => (⟨hk, hk.2⟩ : _ ∧ k_ ≠ gb3342))) (fun _ hk => hk.2) (.string ((rd_T42 x6_1 x51_3).f0))) (fun _ hk => hk.2) (.slice A3341_1 ((rd_T42 x6_1 x51_3).f1).length c3341_1)) (fun _ hk => hk.2) (.string ((rd_T42 x6_1 x51_3).f2))) (fun _ hk => ⟨hk.1.1.1.1, ⟨hk.1.1.2, ⟨hk.1.1.1.2, hk.1.2⟩⟩⟩)))⟩; have n3_ : Aside0 (w42.heap[gb3334]? = some (.cells #[.int .i64 a1_0, .string a1_1, .slice A1_2 l1_2.length c1_2, .int .i64 a1_3, .slice A1_4 l1_4.length c1_4] 35 (0, 0))) := ⟨(by rw [hw]; exact (by (with_reducible repeat (first | refine zN ?_ _ | refine zD ?_ | refine zA ?_ _)); refine blk_far ?_ NB3334_3342.out _; (with_reducible repeat (first | refine zN ?_ _ | refine zD ?_ | refine zA ?_ _)); refine blk_far ?_ NB3334_3342.out _; (with_reducible repeat (first | refine zN ?_ _ | refine zD ?_ | refine zA ?_ _)); refine blk_far ?_ NB3334_3342.out _; (with_reducible repeat (first | refine zN ?_ _ | refine zD ?_ | refine zA ?_ _)); exact BK3334.out))⟩; have n4_ : Aside0 (w42.heap[gb3342]? = some (.cells #[.string ((rd_T42 x6_1 x51_3).f0), .slice A3341_1 ((rd_T42 x6_1 x51_3).f1).length c3341_1, .string ((rd_T42 x6_1 x51_3).f2)] 42 (0, 0))) := ⟨(by rw [hw]; exact (by (with_reducible repeat (first | refine zN ?_ _ | refine zD ?_ | refine zA ?_ _)); refine blk_put (cs := #[.string ((rd_T42 x6_1 x51_3).f0), .slice A3341_1 ((rd_T42 x6_1 x51_3).f1).length c3341_1, .string (⟨#[]⟩ : ByteArray)]) ?_ 2 _ rfl; (with_reducible repeat (first | refine zN ?_ _ | refine zD ?_ | refine zA ?_ _)); refine blk_put (cs := #[.string ((rd_T42 x6_1 x51_3).f0), .slice none 0 0, .string (⟨#[]⟩ : ByteArray)]) ?_ 1 _ rfl; (with_reducible repeat (first | refine zN ?_ _ | refine zD ?_ | refine zA ?_ _)); refine blk_put (cs := #[.string (⟨#[]⟩ : ByteArray), .slice none 0 0, .string (⟨#[]⟩ : ByteArray)]) ?_ 0 _ rfl; (with_reducible repeat (first | refine zN ?_ _ | refine zD ?_ | refine zA ?_ _)); exact BK3342.out))⟩; have n5_ : Aside0 (Below w.heap.size w w42) := ⟨(by rw [hw]; exact (by repeat (first | (with_reducible first | exact HB.out | apply zB | apply zC | apply zE | refine below_set ?_ GE3334.out | refine below_set ?_ GE3342.out) | exact HB.out)))⟩; clear hw HO_6 HO_49 HL3341_1 BK3334 BK3342 HB; have HO_6 := n0_; have HO_49 := n1_; have HL3341_1 := n2_; have BK3334 := n3_; have BK3342 := n4_; have HB := n5_; clear n0_ n1_ n2_ n3_ n4_ n5_; have hcz43_0 : w42.cell? ⟨gb3342, 0, none⟩ = some (.string ((rd_T42 x6_1 x51_3).f0)) := (blk_cell BK3342.out 0).trans rfl; have hcz43_1 : w42.cell? ⟨gb3342, 1, none⟩ = some (.slice A3341_1 ((rd_T42 x6_1 x51_3).f1).length c3341_1) := (blk_cell BK3342.out 1).trans rfl; have hcz43_2 : w42.cell? ⟨gb3342, 2, none⟩ = some (.string ((rd_T42 x6_1 x51_3).f2)) := (blk_cell BK3342.out 2).trans rfl; have hfz43_0 := blk_frozen BK3342.out 0; have hfz43_1 := blk_frozen BK3342.out 1; have hfz43_2 := blk_frozen BK3342.out 2; have p3343 : 0 ≤ (x9_2 : Int) := of_decide_eq_true (by first | (with_reducible assumption) | assumption); have q3343 : x9_2 < (x6_1.length : Int) := of_decide_eq_true (by first | (with_reducible assumption) | assumption); obtain ⟨ad3343, A3343_1, c3343_1, e3343, hx3343_0, hx3343_1, hx3343_2, hl3343_1, hi3343_1⟩ := at_T42 (Kd.N_reads' HO_6.out).2.2 x9_2 p3343 q3343; obtain rfl : ad3341 = ad3343 := (by injection e3343); obtain ⟨ce3343, hce3343, hMe3343, hcc3343⟩ := Kd.N_get HO_6.out z42 x9_2 p3343 (by first | exact q3343 | exact of_decide_eq_true (by first | (with_reducible assumption) | assumption) | (have e_ := (Kd.N_reads' HO_6.out).1; omega)); obtain ⟨ua3343_1, uc3343_1, rfl, ul3343_1, ge3343_1⟩ := k42_openF hMe3343; have hv3343_1 := hcc3343 1 _ rfl; rw [add_field _ _ 1 (by omega)] at hv3343_1; replace hv3343_1 := Option.some.inj (hv3343_1.symm.trans hx3343_1); injection hv3343_1 with hva_ hvn_ hvc_; rw [hva_] at ge3343_1; rw [hvc_] at ul3343_1; have HL3343_1 := Aq (show Kd.V (Kd.int .i64) 3 _ w.heap.size _ _ ((rd_T42 x6_1 x9_2).f1) from Kd.V_mk ul3343_1 ge3343_1); clear hva_ hvn_ hvc_ ge3343_1 ul3343_1 hcc3343 hce3343; have HR3343_1 := Aq hi3343_1; have HC3343_1 := Aq hl3343_1; clear hi3343_1 hl3343_1; replace p3343 := eq_true p3343; replace q3343 := eq_true q3343) | (go_at_call 49; (with_reducible refine (impl_expWithin.calls k3 _ _ ((rd_T42 x6_1 x51_3).f1) _ _ ((rd_T42 x6_1 x9_2).f1) t3344 _ ?side1 ?side2 ?side3 ?side4 A38.out).mono ?_); (case side1 => repeat (first | exact (by repeat (first | (with_reducible exact HR3341_1.out) | (with_reducible refine Kd.C_alloc ?_ _) | (with_reducible refine Kd.C_drewN ?_ _) | (with_reducible refine Kd.C_drew ?_) | exact HR3341_1.out | exact (Kd.V_reads' HL3341_1.out).2.2)) | (with_reducible refine Kd.C_alloc ?_ _) | (with_reducible refine Kd.C_drewN ?_ _) | (with_reducible refine Kd.C_drew ?_))); (case side2 => exact HC3341_1.out); (case side3 => repeat (first | exact (by repeat (first | (with_reducible exact HR3343_1.out) | (with_reducible refine Kd.C_alloc ?_ _) | (with_reducible refine Kd.C_drewN ?_ _) | (with_reducible refine Kd.C_drew ?_) | exact HR3343_1.out | exact (Kd.V_reads' HL3343_1.out).2.2)) | (with_reducible refine Kd.C_alloc ?_ _) | (with_reducible refine Kd.C_drewN ?_ _) | (with_reducible refine Kd.C_drew ?_))); (case side4 => exact HC3343_1.out); rintro e w' ⟨rfl, ⟨nd, rfl⟩⟩; (try first | exact ⟨rfl, _, World.drewN_drewN _ _ _⟩ | exact ⟨rfl, _, Eq.trans (World.drewN_drewN _ _ _) (congrArg (World.drewN _) (Nat.add_assoc _ _ _))⟩)))
                 repeat (go_quiet (first | ((with_reducible refine gate_dst (N := 12) rfl ?_); refine box_event ?hg (N := 12) ?hd (cs := #[.string (⟨#[]⟩ : ByteArray), .slice none 0 0, .string (⟨#[]⟩ : ByteArray)]) (t := 42) ?hr ?_; (case hd => rfl); (case hg => rfl); (case hr => first | (go_simp; done) | (go_simp; rfl)); intro gb3342 hg w39 hbox hb; have n0_ := Aq (Kd.N_below (Kd.N_elderB (by (with_reducible repeat (first | apply Kd.N_alloc | apply Kd.N_drewN | apply Kd.N_drew)); exact HO_6.out) gb3342 (Nat.le_of_eq hg.symm)) hb); have n1_ := Aq (Kd.N_below (Kd.N_elderB (by (with_reducible repeat (first | apply Kd.N_alloc | apply Kd.N_drewN | apply Kd.N_drew)); exact HO_49.out) gb3342 (Nat.le_of_eq hg.symm)) hb); have n2_ := Aq (Kd.V_below (Kd.V_elderB (by (with_reducible repeat (first | apply Kd.V_alloc | apply Kd.V_drewN | apply Kd.V_drew)); exact HL3341_1.out) gb3342 (Nat.le_of_eq hg.symm)) hb); have n3_ := Aq (blk_below (g := gb3334) (o := .cells #[.int .i64 a1_0, .string a1_1, .slice A1_2 l1_2.length c1_2, .int .i64 a1_3, .slice A1_4 l1_4.length c1_4] 35 (0, 0)) (by (with_reducible repeat (first | refine zN ?_ _ | refine zD ?_ | refine zA ?_ _)); exact BK3334.out) hb); have n4_ := Aq (Kd.C_below (by repeat (first | (with_reducible exact HR3341_1.out) | (with_reducible refine Kd.C_alloc ?_ _) | (with_reducible refine Kd.C_drewN ?_ _) | (with_reducible refine Kd.C_drew ?_) | exact HR3341_1.out | exact (Kd.V_reads' HL3341_1.out).2.2)) hb); have n5_ := Aq (below_step (by repeat (first | (with_reducible first | exact HB.out | apply zB | apply zC | apply zE | refine below_set ?_ GE3334.out) | exact HB.out)) hb); have n6_ := Aq (hbox); have n7_ := Aq ((by rw [hg]; exact (below_size (by repeat (first | (with_reducible first | exact HB.out | apply zB | apply zC | apply zE | refine below_set ?_ GE3334.out) | exact HB.out))) : w.heap.size ≤ gb3342)); have n8_ := Aq ((by rw [hg]; exact (below_size (by repeat (first | (with_reducible first | exact HB.out | apply zB | apply zC | apply zE | refine below_set ?_ GE3334.out) | exact HB.out))) : w.heap.size ≤ gb3342)); have n9_ := Aq ((by rw [hg]; exact Nat.ne_of_lt (blk_lt (g := gb3334) (o := .cells #[.int .i64 a1_0, .string a1_1, .slice A1_2 l1_2.length c1_2, .int .i64 a1_3, .slice A1_4 l1_4.length c1_4] 35 (0, 0)) (by (with_reducible repeat (first | refine zN ?_ _ | refine zD ?_ | refine zA ?_ _)); exact BK3334.out)) : gb3334 ≠ gb3342)); have n10_ := Aq ((by rw [hg]; exact Nat.ne_of_gt (blk_lt (g := gb3334) (o := .cells #[.int .i64 a1_0, .string a1_1, .slice A1_2 l1_2.length c1_2, .int .i64 a1_3, .slice A1_4 l1_4.length c1_4] 35 (0, 0)) (by (with_reducible repeat (first | refine zN ?_ _ | refine zD ?_ | refine zA ?_ _)); exact BK3334.out)) : gb3342 ≠ gb3334)); clear HO_6 HO_49 HL3341_1 BK3334 HR3341_1 HB; have HO_6 := n0_; have HO_49 := n1_; have HL3341_1 := n2_; have BK3334 := n3_; have HR3341_1 := n4_; have HB := n5_; have BK3342 := n6_; have GW3342 := n7_; have GE3342 := n8_; have NB3334_3342 := n9_; have NB3342_3334 := n10_; clear n0_ n1_ n2_ n3_ n4_ n5_ n6_ n7_ n8_ n9_ n10_ hb hbox hg; have hnb40 := NB3342_3334.out; have hnc40 := NB3334_3342.out; have hcz41_0 : w39.cell? ⟨gb3342, 0, none⟩ = some (.string (⟨#[]⟩ : ByteArray)) := (blk_cell BK3342.out 0).trans rfl; have hcz41_1 : w39.cell? ⟨gb3342, 1, none⟩ = some (.slice none 0 0) := (blk_cell BK3342.out 1).trans rfl; have hcz41_2 : w39.cell? ⟨gb3342, 2, none⟩ = some (.string (⟨#[]⟩ : ByteArray)) := (blk_cell BK3342.out 2).trans rfl; have hfz41_0 := blk_frozen BK3342.out 0; have hfz41_1 := blk_frozen BK3342.out 1; have hfz41_2 := blk_frozen BK3342.out 2) | ((with_reducible refine gate_store (t := 42) (p := 12) rfl ?_); (try (rw [drewN_self w39]; generalize hq_ : World.drewN w39 _ = w39; have n0_ := Aq (Kd.N_at hq_ HO_6.out); have n1_ := Aq (Kd.N_at hq_ HO_49.out); have n2_ := Aq (Kd.V_at hq_ HL3341_1.out); have n3_ := Aq (blk_at hq_ BK3334.out); have n4_ := Aq (blk_at hq_ BK3342.out); have n5_ := Aq (Kd.C_at hq_ HR3341_1.out); have n6_ := Aq (below_at hq_ HB.out); clear hq_ HO_6 HO_49 HL3341_1 BK3334 BK3342 HR3341_1 HB; have HO_6 := n0_; have HO_49 := n1_; have HL3341_1 := n2_; have BK3334 := n3_; have BK3342 := n4_; have HR3341_1 := n5_; have HB := n6_; clear n0_ n1_ n2_ n3_ n4_ n5_ n6_)); refine store_event (t := 42) (p := 12) (v := ?vo_w42) (w1 := (((w39.setCell ⟨gb3342, 0, none⟩ (.string ((rd_T42 x6_1 x51_3).f0))).setCell ⟨gb3342, 1, none⟩ (.slice A3341_1 ((rd_T42 x6_1 x51_3).f1).length c3341_1)).setCell ⟨gb3342, 2, none⟩ (.string ((rd_T42 x6_1 x51_3).f2)))) ?hg ?ho ?hn ?hr ?_; (case ho => rfl); (case hg => rfl); (case hn => rfl); (case hr => first | (go_simp; done) | (go_simp; rfl)); intro w42 hw; have n0_ : Aside0 (Kd.N k42 42 w42 w.heap.size (fun k_ => (P0_ k_ ∨ w.heap.size ≤ k_) ∧ k_ ≠ gb3334 ∧ k_ ≠ gb3342) (.slice (some ad3341) x6_1.length co30) x6_1) := ⟨(by rw [hw]; exact (by (with_reducible repeat (first | apply Kd.N_alloc | apply Kd.N_drewN | apply Kd.N_drew)); exact Kd.N_mono (Kd.N_far (p := ⟨gb3342, 2, none⟩) (Kd.N_far (p := ⟨gb3342, 1, none⟩) (Kd.N_far (p := ⟨gb3342, 0, none⟩) (Kd.N_mono HO_6.out (fun k_ hk => (⟨hk, hk.2⟩ : _ ∧ k_ ≠ gb3342))) (fun _ hk => hk.2) (.string ((rd_T42 x6_1 x51_3).f0))) (fun _ hk => hk.2) (.slice A3341_1 ((rd_T42 x6_1 x51_3).f1).length c3341_1)) (fun _ hk => hk.2) (.string ((rd_T42 x6_1 x51_3).f2))) (fun _ hk => ⟨hk.1.1.1, ⟨hk.1.1.2, hk.1.2⟩⟩)))⟩; have n1_ : Aside0 (Kd.N k42 42 w42 w.heap.size (fun k_ => (P0_ k_ ∨ w.heap.size ≤ k_) ∧ k_ ≠ gb3334 ∧ k_ ≠ gb3342) (.slice (some ad3341) x6_1.length co30) x6_1) := ⟨(by rw [hw]; exact (by (with_reducible repeat (first | apply Kd.N_alloc | apply Kd.N_drewN | apply Kd.N_drew)); exact Kd.N_mono (Kd.N_far (p := ⟨gb3342, 2, none⟩) (Kd.N_far (p := ⟨gb3342, 1, none⟩) (Kd.N_far (p := ⟨gb3342, 0, none⟩) (Kd.N_mono HO_49.out (fun k_ hk => (⟨hk, hk.2⟩ : _ ∧ k_ ≠ gb3342))) (fun _ hk => hk.2) (.string ((rd_T42 x6_1 x51_3).f0))) (fun _ hk => hk.2) (.slice A3341_1 ((rd_T42 x6_1 x51_3).f1).length c3341_1)) (fun _ hk => hk.2) (.string ((rd_T42 x6_1 x51_3).f2))) (fun _ hk => ⟨hk.1.1.1, ⟨hk.1.1.2, hk.1.2⟩⟩)))⟩; have n2_ : Aside0 (Kd.V (Kd.int .i64) 3 w42 w.heap.size (fun k_ => (P0_ k_ ∨ w.heap.size ≤ k_) ∧ some k_ ≠ (.slice (some ad3341) x6_1.length co30 : Value).ownBlock ∧ k_ ≠ gb3334 ∧ k_ ≠ gb3342) (.slice A3341_1 ((rd_T42 x6_1 x51_3).f1).length c3341_1) ((rd_T42 x6_1 x51_3).f1)) := ⟨(by rw [hw]; exact (by (with_reducible repeat (first | apply Kd.V_alloc | apply Kd.V_drewN | apply Kd.V_drew)); exact Kd.V_mono (Kd.V_far (p := ⟨gb3342, 2, none⟩) (Kd.V_far (p := ⟨gb3342, 1, none⟩) (Kd.V_far (p := ⟨gb3342, 0, none⟩) (Kd.V_mono HL3341_1.out (fun k_ hk => (⟨hk, hk.2⟩ : _ ∧ k_ ≠ gb3342))) (fun _ hk => hk.2) (.string ((rd_T42 x6_1 x51_3).f0))) (fun _ hk => hk.2) (.slice A3341_1 ((rd_T42 x6_1 x51_3).f1).length c3341_1)) (fun _ hk => hk.2) (.string ((rd_T42 x6_1 x51_3).f2))) (fun _ hk => ⟨hk.1.1.1.1, ⟨hk.1.1.2, ⟨hk.1.1.1.2, hk.1.2⟩⟩⟩)))⟩; have n3_ : Aside0 (w42.heap[gb3334]? = some (.cells #[.int .i64 a1_0, .string a1_1, .slice A1_2 l1_2.length c1_2, .int .i64 a1_3, .slice A1_4 l1_4.length c1_4] 35 (0, 0))) := ⟨(by rw [hw]; exact (by (with_reducible repeat (first | refine zN ?_ _ | refine zD ?_ | refine zA ?_ _)); refine blk_far ?_ NB3334_3342.out _; (with_reducible repeat (first | refine zN ?_ _ | refine zD ?_ | refine zA ?_ _)); refine blk_far ?_ NB3334_3342.out _; (with_reducible repeat (first | refine zN ?_ _ | refine zD ?_ | refine zA ?_ _)); refine blk_far ?_ NB3334_3342.out _; (with_reducible repeat (first | refine zN ?_ _ | refine zD ?_ | refine zA ?_ _)); exact BK3334.out))⟩; have n4_ : Aside0 (w42.heap[gb3342]? = some (.cells #[.string ((rd_T42 x6_1 x51_3).f0), .slice A3341_1 ((rd_T42 x6_1 x51_3).f1).length c3341_1, .string ((rd_T42 x6_1 x51_3).f2)] 42 (0, 0))) := ⟨(by rw [hw]; exact (by (with_reducible repeat (first | refine zN ?_ _ | refine zD ?_ | refine zA ?_ _)); refine blk_put (cs := #[.string ((rd_T42 x6_1 x51_3).f0), .slice A3341_1 ((rd_T42 x6_1 x51_3).f1).length c3341_1, .string (⟨#[]⟩ : ByteArray)]) ?_ 2 _ rfl; (with_reducible repeat (first | refine zN ?_ _ | refine zD ?_ | refine zA ?_ _)); refine blk_put (cs := #[.string ((rd_T42 x6_1 x51_3).f0), .slice none 0 0, .string (⟨#[]⟩ : ByteArray)]) ?_ 1 _ rfl; (with_reducible repeat (first | refine zN ?_ _ | refine zD ?_ | refine zA ?_ _)); refine blk_put (cs := #[.string (⟨#[]⟩ : ByteArray), .slice none 0 0, .string (⟨#[]⟩ : ByteArray)]) ?_ 0 _ rfl; (with_reducible repeat (first | refine zN ?_ _ | refine zD ?_ | refine zA ?_ _)); exact BK3342.out))⟩; have n5_ : Aside0 (Below w.heap.size w w42) := ⟨(by rw [hw]; exact (by repeat (first | (with_reducible first | exact HB.out | apply zB | apply zC | apply zE | refine below_set ?_ GE3334.out | refine below_set ?_ GE3342.out) | exact HB.out)))⟩; clear hw HO_6 HO_49 HL3341_1 BK3334 BK3342 HB; have HO_6 := n0_; have HO_49 := n1_; have HL3341_1 := n2_; have BK3334 := n3_; have BK3342 := n4_; have HB := n5_; clear n0_ n1_ n2_ n3_ n4_ n5_; have hcz43_0 : w42.cell? ⟨gb3342, 0, none⟩ = some (.string ((rd_T42 x6_1 x51_3).f0)) := (blk_cell BK3342.out 0).trans rfl; have hcz43_1 : w42.cell? ⟨gb3342, 1, none⟩ = some (.slice A3341_1 ((rd_T42 x6_1 x51_3).f1).length c3341_1) := (blk_cell BK3342.out 1).trans rfl; have hcz43_2 : w42.cell? ⟨gb3342, 2, none⟩ = some (.string ((rd_T42 x6_1 x51_3).f2)) := (blk_cell BK3342.out 2).trans rfl; have hfz43_0 := blk_frozen BK3342.out 0; have hfz43_1 := blk_frozen BK3342.out 1; have hfz43_2 := blk_frozen BK3342.out 2; have p3343 : 0 ≤ (x9_2 : Int) := of_decide_eq_true (by first | (with_reducible assumption) | assumption); have q3343 : x9_2 < (x6_1.length : Int) := of_decide_eq_true (by first | (with_reducible assumption) | assumption); obtain ⟨ad3343, A3343_1, c3343_1, e3343, hx3343_0, hx3343_1, hx3343_2, hl3343_1, hi3343_1⟩ := at_T42 (Kd.N_reads' HO_6.out).2.2 x9_2 p3343 q3343; obtain rfl : ad3341 = ad3343 := (by injection e3343); obtain ⟨ce3343, hce3343, hMe3343, hcc3343⟩ := Kd.N_get HO_6.out z42 x9_2 p3343 (by first | exact q3343 | exact of_decide_eq_true (by first | (with_reducible assumption) | assumption) | (have e_ := (Kd.N_reads' HO_6.out).1; omega)); obtain ⟨ua3343_1, uc3343_1, rfl, ul3343_1, ge3343_1⟩ := k42_openF hMe3343; have hv3343_1 := hcc3343 1 _ rfl; rw [add_field _ _ 1 (by omega)] at hv3343_1; replace hv3343_1 := Option.some.inj (hv3343_1.symm.trans hx3343_1); injection hv3343_1 with hva_ hvn_ hvc_; rw [hva_] at ge3343_1; rw [hvc_] at ul3343_1; have HL3343_1 := Aq (show Kd.V (Kd.int .i64) 3 _ w.heap.size _ _ ((rd_T42 x6_1 x9_2).f1) from Kd.V_mk ul3343_1 ge3343_1); clear hva_ hvn_ hvc_ ge3343_1 ul3343_1 hcc3343 hce3343; have HR3343_1 := Aq hi3343_1; have HC3343_1 := Aq hl3343_1; clear hi3343_1 hl3343_1; replace p3343 := eq_true p3343; replace q3343 := eq_true q3343) | (go_at_call 49; (with_reducible refine (impl_expWithin.calls k3 _ _ ((rd_T42 x6_1 x51_3).f1) _ _ ((rd_T42 x6_1 x9_2).f1) t3344 _ ?side1 ?side2 ?side3 ?side4 A38.out).mono ?_); (case side1 => repeat (first | exact (by repeat (first | (with_reducible exact HR3341_1.out) | (with_reducible refine Kd.C_alloc ?_ _) | (with_reducible refine Kd.C_drewN ?_ _) | (with_reducible refine Kd.C_drew ?_) | exact HR3341_1.out | exact (Kd.V_reads' HL3341_1.out).2.2)) | (with_reducible refine Kd.C_alloc ?_ _) | (with_reducible refine Kd.C_drewN ?_ _) | (with_reducible refine Kd.C_drew ?_))); (case side2 => exact HC3341_1.out); (case side3 => repeat (first | exact (by repeat (first | (with_reducible exact HR3343_1.out) | (with_reducible refine Kd.C_alloc ?_ _) | (with_reducible refine Kd.C_drewN ?_ _) | (with_reducible refine Kd.C_drew ?_) | exact HR3343_1.out | exact (Kd.V_reads' HL3343_1.out).2.2)) | (with_reducible refine Kd.C_alloc ?_ _) | (with_reducible refine Kd.C_drewN ?_ _) | (with_reducible refine Kd.C_drew ?_))); (case side4 => exact HC3343_1.out); rintro e w' ⟨rfl, ⟨nd, rfl⟩⟩; (try first | exact ⟨rfl, _, World.drewN_drewN _ _ _⟩ | exact ⟨rfl, _, Eq.trans (World.drewN_drewN _ _ _) (congrArg (World.drewN _) (Nat.add_assoc _ _ _))⟩))); try go_wp2_with (first | ((with_reducible refine gate_dst (N := 12) rfl ?_); refine box_event ?hg (N := 12) ?hd (cs := #[.string (⟨#[]⟩ : ByteArray), .slice none 0 0, .string (⟨#[]⟩ : ByteArray)]) (t := 42) ?hr ?_; (case hd => rfl); (case hg => rfl); (case hr => first | (go_simp; done) | (go_simp; rfl)); intro gb3342 hg w39 hbox hb; have n0_ := Aq (Kd.N_below (Kd.N_elderB (by (with_reducible repeat (first | apply Kd.N_alloc | apply Kd.N_drewN | apply Kd.N_drew)); exact HO_6.out) gb3342 (Nat.le_of_eq hg.symm)) hb); have n1_ := Aq (Kd.N_below (Kd.N_elderB (by (with_reducible repeat (first | apply Kd.N_alloc | apply Kd.N_drewN | apply Kd.N_drew)); exact HO_49.out) gb3342 (Nat.le_of_eq hg.symm)) hb); have n2_ := Aq (Kd.V_below (Kd.V_elderB (by (with_reducible repeat (first | apply Kd.V_alloc | apply Kd.V_drewN | apply Kd.V_drew)); exact HL3341_1.out) gb3342 (Nat.le_of_eq hg.symm)) hb); have n3_ := Aq (blk_below (g := gb3334) (o := .cells #[.int .i64 a1_0, .string a1_1, .slice A1_2 l1_2.length c1_2, .int .i64 a1_3, .slice A1_4 l1_4.length c1_4] 35 (0, 0)) (by (with_reducible repeat (first | refine zN ?_ _ | refine zD ?_ | refine zA ?_ _)); exact BK3334.out) hb); have n4_ := Aq (Kd.C_below (by repeat (first | (with_reducible exact HR3341_1.out) | (with_reducible refine Kd.C_alloc ?_ _) | (with_reducible refine Kd.C_drewN ?_ _) | (with_reducible refine Kd.C_drew ?_) | exact HR3341_1.out | exact (Kd.V_reads' HL3341_1.out).2.2)) hb); have n5_ := Aq (below_step (by repeat (first | (with_reducible first | exact HB.out | apply zB | apply zC | apply zE | refine below_set ?_ GE3334.out) | exact HB.out)) hb); have n6_ := Aq (hbox); have n7_ := Aq ((by rw [hg]; exact (below_size (by repeat (first | (with_reducible first | exact HB.out | apply zB | apply zC | apply zE | refine below_set ?_ GE3334.out) | exact HB.out))) : w.heap.size ≤ gb3342)); have n8_ := Aq ((by rw [hg]; exact (below_size (by repeat (first | (with_reducible first | exact HB.out | apply zB | apply zC | apply zE | refine below_set ?_ GE3334.out) | exact HB.out))) : w.heap.size ≤ gb3342)); have n9_ := Aq ((by rw [hg]; exact Nat.ne_of_lt (blk_lt (g := gb3334) (o := .cells #[.int .i64 a1_0, .string a1_1, .slice A1_2 l1_2.length c1_2, .int .i64 a1_3, .slice A1_4 l1_4.length c1_4] 35 (0, 0)) (by (with_reducible repeat (first | refine zN ?_ _ | refine zD ?_ | refine zA ?_ _)); exact BK3334.out)) : gb3334 ≠ gb3342)); have n10_ := Aq ((by rw [hg]; exact Nat.ne_of_gt (blk_lt (g := gb3334) (o := .cells #[.int .i64 a1_0, .string a1_1, .slice A1_2 l1_2.length c1_2, .int .i64 a1_3, .slice A1_4 l1_4.length c1_4] 35 (0, 0)) (by (with_reducible repeat (first | refine zN ?_ _ | refine zD ?_ | refine zA ?_ _)); exact BK3334.out)) : gb3342 ≠ gb3334)); clear HO_6 HO_49 HL3341_1 BK3334 HR3341_1 HB; have HO_6 := n0_; have HO_49 := n1_; have HL3341_1 := n2_; have BK3334 := n3_; have HR3341_1 := n4_; have HB := n5_; have BK3342 := n6_; have GW3342 := n7_; have GE3342 := n8_; have NB3334_3342 := n9_; have NB3342_3334 := n10_; clear n0_ n1_ n2_ n3_ n4_ n5_ n6_ n7_ n8_ n9_ n10_ hb hbox hg; have hnb40 := NB3342_3334.out; have hnc40 := NB3334_3342.out; have hcz41_0 : w39.cell? ⟨gb3342, 0, none⟩ = some (.string (⟨#[]⟩ : ByteArray)) := (blk_cell BK3342.out 0).trans rfl; have hcz41_1 : w39.cell? ⟨gb3342, 1, none⟩ = some (.slice none 0 0) := (blk_cell BK3342.out 1).trans rfl; have hcz41_2 : w39.cell? ⟨gb3342, 2, none⟩ = some (.string (⟨#[]⟩ : ByteArray)) := (blk_cell BK3342.out 2).trans rfl; have hfz41_0 := blk_frozen BK3342.out 0; have hfz41_1 := blk_frozen BK3342.out 1; have hfz41_2 := blk_frozen BK3342.out 2) | ((with_reducible refine gate_store (t := 42) (p := 12) rfl ?_); (try (rw [drewN_self w39]; generalize hq_ : World.drewN w39 _ = w39; have n0_ := Aq (Kd.N_at hq_ HO_6.out); have n1_ := Aq (Kd.N_at hq_ HO_49.out); have n2_ := Aq (Kd.V_at hq_ HL3341_1.out); have n3_ := Aq (blk_at hq_ BK3334.out); have n4_ := Aq (blk_at hq_ BK3342.out); have n5_ := Aq (Kd.C_at hq_ HR3341_1.out); have n6_ := Aq (below_at hq_ HB.out); clear hq_ HO_6 HO_49 HL3341_1 BK3334 BK3342 HR3341_1 HB; have HO_6 := n0_; have HO_49 := n1_; have HL3341_1 := n2_; have BK3334 := n3_; have BK3342 := n4_; have HR3341_1 := n5_; have HB := n6_; clear n0_ n1_ n2_ n3_ n4_ n5_ n6_)); refine store_event (t := 42) (p := 12) (v := ?vo_w42) (w1 := (((w39.setCell ⟨gb3342, 0, none⟩ (.string ((rd_T42 x6_1 x51_3).f0))).setCell ⟨gb3342, 1, none⟩ (.slice A3341_1 ((rd_T42 x6_1 x51_3).f1).length c3341_1)).setCell ⟨gb3342, 2, none⟩ (.string ((rd_T42 x6_1 x51_3).f2)))) ?hg ?ho ?hn ?hr ?_; (case ho => rfl); (case hg => rfl); (case hn => rfl); (case hr => first | (go_simp; done) | (go_simp; rfl)); intro w42 hw; have n0_ : Aside0 (Kd.N k42 42 w42 w.heap.size (fun k_ => (P0_ k_ ∨ w.heap.size ≤ k_) ∧ k_ ≠ gb3334 ∧ k_ ≠ gb3342) (.slice (some ad3341) x6_1.length co30) x6_1) := ⟨(by rw [hw]; exact (by (with_reducible repeat (first | apply Kd.N_alloc | apply Kd.N_drewN | apply Kd.N_drew)); exact Kd.N_mono (Kd.N_far (p := ⟨gb3342, 2, none⟩) (Kd.N_far (p := ⟨gb3342, 1, none⟩) (Kd.N_far (p := ⟨gb3342, 0, none⟩) (Kd.N_mono HO_6.out (fun k_ hk => (⟨hk, hk.2⟩ : _ ∧ k_ ≠ gb3342))) (fun _ hk => hk.2) (.string ((rd_T42 x6_1 x51_3).f0))) (fun _ hk => hk.2) (.slice A3341_1 ((rd_T42 x6_1 x51_3).f1).length c3341_1)) (fun _ hk => hk.2) (.string ((rd_T42 x6_1 x51_3).f2))) (fun _ hk => ⟨hk.1.1.1, ⟨hk.1.1.2, hk.1.2⟩⟩)))⟩; have n1_ : Aside0 (Kd.N k42 42 w42 w.heap.size (fun k_ => (P0_ k_ ∨ w.heap.size ≤ k_) ∧ k_ ≠ gb3334 ∧ k_ ≠ gb3342) (.slice (some ad3341) x6_1.length co30) x6_1) := ⟨(by rw [hw]; exact (by (with_reducible repeat (first | apply Kd.N_alloc | apply Kd.N_drewN | apply Kd.N_drew)); exact Kd.N_mono (Kd.N_far (p := ⟨gb3342, 2, none⟩) (Kd.N_far (p := ⟨gb3342, 1, none⟩) (Kd.N_far (p := ⟨gb3342, 0, none⟩) (Kd.N_mono HO_49.out (fun k_ hk => (⟨hk, hk.2⟩ : _ ∧ k_ ≠ gb3342))) (fun _ hk => hk.2) (.string ((rd_T42 x6_1 x51_3).f0))) (fun _ hk => hk.2) (.slice A3341_1 ((rd_T42 x6_1 x51_3).f1).length c3341_1)) (fun _ hk => hk.2) (.string ((rd_T42 x6_1 x51_3).f2))) (fun _ hk => ⟨hk.1.1.1, ⟨hk.1.1.2, hk.1.2⟩⟩)))⟩; have n2_ : Aside0 (Kd.V (Kd.int .i64) 3 w42 w.heap.size (fun k_ => (P0_ k_ ∨ w.heap.size ≤ k_) ∧ some k_ ≠ (.slice (some ad3341) x6_1.length co30 : Value).ownBlock ∧ k_ ≠ gb3334 ∧ k_ ≠ gb3342) (.slice A3341_1 ((rd_T42 x6_1 x51_3).f1).length c3341_1) ((rd_T42 x6_1 x51_3).f1)) := ⟨(by rw [hw]; exact (by (with_reducible repeat (first | apply Kd.V_alloc | apply Kd.V_drewN | apply Kd.V_drew)); exact Kd.V_mono (Kd.V_far (p := ⟨gb3342, 2, none⟩) (Kd.V_far (p := ⟨gb3342, 1, none⟩) (Kd.V_far (p := ⟨gb3342, 0, none⟩) (Kd.V_mono HL3341_1.out (fun k_ hk => (⟨hk, hk.2⟩ : _ ∧ k_ ≠ gb3342))) (fun _ hk => hk.2) (.string ((rd_T42 x6_1 x51_3).f0))) (fun _ hk => hk.2) (.slice A3341_1 ((rd_T42 x6_1 x51_3).f1).length c3341_1)) (fun _ hk => hk.2) (.string ((rd_T42 x6_1 x51_3).f2))) (fun _ hk => ⟨hk.1.1.1.1, ⟨hk.1.1.2, ⟨hk.1.1.1.2, hk.1.2⟩⟩⟩)))⟩; have n3_ : Aside0 (w42.heap[gb3334]? = some (.cells #[.int .i64 a1_0, .string a1_1, .slice A1_2 l1_2.length c1_2, .int .i64 a1_3, .slice A1_4 l1_4.length c1_4] 35 (0, 0))) := ⟨(by rw [hw]; exact (by (with_reducible repeat (first | refine zN ?_ _ | refine zD ?_ | refine zA ?_ _)); refine blk_far ?_ NB3334_3342.out _; (with_reducible repeat (first | refine zN ?_ _ | refine zD ?_ | refine zA ?_ _)); refine blk_far ?_ NB3334_3342.out _; (with_reducible repeat (first | refine zN ?_ _ | refine zD ?_ | refine zA ?_ _)); refine blk_far ?_ NB3334_3342.out _; (with_reducible repeat (first | refine zN ?_ _ | refine zD ?_ | refine zA ?_ _)); exact BK3334.out))⟩; have n4_ : Aside0 (w42.heap[gb3342]? = some (.cells #[.string ((rd_T42 x6_1 x51_3).f0), .slice A3341_1 ((rd_T42 x6_1 x51_3).f1).length c3341_1, .string ((rd_T42 x6_1 x51_3).f2)] 42 (0, 0))) := ⟨(by rw [hw]; exact (by (with_reducible repeat (first | refine zN ?_ _ | refine zD ?_ | refine zA ?_ _)); refine blk_put (cs := #[.string ((rd_T42 x6_1 x51_3).f0), .slice A3341_1 ((rd_T42 x6_1 x51_3).f1).length c3341_1, .string (⟨#[]⟩ : ByteArray)]) ?_ 2 _ rfl; (with_reducible repeat (first | refine zN ?_ _ | refine zD ?_ | refine zA ?_ _)); refine blk_put (cs := #[.string ((rd_T42 x6_1 x51_3).f0), .slice none 0 0, .string (⟨#[]⟩ : ByteArray)]) ?_ 1 _ rfl; (with_reducible repeat (first | refine zN ?_ _ | refine zD ?_ | refine zA ?_ _)); refine blk_put (cs := #[.string (⟨#[]⟩ : ByteArray), .slice none 0 0, .string (⟨#[]⟩ : ByteArray)]) ?_ 0 _ rfl; (with_reducible repeat (first | refine zN ?_ _ | refine zD ?_ | refine zA ?_ _)); exact BK3342.out))⟩; have n5_ : Aside0 (Below w.heap.size w w42) := ⟨(by rw [hw]; exact (by repeat (first | (with_reducible first | exact HB.out | apply zB | apply zC | apply zE | refine below_set ?_ GE3334.out | refine below_set ?_ GE3342.out) | exact HB.out)))⟩; clear hw HO_6 HO_49 HL3341_1 BK3334 BK3342 HB; have HO_6 := n0_; have HO_49 := n1_; have HL3341_1 := n2_; have BK3334 := n3_; have BK3342 := n4_; have HB := n5_; clear n0_ n1_ n2_ n3_ n4_ n5_; have hcz43_0 : w42.cell? ⟨gb3342, 0, none⟩ = some (.string ((rd_T42 x6_1 x51_3).f0)) := (blk_cell BK3342.out 0).trans rfl; have hcz43_1 : w42.cell? ⟨gb3342, 1, none⟩ = some (.slice A3341_1 ((rd_T42 x6_1 x51_3).f1).length c3341_1) := (blk_cell BK3342.out 1).trans rfl; have hcz43_2 : w42.cell? ⟨gb3342, 2, none⟩ = some (.string ((rd_T42 x6_1 x51_3).f2)) := (blk_cell BK3342.out 2).trans rfl; have hfz43_0 := blk_frozen BK3342.out 0; have hfz43_1 := blk_frozen BK3342.out 1; have hfz43_2 := blk_frozen BK3342.out 2; have p3343 : 0 ≤ (x9_2 : Int) := of_decide_eq_true (by first | (with_reducible assumption) | assumption); have q3343 : x9_2 < (x6_1.length : Int) := of_decide_eq_true (by first | (with_reducible assumption) | assumption); obtain ⟨ad3343, A3343_1, c3343_1, e3343, hx3343_0, hx3343_1, hx3343_2, hl3343_1, hi3343_1⟩ := at_T42 (Kd.N_reads' HO_6.out).2.2 x9_2 p3343 q3343; obtain rfl : ad3341 = ad3343 := (by injection e3343); obtain ⟨ce3343, hce3343, hMe3343, hcc3343⟩ := Kd.N_get HO_6.out z42 x9_2 p3343 (by first | exact q3343 | exact of_decide_eq_true (by first | (with_reducible assumption) | assumption) | (have e_ := (Kd.N_reads' HO_6.out).1; omega)); obtain ⟨ua3343_1, uc3343_1, rfl, ul3343_1, ge3343_1⟩ := k42_openF hMe3343; have hv3343_1 := hcc3343 1 _ rfl; rw [add_field _ _ 1 (by omega)] at hv3343_1; replace hv3343_1 := Option.some.inj (hv3343_1.symm.trans hx3343_1); injection hv3343_1 with hva_ hvn_ hvc_; rw [hva_] at ge3343_1; rw [hvc_] at ul3343_1; have HL3343_1 := Aq (show Kd.V (Kd.int .i64) 3 _ w.heap.size _ _ ((rd_T42 x6_1 x9_2).f1) from Kd.V_mk ul3343_1 ge3343_1); clear hva_ hvn_ hvc_ ge3343_1 ul3343_1 hcc3343 hce3343; have HR3343_1 := Aq hi3343_1; have HC3343_1 := Aq hl3343_1; clear hi3343_1 hl3343_1; replace p3343 := eq_true p3343; replace q3343 := eq_true q3343) | (go_at_call 49; (with_reducible refine (impl_expWithin.calls k3 _ _ ((rd_T42 x6_1 x51_3).f1) _ _ ((rd_T42 x6_1 x9_2).f1) t3344 _ ?side1 ?side2 ?side3 ?side4 A38.out).mono ?_); (case side1 => repeat (first | exact (by repeat (first | (with_reducible exact HR3341_1.out) | (with_reducible refine Kd.C_alloc ?_ _) | (with_reducible refine Kd.C_drewN ?_ _) | (with_reducible refine Kd.C_drew ?_) | exact HR3341_1.out | exact (Kd.V_reads' HL3341_1.out).2.2)) | (with_reducible refine Kd.C_alloc ?_ _) | (with_reducible refine Kd.C_drewN ?_ _) | (with_reducible refine Kd.C_drew ?_))); (case side2 => exact HC3341_1.out); (case side3 => repeat (first | exact (by repeat (first | (with_reducible exact HR3343_1.out) | (with_reducible refine Kd.C_alloc ?_ _) | (with_reducible refine Kd.C_drewN ?_ _) | (with_reducible refine Kd.C_drew ?_) | exact HR3343_1.out | exact (Kd.V_reads' HL3343_1.out).2.2)) | (with_reducible refine Kd.C_alloc ?_ _) | (with_reducible refine Kd.C_drewN ?_ _) | (with_reducible refine Kd.C_drew ?_))); (case side4 => exact HC3343_1.out); rintro e w' ⟨rfl, ⟨nd, rfl⟩⟩; (try first | exact ⟨rfl, _, World.drewN_drewN _ _ _⟩ | exact ⟨rfl, _, Eq.trans (World.drewN_drewN _ _ _) (congrArg (World.drewN _) (Nat.add_assoc _ _ _))⟩))))
                 go_roundg k3
                 case measure => have := HK1.out; have := HK2.out; have := HK3.out; omega
                 case rel => exact ⟨(t3344), (wrap64 (x51_3 + 1)), (by first | rfl | (simp; done) | (simp [*]; done)), (by first | rfl | (simp; done) | (simp [*]; done)), H', ⟨by have := HK1.out; have := HK2.out; have := HK3.out; omega⟩, ⟨by (with_reducible repeat (first | apply Kd.N_alloc | apply Kd.N_drewN | apply Kd.N_drew)); exact Kd.N_mono HO_6.out (fun _ hk => ⟨hk.1, hk.2.1⟩)⟩, ⟨by (with_reducible repeat (first | apply Kd.N_alloc | apply Kd.N_drewN | apply Kd.N_drew)); exact Kd.N_mono HO_49.out (fun _ hk => ⟨hk.1, hk.2.1⟩)⟩, ⟨by (with_reducible repeat (first | refine zN ?_ _ | refine zD ?_ | refine zA ?_ _)); exact BK3334.out⟩, ⟨by repeat (first | (with_reducible first | exact HB.out | apply zB | apply zC | apply zE | refine below_set ?_ GE3334.out | refine below_set ?_ GE3342.out) | exact HB.out)⟩⟩
                ·rw [if_neg c37] at H
                 exact absurd H (by simp)
               ·rw [if_neg c36] at H
                exact absurd H (by simp)
              ·replace c35 := Bool.eq_false_iff.mpr c35
               subst c35
               have H1 : (impl_ExpFind.l2 k3 x6_1 x9_2 false x6_1 (x6_1.length : Int) (wrap64 (x51_3 + 1))) = some (r1, r2) := by rw [if_neg (show ¬ (false = true) by decide)] at H; exact H
               clear H
               have H := H1
               clear H1
               have H' := Aq H
               clear H
               have p3341 : 0 ≤ (x51_3 : Int) := of_decide_eq_true (by first | (with_reducible assumption) | assumption)
               have q3341 : x51_3 < (x6_1.length : Int) := of_decide_eq_true (by first | (with_reducible assumption) | assumption)
               obtain ⟨ad3341, A3341_1, c3341_1, e3341, hx3341_0, hx3341_1, hx3341_2, hl3341_1, hi3341_1⟩ := at_T42 (Kd.N_reads' HO_49.out).2.2 x51_3 p3341 q3341
               cases e3341
               obtain ⟨ce3341, hce3341, hMe3341, hcc3341⟩ := Kd.N_get HO_49.out z42 x51_3 p3341 (by first | exact q3341 | exact of_decide_eq_true (by first | (with_reducible assumption) | assumption) | (have e_ := (Kd.N_reads' HO_49.out).1; omega))
               obtain ⟨ua3341_1, uc3341_1, rfl, ul3341_1, ge3341_1⟩ := k42_openF hMe3341
               have hv3341_1 := hcc3341 1 _ rfl
               rw [add_field _ _ 1 (by omega)] at hv3341_1
               replace hv3341_1 := Option.some.inj (hv3341_1.symm.trans hx3341_1)
               injection hv3341_1 with hva_ hvn_ hvc_
               rw [hva_] at ge3341_1
               rw [hvc_] at ul3341_1
               have HL3341_1 := Aq (show Kd.V (Kd.int .i64) 3 _ w.heap.size _ _ ((rd_T42 x6_1 x51_3).f1) from Kd.V_mk ul3341_1 ge3341_1)
               clear hva_ hvn_ hvc_ ge3341_1 ul3341_1 hcc3341 hce3341
               have HR3341_1 := Aq hi3341_1
               have HC3341_1 := Aq hl3341_1
               clear hi3341_1 hl3341_1
               replace p3341 := eq_true p3341
               replace q3341 := eq_true q3341
               go_wp2_with (first | ((with_reducible refine gate_dst (N := 12) rfl ?_); refine box_event ?hg (N := 12) ?hd (cs := #[.string (⟨#[]⟩ : ByteArray), .slice none 0 0, .string (⟨#[]⟩ : ByteArray)]) (t := 42) ?hr ?_; (case hd => rfl); (case hg => rfl); (case hr => first | (go_simp; done) | (go_simp; rfl)); intro gb3342 hg w44 hbox hb; have n0_ := Aq (Kd.N_below (Kd.N_elderB (by (with_reducible repeat (first | apply Kd.N_alloc | apply Kd.N_drewN | apply Kd.N_drew)); exact HO_6.out) gb3342 (Nat.le_of_eq hg.symm)) hb); have n1_ := Aq (Kd.N_below (Kd.N_elderB (by (with_reducible repeat (first | apply Kd.N_alloc | apply Kd.N_drewN | apply Kd.N_drew)); exact HO_49.out) gb3342 (Nat.le_of_eq hg.symm)) hb); have n2_ := Aq (Kd.V_below (Kd.V_elderB (by (with_reducible repeat (first | apply Kd.V_alloc | apply Kd.V_drewN | apply Kd.V_drew)); exact HL3341_1.out) gb3342 (Nat.le_of_eq hg.symm)) hb); have n3_ := Aq (blk_below (g := gb3334) (o := .cells #[.int .i64 a1_0, .string a1_1, .slice A1_2 l1_2.length c1_2, .int .i64 a1_3, .slice A1_4 l1_4.length c1_4] 35 (0, 0)) (by (with_reducible repeat (first | refine zN ?_ _ | refine zD ?_ | refine zA ?_ _)); exact BK3334.out) hb); have n4_ := Aq (Kd.C_below (by repeat (first | (with_reducible exact HR3341_1.out) | (with_reducible refine Kd.C_alloc ?_ _) | (with_reducible refine Kd.C_drewN ?_ _) | (with_reducible refine Kd.C_drew ?_) | exact HR3341_1.out | exact (Kd.V_reads' HL3341_1.out).2.2)) hb); have n5_ := Aq (below_step (by repeat (first | (with_reducible first | exact HB.out | apply zB | apply zC | apply zE | refine below_set ?_ GE3334.out) | exact HB.out)) hb); have n6_ := Aq (hbox); have n7_ := Aq ((by rw [hg]; exact (below_size (by repeat (first | (with_reducible first | exact HB.out | apply zB | apply zC | apply zE | refine below_set ?_ GE3334.out) | exact HB.out))) : w.heap.size ≤ gb3342)); have n8_ := Aq ((by rw [hg]; exact (below_size (by repeat (first | (with_reducible first | exact HB.out | apply zB | apply zC | apply zE | refine below_set ?_ GE3334.out) | exact HB.out))) : w.heap.size ≤ gb3342)); have n9_ := Aq ((by rw [hg]; exact Nat.ne_of_lt (blk_lt (g := gb3334) (o := .cells #[.int .i64 a1_0, .string a1_1, .slice A1_2 l1_2.length c1_2, .int .i64 a1_3, .slice A1_4 l1_4.length c1_4] 35 (0, 0)) (by (with_reducible repeat (first | refine zN ?_ _ | refine zD ?_ | refine zA ?_ _)); exact BK3334.out)) : gb3334 ≠ gb3342)); have n10_ := Aq ((by rw [hg]; exact Nat.ne_of_gt (blk_lt (g := gb3334) (o := .cells #[.int .i64 a1_0, .string a1_1, .slice A1_2 l1_2.length c1_2, .int .i64 a1_3, .slice A1_4 l1_4.length c1_4] 35 (0, 0)) (by (with_reducible repeat (first | refine zN ?_ _ | refine zD ?_ | refine zA ?_ _)); exact BK3334.out)) : gb3342 ≠ gb3334)); clear HO_6 HO_49 HL3341_1 BK3334 HR3341_1 HB; have HO_6 := n0_; have HO_49 := n1_; have HL3341_1 := n2_; have BK3334 := n3_; have HR3341_1 := n4_; have HB := n5_; have BK3342 := n6_; have GW3342 := n7_; have GE3342 := n8_; have NB3334_3342 := n9_; have NB3342_3334 := n10_; clear n0_ n1_ n2_ n3_ n4_ n5_ n6_ n7_ n8_ n9_ n10_ hb hbox hg; have hnb45 := NB3342_3334.out; have hnc45 := NB3334_3342.out; have hcz46_0 : w44.cell? ⟨gb3342, 0, none⟩ = some (.string (⟨#[]⟩ : ByteArray)) := (blk_cell BK3342.out 0).trans rfl; have hcz46_1 : w44.cell? ⟨gb3342, 1, none⟩ = some (.slice none 0 0) := (blk_cell BK3342.out 1).trans rfl; have hcz46_2 : w44.cell? ⟨gb3342, 2, none⟩ = some (.string (⟨#[]⟩ : ByteArray)) := (blk_cell BK3342.out 2).trans rfl; have hfz46_0 := blk_frozen BK3342.out 0; have hfz46_1 := blk_frozen BK3342.out 1; have hfz46_2 := blk_frozen BK3342.out 2))
               repeat (go_quiet (first | ((with_reducible refine gate_dst (N := 12) rfl ?_); refine box_event ?hg (N := 12) ?hd (cs := #[.string (⟨#[]⟩ : ByteArray), .slice none 0 0, .string (⟨#[]⟩ : ByteArray)]) (t := 42) ?hr ?_; (case hd => rfl); (case hg => rfl); (case hr => first | (go_simp; done) | (go_simp; rfl)); intro gb3342 hg w44 hbox hb; have n0_ := Aq (Kd.N_below (Kd.N_elderB (by (with_reducible repeat (first | apply Kd.N_alloc | apply Kd.N_drewN | apply Kd.N_drew)); exact HO_6.out) gb3342 (Nat.le_of_eq hg.symm)) hb); have n1_ := Aq (Kd.N_below (Kd.N_elderB (by (with_reducible repeat (first | apply Kd.N_alloc | apply Kd.N_drewN | apply Kd.N_drew)); exact HO_49.out) gb3342 (Nat.le_of_eq hg.symm)) hb); have n2_ := Aq (Kd.V_below (Kd.V_elderB (by (with_reducible repeat (first | apply Kd.V_alloc | apply Kd.V_drewN | apply Kd.V_drew)); exact HL3341_1.out) gb3342 (Nat.le_of_eq hg.symm)) hb); have n3_ := Aq (blk_below (g := gb3334) (o := .cells #[.int .i64 a1_0, .string a1_1, .slice A1_2 l1_2.length c1_2, .int .i64 a1_3, .slice A1_4 l1_4.length c1_4] 35 (0, 0)) (by (with_reducible repeat (first | refine zN ?_ _ | refine zD ?_ | refine zA ?_ _)); exact BK3334.out) hb); have n4_ := Aq (Kd.C_below (by repeat (first | (with_reducible exact HR3341_1.out) | (with_reducible refine Kd.C_alloc ?_ _) | (with_reducible refine Kd.C_drewN ?_ _) | (with_reducible refine Kd.C_drew ?_) | exact HR3341_1.out | exact (Kd.V_reads' HL3341_1.out).2.2)) hb); have n5_ := Aq (below_step (by repeat (first | (with_reducible first | exact HB.out | apply zB | apply zC | apply zE | refine below_set ?_ GE3334.out) | exact HB.out)) hb); have n6_ := Aq (hbox); have n7_ := Aq ((by rw [hg]; exact (below_size (by repeat (first | (with_reducible first | exact HB.out | apply zB | apply zC | apply zE | refine below_set ?_ GE3334.out) | exact HB.out))) : w.heap.size ≤ gb3342)); have n8_ := Aq ((by rw [hg]; exact (below_size (by repeat (first | (with_reducible first | exact HB.out | apply zB | apply zC | apply zE | refine below_set ?_ GE3334.out) | exact HB.out))) : w.heap.size ≤ gb3342)); have n9_ := Aq ((by rw [hg]; exact Nat.ne_of_lt (blk_lt (g := gb3334) (o := .cells #[.int .i64 a1_0, .string a1_1, .slice A1_2 l1_2.length c1_2, .int .i64 a1_3, .slice A1_4 l1_4.length c1_4] 35 (0, 0)) (by (with_reducible repeat (first | refine zN ?_ _ | refine zD ?_ | refine zA ?_ _)); exact BK3334.out)) : gb3334 ≠ gb3342)); have n10_ := Aq ((by rw [hg]; exact Nat.ne_of_gt (blk_lt (g := gb3334) (o := .cells #[.int .i64 a1_0, .string a1_1, .slice A1_2 l1_2.length c1_2, .int .i64 a1_3, .slice A1_4 l1_4.length c1_4] 35 (0, 0)) (by (with_reducible repeat (first | refine zN ?_ _ | refine zD ?_ | refine zA ?_ _)); exact BK3334.out)) : gb3342 ≠ gb3334)); clear HO_6 HO_49 HL3341_1 BK3334 HR3341_1 HB; have HO_6 := n0_; have HO_49 := n1_; have HL3341_1 := n2_; have BK3334 := n3_; have HR3341_1 := n4_; have HB := n5_; have BK3342 := n6_; have GW3342 := n7_; have GE3342 := n8_; have NB3334_3342 := n9_; have NB3342_3334 := n10_; clear n0_ n1_ n2_ n3_ n4_ n5_ n6_ n7_ n8_ n9_ n10_ hb hbox hg; have hnb45 := NB3342_3334.out; have hnc45 := NB3334_3342.out; have hcz46_0 : w44.cell? ⟨gb3342, 0, none⟩ = some (.string (⟨#[]⟩ : ByteArray)) := (blk_cell BK3342.out 0).trans rfl; have hcz46_1 : w44.cell? ⟨gb3342, 1, none⟩ = some (.slice none 0 0) := (blk_cell BK3342.out 1).trans rfl; have hcz46_2 : w44.cell? ⟨gb3342, 2, none⟩ = some (.string (⟨#[]⟩ : ByteArray)) := (blk_cell BK3342.out 2).trans rfl; have hfz46_0 := blk_frozen BK3342.out 0; have hfz46_1 := blk_frozen BK3342.out 1; have hfz46_2 := blk_frozen BK3342.out 2)); try go_wp2_with (first | ((with_reducible refine gate_dst (N := 12) rfl ?_); refine box_event ?hg (N := 12) ?hd (cs := #[.string (⟨#[]⟩ : ByteArray), .slice none 0 0, .string (⟨#[]⟩ : ByteArray)]) (t := 42) ?hr ?_; (case hd => rfl); (case hg => rfl); (case hr => first | (go_simp; done) | (go_simp; rfl)); intro gb3342 hg w44 hbox hb; have n0_ := Aq (Kd.N_below (Kd.N_elderB (by (with_reducible repeat (first | apply Kd.N_alloc | apply Kd.N_drewN | apply Kd.N_drew)); exact HO_6.out) gb3342 (Nat.le_of_eq hg.symm)) hb); have n1_ := Aq (Kd.N_below (Kd.N_elderB (by (with_reducible repeat (first | apply Kd.N_alloc | apply Kd.N_drewN | apply Kd.N_drew)); exact HO_49.out) gb3342 (Nat.le_of_eq hg.symm)) hb); have n2_ := Aq (Kd.V_below (Kd.V_elderB (by (with_reducible repeat (first | apply Kd.V_alloc | apply Kd.V_drewN | apply Kd.V_drew)); exact HL3341_1.out) gb3342 (Nat.le_of_eq hg.symm)) hb); have n3_ := Aq (blk_below (g := gb3334) (o := .cells #[.int .i64 a1_0, .string a1_1, .slice A1_2 l1_2.length c1_2, .int .i64 a1_3, .slice A1_4 l1_4.length c1_4] 35 (0, 0)) (by (with_reducible repeat (first | refine zN ?_ _ | refine zD ?_ | refine zA ?_ _)); exact BK3334.out) hb); have n4_ := Aq (Kd.C_below (by repeat (first | (with_reducible exact HR3341_1.out) | (with_reducible refine Kd.C_alloc ?_ _) | (with_reducible refine Kd.C_drewN ?_ _) | (with_reducible refine Kd.C_drew ?_) | exact HR3341_1.out | exact (Kd.V_reads' HL3341_1.out).2.2)) hb); have n5_ := Aq (below_step (by repeat (first | (with_reducible first | exact HB.out | apply zB | apply zC | apply zE | refine below_set ?_ GE3334.out) | exact HB.out)) hb); have n6_ := Aq (hbox); have n7_ := Aq ((by rw [hg]; exact (below_size (by repeat (first | (with_reducible first | exact HB.out | apply zB | apply zC | apply zE | refine below_set ?_ GE3334.out) | exact HB.out))) : w.heap.size ≤ gb3342)); have n8_ := Aq ((by rw [hg]; exact (below_size (by repeat (first | (with_reducible first | exact HB.out | apply zB | apply zC | apply zE | refine below_set ?_ GE3334.out) | exact HB.out))) : w.heap.size ≤ gb3342)); have n9_ := Aq ((by rw [hg]; exact Nat.ne_of_lt (blk_lt (g := gb3334) (o := .cells #[.int .i64 a1_0, .string a1_1, .slice A1_2 l1_2.length c1_2, .int .i64 a1_3, .slice A1_4 l1_4.length c1_4] 35 (0, 0)) (by (with_reducible repeat (first | refine zN ?_ _ | refine zD ?_ | refine zA ?_ _)); exact BK3334.out)) : gb3334 ≠ gb3342)); have n10_ := Aq ((by rw [hg]; exact Nat.ne_of_gt (blk_lt (g := gb3334) (o := .cells #[.int .i64 a1_0, .string a1_1, .slice A1_2 l1_2.length c1_2, .int .i64 a1_3, .slice A1_4 l1_4.length c1_4] 35 (0, 0)) (by (with_reducible repeat (first | refine zN ?_ _ | refine zD ?_ | refine zA ?_ _)); exact BK3334.out)) : gb3342 ≠ gb3334)); clear HO_6 HO_49 HL3341_1 BK3334 HR3341_1 HB; have HO_6 := n0_; have HO_49 := n1_; have HL3341_1 := n2_; have BK3334 := n3_; have HR3341_1 := n4_; have HB := n5_; have BK3342 := n6_; have GW3342 := n7_; have GE3342 := n8_; have NB3334_3342 := n9_; have NB3342_3334 := n10_; clear n0_ n1_ n2_ n3_ n4_ n5_ n6_ n7_ n8_ n9_ n10_ hb hbox hg; have hnb45 := NB3342_3334.out; have hnc45 := NB3334_3342.out; have hcz46_0 : w44.cell? ⟨gb3342, 0, none⟩ = some (.string (⟨#[]⟩ : ByteArray)) := (blk_cell BK3342.out 0).trans rfl; have hcz46_1 : w44.cell? ⟨gb3342, 1, none⟩ = some (.slice none 0 0) := (blk_cell BK3342.out 1).trans rfl; have hcz46_2 : w44.cell? ⟨gb3342, 2, none⟩ = some (.string (⟨#[]⟩ : ByteArray)) := (blk_cell BK3342.out 2).trans rfl; have hfz46_0 := blk_frozen BK3342.out 0; have hfz46_1 := blk_frozen BK3342.out 1; have hfz46_2 := blk_frozen BK3342.out 2)))
               go_roundg k3
               case measure => have := HK1.out; have := HK2.out; have := HK3.out; omega
               case rel => exact ⟨(false), (wrap64 (x51_3 + 1)), (by first | rfl | (simp; done) | (simp [*]; done)), (by first | rfl | (simp; done) | (simp [*]; done)), H', ⟨by have := HK1.out; have := HK2.out; have := HK3.out; omega⟩, ⟨by (with_reducible repeat (first | apply Kd.N_alloc | apply Kd.N_drewN | apply Kd.N_drew)); exact Kd.N_mono (Kd.N_far (p := ⟨gb3342, 2, none⟩) (Kd.N_far (p := ⟨gb3342, 1, none⟩) (Kd.N_far (p := ⟨gb3342, 0, none⟩) (Kd.N_mono HO_6.out (fun k_ hk => (⟨hk, hk.2⟩ : _ ∧ k_ ≠ gb3342))) (fun _ hk => hk.2) (.string ((rd_T42 x6_1 x51_3).f0))) (fun _ hk => hk.2) (.slice A3341_1 ((rd_T42 x6_1 x51_3).f1).length c3341_1)) (fun _ hk => hk.2) (.string ((rd_T42 x6_1 x51_3).f2))) (fun _ hk => ⟨hk.1.1.1, hk.1.1.2⟩)⟩, ⟨by (with_reducible repeat (first | apply Kd.N_alloc | apply Kd.N_drewN | apply Kd.N_drew)); exact Kd.N_mono (Kd.N_far (p := ⟨gb3342, 2, none⟩) (Kd.N_far (p := ⟨gb3342, 1, none⟩) (Kd.N_far (p := ⟨gb3342, 0, none⟩) (Kd.N_mono HO_49.out (fun k_ hk => (⟨hk, hk.2⟩ : _ ∧ k_ ≠ gb3342))) (fun _ hk => hk.2) (.string ((rd_T42 x6_1 x51_3).f0))) (fun _ hk => hk.2) (.slice A3341_1 ((rd_T42 x6_1 x51_3).f1).length c3341_1)) (fun _ hk => hk.2) (.string ((rd_T42 x6_1 x51_3).f2))) (fun _ hk => ⟨hk.1.1.1, hk.1.1.2⟩)⟩, ⟨by (with_reducible repeat (first | refine zN ?_ _ | refine zD ?_ | refine zA ?_ _)); refine blk_far ?_ NB3334_3342.out _; (with_reducible repeat (first | refine zN ?_ _ | refine zD ?_ | refine zA ?_ _)); refine blk_far ?_ NB3334_3342.out _; (with_reducible repeat (first | refine zN ?_ _ | refine zD ?_ | refine zA ?_ _)); refine blk_far ?_ NB3334_3342.out _; (with_reducible repeat (first | refine zN ?_ _ | refine zD ?_ | refine zA ?_ _)); exact BK3334.out⟩, ⟨by repeat (first | (with_reducible first | exact HB.out | apply zB | apply zC | apply zE | refine below_set ?_ GE3334.out | refine below_set ?_ GE3342.out) | exact HB.out)⟩⟩
             ·rw [if_neg c34] at H
              exact absurd H (by simp)
            ·rw [if_neg c33] at H
             exact absurd H (by simp)
           ·rw [if_neg c32] at H
            have c32b0 : decide (x51_3 < (x6_1.length : Int)) = false := decide_eq_false c32
            clear c32
            by_cases c47 : x10_3 = true
            ·subst c47
             have H1 : (if 0 ≤ x9_2 then (if x9_2 < (x6_1.length : Int) then (some ((rd_T42 x6_1 x9_2).f2, 1)) else (none)) else (none)) = some (r1, r2) := by rw [if_pos rfl] at H; exact H
             clear H
             have H := H1
             clear H1
             by_cases c48 : 0 ≤ x9_2
             ·rw [if_pos c48] at H
              have c48b0 : decide (0 ≤ x9_2) = true := decide_eq_true c48
              clear c48
              by_cases c49 : x9_2 < (x6_1.length : Int)
              ·rw [if_pos c49] at H
               have c49b0 : decide (x9_2 < (x6_1.length : Int)) = true := decide_eq_true c49
               clear c49
               simp only [Option.some.injEq, Prod.mk.injEq] at H
               obtain ⟨rfl, rfl⟩ := H
               have p3345 : 0 ≤ (x9_2 : Int) := of_decide_eq_true (by first | (with_reducible assumption) | assumption)
               have q3345 : x9_2 < (x6_1.length : Int) := of_decide_eq_true (by first | (with_reducible assumption) | assumption)
               obtain ⟨ad3345, A3345_1, c3345_1, e3345, hx3345_0, hx3345_1, hx3345_2, hl3345_1, hi3345_1⟩ := at_T42 (Kd.N_reads' HO_6.out).2.2 x9_2 p3345 q3345
               cases e3345
               obtain ⟨ce3345, hce3345, hMe3345, hcc3345⟩ := Kd.N_get HO_6.out z42 x9_2 p3345 (by first | exact q3345 | exact of_decide_eq_true (by first | (with_reducible assumption) | assumption) | (have e_ := (Kd.N_reads' HO_6.out).1; omega))
               obtain ⟨ua3345_1, uc3345_1, rfl, ul3345_1, ge3345_1⟩ := k42_openF hMe3345
               have hv3345_1 := hcc3345 1 _ rfl
               rw [add_field _ _ 1 (by omega)] at hv3345_1
               replace hv3345_1 := Option.some.inj (hv3345_1.symm.trans hx3345_1)
               injection hv3345_1 with hva_ hvn_ hvc_
               rw [hva_] at ge3345_1
               rw [hvc_] at ul3345_1
               have HL3345_1 := Aq (show Kd.V (Kd.int .i64) 3 _ w.heap.size _ _ ((rd_T42 x6_1 x9_2).f1) from Kd.V_mk ul3345_1 ge3345_1)
               clear hva_ hvn_ hvc_ ge3345_1 ul3345_1 hcc3345 hce3345
               have HR3345_1 := Aq hi3345_1
               have HC3345_1 := Aq hl3345_1
               clear hi3345_1 hl3345_1
               replace p3345 := eq_true p3345
               replace q3345 := eq_true q3345
               go_wp2
               repeat (go_quiet (fail); try go_wp2)
               go_ret2
               exact ⟨by first | rfl | (simp [errW_none, errW_some] <;> rfl) | (simp [*, errW_none, errW_some] <;> rfl), by repeat (first | (with_reducible first | exact HB.out | apply zB | apply zC | apply zE | refine below_set ?_ GE3334.out) | exact HB.out)⟩
              ·rw [if_neg c49] at H
               exact absurd H (by simp)
             ·rw [if_neg c48] at H
              exact absurd H (by simp)
            ·replace c47 := Bool.eq_false_iff.mpr c47
             subst c47
             have H1 : (impl_ExpFind.l1 k3 x6_1 (wrap64 (x9_2 - 1))) = some (r1, r2) := by rw [if_neg (show ¬ (false = true) by decide)] at H; exact H
             clear H
             have H := H1
             clear H1
             have H' := Aq H
             clear H
             go_wp2
             repeat (go_quiet (fail); try go_wp2)
             go_roundg k3
             case measure => have := HK1.out; have := HK2.out; have := HK3.out; omega
             case rel => exact ⟨(wrap64 (x9_2 - 1)), (by first | rfl | (simp; done) | (simp [*]; done)), H', ⟨by have := HK1.out; have := HK2.out; have := HK3.out; omega⟩, ⟨by (with_reducible repeat (first | apply Kd.N_alloc | apply Kd.N_drewN | apply Kd.N_drew)); exact HO_6.out⟩, ⟨by (with_reducible repeat (first | refine zN ?_ _ | refine zD ?_ | refine zA ?_ _)); exact BK3334.out⟩, ⟨by repeat (first | (with_reducible first | exact HB.out | apply zB | apply zC | apply zE | refine below_set ?_ GE3334.out) | exact HB.out)⟩⟩
        ·rw [if_neg c31] at H
         have c31b0 : decide (0 ≤ x9_2) = false := decide_eq_false c31
         clear c31
         simp only [Option.some.injEq, Prod.mk.injEq] at H
         obtain ⟨rfl, rfl⟩ := H
         go_wp2
         repeat (go_quiet (fail); try go_wp2)
         go_ret2
         exact ⟨by first | rfl | (simp [errW_none, errW_some] <;> rfl) | (simp [*, errW_none, errW_some] <;> rfl), by repeat (first | (with_reducible first | exact HB.out | apply zB | apply zC | apply zE | refine below_set ?_ GE3334.out) | exact HB.out)⟩
 ·rw [if_neg c3] at H
  have c3b0 : (a1_0 == 1) = false := beq_eq_false_iff_ne.mpr c3
  have c3b1 : (a1_0 != 1) = true := bne_iff_ne.mpr c3
  simp only [Option.some.injEq, Prod.mk.injEq] at H
  obtain ⟨rfl, rfl⟩ := H
  go_enter Try.func18, Try.ntmps18
  go_wp2_with (first | ((with_reducible refine gate_dst (N := 3) rfl ?_); refine box_event ?hg (N := 3) ?hd (cs := #[.int .i64 a1_0, .string a1_1, .slice A1_2 l1_2.length c1_2, .int .i64 a1_3, .slice A1_4 l1_4.length c1_4]) (t := 35) ?hr ?_; (case hd => rfl); (case hg => rfl); (case hr => first | (go_simp; done) | (go_simp; rfl)); intro gb3334 hg w50 hbox hb; have n0_ := Aq (Kd.V_below (Kd.V_elderB (by (with_reducible repeat (first | apply Kd.V_alloc | apply Kd.V_drewN | apply Kd.V_drew)); exact HO0.out) gb3334 (Nat.le_of_eq hg.symm)) hb); have n1_ := Aq (below_step (by repeat (first | (with_reducible first | exact HB.out | apply zB | apply zC | apply zE) | exact HB.out)) hb); have n2_ := Aq (hbox); have n3_ := Aq ((by rw [hg]; exact (below_size (by repeat (first | (with_reducible first | exact HB.out | apply zB | apply zC | apply zE) | exact HB.out))) : w.heap.size ≤ gb3334)); have n4_ := Aq ((by rw [hg]; exact (below_size (by repeat (first | (with_reducible first | exact HB.out | apply zB | apply zC | apply zE) | exact HB.out))) : w.heap.size ≤ gb3334)); clear HO0 HB; have HO0 := n0_; have HB := n1_; have BK3334 := n2_; have GW3334 := n3_; have GE3334 := n4_; clear n0_ n1_ n2_ n3_ n4_ hb hbox hg; have hcz51_0 : w50.cell? ⟨gb3334, 0, none⟩ = some (.int .i64 a1_0) := (blk_cell BK3334.out 0).trans rfl; have hcz51_1 : w50.cell? ⟨gb3334, 1, none⟩ = some (.string a1_1) := (blk_cell BK3334.out 1).trans rfl; have hcz51_2 : w50.cell? ⟨gb3334, 2, none⟩ = some (.slice A1_2 l1_2.length c1_2) := (blk_cell BK3334.out 2).trans rfl; have hcz51_3 : w50.cell? ⟨gb3334, 3, none⟩ = some (.int .i64 a1_3) := (blk_cell BK3334.out 3).trans rfl; have hcz51_4 : w50.cell? ⟨gb3334, 4, none⟩ = some (.slice A1_4 l1_4.length c1_4) := (blk_cell BK3334.out 4).trans rfl; have hfz51_0 := blk_frozen BK3334.out 0; have hfz51_1 := blk_frozen BK3334.out 1; have hfz51_2 := blk_frozen BK3334.out 2; have hfz51_3 := blk_frozen BK3334.out 3; have hfz51_4 := blk_frozen BK3334.out 4))
  go_ret2
  exact ⟨by first | rfl | (simp [errW_none, errW_some] <;> rfl) | (simp [*, errW_none, errW_some] <;> rfl), by repeat (first | (with_reducible first | exact HB.out | apply zB | apply zC | apply zE | refine below_set ?_ GE3334.out) | exact HB.out)⟩
def spec_l2Has.l0 : Nat → List Int → Int → Int → Option (Bool)
 | 0, _, _, _ => none
 | k + 1, x0, x1, x5 => if x5 < (x0.length : Int) then (if 0 ≤ x5 then (if (rd x0 x5) = x1 then (some true) else (spec_l2Has.l0 k x0 x1 (wrap64 (x5 + 1)))) else (none)) else (some false)
def spec_l2Has.f (k : Nat) (l0 : List Int) (a1 : Int) : Option (Bool) := spec_l2Has.l0 k l0 a1 0
theorem spec_l2Has.mono_l : ∀ k, (∀ y0 y1 y2, LeO (spec_l2Has.l0 k y0 y1 y2) (spec_l2Has.l0 (k + 1) y0 y1 y2))
 | 0 => fun _ _ _ r h => by simp [spec_l2Has.l0] at h
 | k + 1 => by
  have ih0 := spec_l2Has.mono_l k
  ·intro y0 y1 y2
   unfold spec_l2Has.l0
   repeat' first
   | (with_reducible exact ih0 _ _ _)
   | (with_reducible exact LeO.refl _)
   | (with_reducible exact LeO.none _)
   | (with_reducible refine LeO.ite ?_ ?_)
   | (with_reducible refine LeO.bind ?_ (fun _ => ?_))
   | exact ih0 _ _ _
   | exact LeO.none _
   | refine LeO.ite ?_ ?_
   | refine LeO.bind ?_ (fun _ => ?_)
theorem spec_l2Has.mono : ∀ a0 a1 k, LeO (spec_l2Has.f k a0 a1) (spec_l2Has.f (k + 1) a0 a1) := by
 intro a0 a1 k
 have ih0 := spec_l2Has.mono_l k
 unfold spec_l2Has.f
 repeat' first
   | (with_reducible exact ih0 _ _ _)
   | (with_reducible exact LeO.refl _)
   | (with_reducible exact LeO.none _)
   | (with_reducible refine LeO.ite ?_ ?_)
   | (with_reducible refine LeO.bind ?_ (fun _ => ?_))
   | exact ih0 _ _ _
   | exact LeO.none _
   | refine LeO.ite ?_ ?_
   | refine LeO.bind ?_ (fun _ => ?_)
set_option maxHeartbeats 8000000 in
set_option maxRecDepth 100000 in
theorem spec_l2Has.calls (k : Nat) (A0 : Option Addr) (c0 : Nat) (l0 : List Int) (a1 : Int) (r : Bool) (w : World) (hr0 : Kd.C (Kd.int .i64) w A0 l0.length l0) (hc0 : l0.length ≤ c0) (h : spec_l2Has.f k l0 a1 = some r) :
  Calls Try.prog 94 #[.slice A0 l0.length c0, .int .i64 a1] w fun e w' => e = .returned (.bool r) ∧ Drawn0 w w' := by
 have HR0 := Aq hr0
 have HC0 := Aq hc0
 clear hr0 hc0
 have H : (spec_l2Has.l0 k l0 a1 0) = some r := h
 clear h
 have H' := Aq H
 clear H
 go_enter Try.func94, Try.ntmps94
 go_wp2
 go_loopg [5] k (fun kq v5 w' => ∃ (x5_1 : Int), v5 = .int .i64 x5_1 ∧ Aside0 (spec_l2Has.l0 kq l0 a1 x5_1 = some r) ∧ Aside0 (kq ≤ k) ∧ Drawn0 w w')
 case atStart => exact ⟨(0), (by first | rfl | (simp; done) | (simp [*]; done)), H', ⟨Nat.le_refl _⟩, by repeat (first | exact Drawn0.refl _ | apply Drawn0.step)⟩
 case round =>
  clear H'
  try clear p2
  obtain ⟨x5_1, rfl, HA, HK1, ⟨m1, rfl⟩⟩ := hrel
  cases gk with
  | zero => exact absurd HA.out (by simp [spec_l2Has.l0])
  | succ k1 =>
   have H := HA.out
   clear HA
   simp only [spec_l2Has.l0] at H
   by_cases c3 : x5_1 < (l0.length : Int)
   ·rw [if_pos c3] at H
    have c3b0 : decide (x5_1 < (l0.length : Int)) = true := decide_eq_true c3
    clear c3
    by_cases c4 : 0 ≤ x5_1
    ·rw [if_pos c4] at H
     have c4b0 : decide (0 ≤ x5_1) = true := decide_eq_true c4
     clear c4
     by_cases c5 : (rd l0 x5_1) = a1
     ·rw [if_pos c5] at H
      have c5b0 : ((rd l0 x5_1) == a1) = true := beq_iff_eq.mpr c5
      have c5b1 : ((rd l0 x5_1) != a1) = false := bne_eq_false_iff_eq.mpr c5
      clear c5
      obtain rfl := Option.some.inj H
      have p3346 : 0 ≤ (x5_1 : Int) := of_decide_eq_true (by first | (with_reducible assumption) | assumption)
      have q3346 : x5_1 < (l0.length : Int) := of_decide_eq_true (by first | (with_reducible assumption) | assumption)
      obtain ⟨ad3346, e3346, hx3346_0⟩ := Kd.at_int HR0.out x5_1 p3346 q3346
      cases e3346
      replace p3346 := eq_true p3346
      replace q3346 := eq_true q3346
      go_wp2
      go_ret
      exact ⟨by first | rfl | (simp; done) | (simp [*]; done), by repeat (first | exact Drawn0.refl _ | apply Drawn0.step)⟩
     ·rw [if_neg c5] at H
      have c5b0 : ((rd l0 x5_1) == a1) = false := beq_eq_false_iff_ne.mpr c5
      have c5b1 : ((rd l0 x5_1) != a1) = true := bne_iff_ne.mpr c5
      have H' := Aq H
      clear H
      have p3346 : 0 ≤ (x5_1 : Int) := of_decide_eq_true (by first | (with_reducible assumption) | assumption)
      have q3346 : x5_1 < (l0.length : Int) := of_decide_eq_true (by first | (with_reducible assumption) | assumption)
      obtain ⟨ad3346, e3346, hx3346_0⟩ := Kd.at_int HR0.out x5_1 p3346 q3346
      cases e3346
      replace p3346 := eq_true p3346
      replace q3346 := eq_true q3346
      go_wp2
      go_roundg k1
      case measure => have := HK1.out; omega
      case rel => exact ⟨(wrap64 (x5_1 + 1)), (by first | rfl | (simp; done) | (simp [*]; done)), H', ⟨by have := HK1.out; omega⟩, by repeat (first | exact Drawn0.refl _ | apply Drawn0.step)⟩
    ·rw [if_neg c4] at H
     exact absurd H (by simp)
   ·rw [if_neg c3] at H
    have c3b0 : decide (x5_1 < (l0.length : Int)) = false := decide_eq_false c3
    clear c3
    obtain rfl := Option.some.inj H
    go_wp2
    go_ret
    exact ⟨by first | rfl | (simp; done) | (simp [*]; done), by repeat (first | exact Drawn0.refl _ | apply Drawn0.step)⟩
end Go.Proofs.Ytmdhanegafclmaa.PFnExpFind
