/- PFnExpFindx8 of the seat's texts, cut down by prune.py to what the theorem comes to. -/
import Derived.Test.YtmdhanegafclmaaZfPFnExpFindx0
import Derived.Test.YtmdhanegafclmaaZfPFnExpFindx7
namespace Go.Proofs.Ytmdhanegafclmaa.PFnExpFind
open Go.RowKit Go.Proofs.YtmdhanegafclmaaW.PrintWords Go.Proofs.YtmdhanegafclmaaW.PrintLast Go.Proofs.YtmdhanegafclmaaW.PrintMore
attribute [local go_sem] max2_int min2_int max_two min_two max_three min_three max_four min_four
set_option linter.unusedVariables false
set_option linter.unusedSimpArgs false
def spec_l2Within.l0 : Nat → List Int → List Int → Int → Option (Bool)
 | 0, _, _, _ => none
 | k + 1, x0, x1, x5 => if x5 < (x0.length : Int) then (if 0 ≤ x5 then ((spec_l2Has.f k x1 (rd x0 x5)).bind fun t3348 => (if t3348 = true then (spec_l2Within.l0 k x0 x1 (wrap64 (x5 + 1))) else (some false))) else (none)) else (some true)
def spec_l2Within.f (k : Nat) (l0 : List Int) (l1 : List Int) : Option (Bool) := spec_l2Within.l0 k l0 l1 0
theorem spec_l2Within.mono_l : ∀ k, (∀ y0 y1 y2, LeO (spec_l2Within.l0 k y0 y1 y2) (spec_l2Within.l0 (k + 1) y0 y1 y2))
 | 0 => fun _ _ _ r h => by simp [spec_l2Within.l0] at h
 | k + 1 => by
  have ih0 := spec_l2Within.mono_l k
  ·intro y0 y1 y2
   unfold spec_l2Within.l0
   repeat' first
   | (with_reducible exact ih0 _ _ _)
   | (with_reducible exact spec_l2Has.mono _ _ _)
   | (with_reducible exact LeO.refl _)
   | (with_reducible exact LeO.none _)
   | (with_reducible refine LeO.ite ?_ ?_)
   | (with_reducible refine LeO.bind ?_ (fun _ => ?_))
   | exact ih0 _ _ _
   | exact spec_l2Has.mono _ _ _
   | exact LeO.none _
   | refine LeO.ite ?_ ?_
   | refine LeO.bind ?_ (fun _ => ?_)
theorem spec_l2Within.mono : ∀ a0 a1 k, LeO (spec_l2Within.f k a0 a1) (spec_l2Within.f (k + 1) a0 a1) := by
 intro a0 a1 k
 have ih0 := spec_l2Within.mono_l k
 unfold spec_l2Within.f
 repeat' first
   | (with_reducible exact ih0 _ _ _)
   | (with_reducible exact spec_l2Has.mono _ _ _)
   | (with_reducible exact LeO.refl _)
   | (with_reducible exact LeO.none _)
   | (with_reducible refine LeO.ite ?_ ?_)
   | (with_reducible refine LeO.bind ?_ (fun _ => ?_))
   | exact ih0 _ _ _
   | exact spec_l2Has.mono _ _ _
   | exact LeO.none _
   | refine LeO.ite ?_ ?_
   | refine LeO.bind ?_ (fun _ => ?_)
set_option maxHeartbeats 8000000 in
set_option maxRecDepth 100000 in
theorem spec_l2Within.calls (k : Nat) (A0 : Option Addr) (c0 : Nat) (l0 : List Int) (A1 : Option Addr) (c1 : Nat) (l1 : List Int) (r : Bool) (w : World) (hr0 : Kd.C (Kd.int .i64) w A0 l0.length l0) (hc0 : l0.length ≤ c0) (hr1 : Kd.C (Kd.int .i64) w A1 l1.length l1) (hc1 : l1.length ≤ c1) (h : spec_l2Within.f k l0 l1 = some r) :
  Calls Try.prog 83 #[.slice A0 l0.length c0, .slice A1 l1.length c1] w fun e w' => e = .returned (.bool r) ∧ Drawn0 w w' := by
 have HR0 := Aq hr0
 have HC0 := Aq hc0
 clear hr0 hc0
 have HR1 := Aq hr1
 have HC1 := Aq hc1
 clear hr1 hc1
 have H : (spec_l2Within.l0 k l0 l1 0) = some r := h
 clear h
 have H' := Aq H
 clear H
 go_enter Try.func83, Try.ntmps83
 go_wp2
 go_loopg [5] k (fun kq v5 w' => ∃ (x5_1 : Int), v5 = .int .i64 x5_1 ∧ Aside0 (spec_l2Within.l0 kq l0 l1 x5_1 = some r) ∧ Aside0 (kq ≤ k) ∧ Drawn0 w w')
 case atStart => exact ⟨(0), (by first | rfl | (simp; done) | (simp [*]; done)), H', ⟨Nat.le_refl _⟩, by repeat (first | exact Drawn0.refl _ | apply Drawn0.step)⟩
 case round =>
  clear H'
  try clear c1
  try clear p2
  obtain ⟨x5_1, rfl, HA, HK1, ⟨m1, rfl⟩⟩ := hrel
  cases gk with
  | zero => exact absurd HA.out (by simp [spec_l2Within.l0])
  | succ k1 =>
   have H := HA.out
   clear HA
   simp only [spec_l2Within.l0] at H
   by_cases c3 : x5_1 < (l0.length : Int)
   ·rw [if_pos c3] at H
    have c3b0 : decide (x5_1 < (l0.length : Int)) = true := decide_eq_true c3
    clear c3
    by_cases c4 : 0 ≤ x5_1
    ·rw [if_pos c4] at H
     have c4b0 : decide (0 ≤ x5_1) = true := decide_eq_true c4
     clear c4
     replace H := Option.bind_eq_some_iff.mp H
     obtain ⟨t3348, A50, H⟩ := H
     replace H : (if t3348 = true then (spec_l2Within.l0 k1 l0 l1 (wrap64 (x5_1 + 1))) else (some false)) = some r := H
     have A5 := Aq A50
     clear A50
     by_cases c6 : t3348 = true
     ·subst c6
      have H1 : (spec_l2Within.l0 k1 l0 l1 (wrap64 (x5_1 + 1))) = some r := by rw [if_pos rfl] at H; exact H
      clear H
      have H := H1
      clear H1
      have H' := Aq H
      clear H
      have p3347 : 0 ≤ (x5_1 : Int) := of_decide_eq_true (by first | (with_reducible assumption) | assumption)
      have q3347 : x5_1 < (l0.length : Int) := of_decide_eq_true (by first | (with_reducible assumption) | assumption)
      obtain ⟨ad3347, e3347, hx3347_0⟩ := Kd.at_int HR0.out x5_1 p3347 q3347
      cases e3347
      replace p3347 := eq_true p3347
      replace q3347 := eq_true q3347
      go_wp2_with (first | ((with_reducible refine gate_callee (f := 94) rfl ?_); refine goesL_ (some 17) rfl rfl Try.func94 (by kernel_rfl) rfl #[.slice A1 l1.length c1, .int .i64 (rd l0 x5_1)] rfl (by (try simp only [List.map_toArray, List.map_cons, List.map_nil]); first | done | rfl | (simp only [List.length_drop, List.length_take]; rfl)) ?_; (with_reducible refine (spec_l2Has.calls k1 _ _ l1 (rd l0 x5_1) true _ ?side1 ?side2 A5.out).mono ?_); (case side1 => repeat (first | exact HR1.out | (with_reducible refine Kd.C_alloc ?_ _) | (with_reducible refine Kd.C_drewN ?_ _) | (with_reducible refine Kd.C_drew ?_))); (case side2 => exact HC1.out); rintro e w' ⟨rfl, ⟨nd, rfl⟩⟩; refine ⟨_, rfl, ?_⟩))
      go_roundg k1
      case measure => have := HK1.out; omega
      case rel => exact ⟨(wrap64 (x5_1 + 1)), (by first | rfl | (simp; done) | (simp [*]; done)), H', ⟨by have := HK1.out; omega⟩, by repeat (first | exact Drawn0.refl _ | apply Drawn0.step)⟩
     ·replace c6 := Bool.eq_false_iff.mpr c6
      subst c6
      have H1 : (some false) = some r := by rw [if_neg (show ¬ (false = true) by decide)] at H; exact H
      clear H
      have H := H1
      clear H1
      obtain rfl := Option.some.inj H
      have p3347 : 0 ≤ (x5_1 : Int) := of_decide_eq_true (by first | (with_reducible assumption) | assumption)
      have q3347 : x5_1 < (l0.length : Int) := of_decide_eq_true (by first | (with_reducible assumption) | assumption)
      obtain ⟨ad3347, e3347, hx3347_0⟩ := Kd.at_int HR0.out x5_1 p3347 q3347
      cases e3347
      replace p3347 := eq_true p3347
      replace q3347 := eq_true q3347
      go_wp2_with (first | ((with_reducible refine gate_callee (f := 94) rfl ?_); refine goesL_ (some 17) rfl rfl Try.func94 (by kernel_rfl) rfl #[.slice A1 l1.length c1, .int .i64 (rd l0 x5_1)] rfl (by (try simp only [List.map_toArray, List.map_cons, List.map_nil]); first | done | rfl | (simp only [List.length_drop, List.length_take]; rfl)) ?_; (with_reducible refine (spec_l2Has.calls k1 _ _ l1 (rd l0 x5_1) false _ ?side1 ?side2 A5.out).mono ?_); (case side1 => repeat (first | exact HR1.out | (with_reducible refine Kd.C_alloc ?_ _) | (with_reducible refine Kd.C_drewN ?_ _) | (with_reducible refine Kd.C_drew ?_))); (case side2 => exact HC1.out); rintro e w' ⟨rfl, ⟨nd, rfl⟩⟩; refine ⟨_, rfl, ?_⟩))
      go_ret
      exact ⟨by first | rfl | (simp; done) | (simp [*]; done), by repeat (first | exact Drawn0.refl _ | apply Drawn0.step)⟩
    ·rw [if_neg c4] at H
     exact absurd H (by simp)
   ·rw [if_neg c3] at H
    have c3b0 : decide (x5_1 < (l0.length : Int)) = false := decide_eq_false c3
    clear c3
    obtain rfl := Option.some.inj H
    go_wp2
    go_ret
    exact ⟨by first | rfl | (simp; done) | (simp [*]; done), by repeat (first | exact Drawn0.refl _ | apply Drawn0.step)⟩
def spec_l2Fits.f (k : Nat) (a0_0 : ByteArray) (l0_1 : List Int) (a0_2 : ByteArray) (a1_0 : Int) (a1_1 : ByteArray) (l1_2 : List Int) (a1_3 : Int) (l1_4 : List (S35)) : Option (Bool) := if a0_0.toList = a1_1.toList then ((spec_l2Within.f k l0_1 l1_2).bind fun t3351 => (some t3351)) else (some false)
theorem spec_l2Fits.mono : ∀ a0 a1 a2 a3 a4 a5 a6 a7 k, LeO (spec_l2Fits.f k a0 a1 a2 a3 a4 a5 a6 a7) (spec_l2Fits.f (k + 1) a0 a1 a2 a3 a4 a5 a6 a7) := by
 intro a0 a1 a2 a3 a4 a5 a6 a7 k
 unfold spec_l2Fits.f
 repeat' first
   | (with_reducible exact spec_l2Within.mono _ _ _)
   | (with_reducible exact LeO.refl _)
   | (with_reducible exact LeO.none _)
   | (with_reducible refine LeO.ite ?_ ?_)
   | (with_reducible refine LeO.bind ?_ (fun _ => ?_))
   | exact spec_l2Within.mono _ _ _
   | exact LeO.none _
   | refine LeO.ite ?_ ?_
   | refine LeO.bind ?_ (fun _ => ?_)
set_option maxHeartbeats 8000000 in
set_option maxRecDepth 100000 in
theorem spec_l2Fits.calls (k : Nat) (a0_0 : ByteArray) (A0_1 : Option Addr) (c0_1 : Nat) (l0_1 : List Int) (a0_2 : ByteArray) (a1_0 : Int) (a1_1 : ByteArray) (A1_2 : Option Addr) (c1_2 : Nat) (l1_2 : List Int) (a1_3 : Int) (A1_4 : Option Addr) (c1_4 : Nat) (l1_4 : List (S35)) (r : Bool) (w : World) (hr0_1 : Kd.C (Kd.int .i64) w A0_1 l0_1.length l0_1) (hc0_1 : l0_1.length ≤ c0_1) (hr1_2 : Kd.C (Kd.int .i64) w A1_2 l1_2.length l1_2) (hc1_2 : l1_2.length ≤ c1_2) (hr1_4 : Kd.C k35 w A1_4 l1_4.length l1_4) (hc1_4 : l1_4.length ≤ c1_4) (h : spec_l2Fits.f k a0_0 l0_1 a0_2 a1_0 a1_1 l1_2 a1_3 l1_4 = some r) :
  Calls Try.prog 50 #[.agg #[.string a0_0, .slice A0_1 l0_1.length c0_1, .string a0_2], .agg #[.int .i64 a1_0, .string a1_1, .slice A1_2 l1_2.length c1_2, .int .i64 a1_3, .slice A1_4 l1_4.length c1_4]] w fun e w' => e = .returned (.bool r) ∧ Below w.heap.size w w' := by
 have hu42 := Try.underlying42
 have hu35 := Try.underlying35
 have HR0_1 := Aq hr0_1
 have HC0_1 := Aq hc0_1
 clear hr0_1 hc0_1
 have HR1_2 := Aq hr1_2
 have HC1_2 := Aq hc1_2
 clear hr1_2 hc1_2
 have HR1_4 := Aq hr1_4
 have HC1_4 := Aq hc1_4
 clear hr1_4 hc1_4
 have HB := Aq (Below.refl w.heap.size w)
 have H : (if a0_0.toList = a1_1.toList then ((spec_l2Within.f k l0_1 l1_2).bind fun t3351 => (some t3351)) else (some false)) = some r := h
 clear h
 by_cases c3 : a0_0.toList = a1_1.toList
 ·rw [if_pos c3] at H
  have c3b0 : (a0_0.toList == a1_1.toList) = true := beq_iff_eq.mpr c3
  have c3b1 : (a0_0.toList != a1_1.toList) = false := bne_eq_false_iff_eq.mpr c3
  clear c3
  replace H := Option.bind_eq_some_iff.mp H
  obtain ⟨t3351, A40, H⟩ := H
  replace H : (some t3351) = some r := H
  have A4 := Aq A40
  clear A40
  obtain rfl := Option.some.inj H
  go_enter Try.func50, Try.ntmps50
  go_wp2_with (first | ((with_reducible refine gate_dst (N := 2) rfl ?_); refine box_event ?hg (N := 2) ?hd (cs := #[.string a0_0, .slice A0_1 l0_1.length c0_1, .string a0_2]) (t := 42) ?hr ?_; (case hd => rfl); (case hg => rfl); (case hr => first | (go_simp; done) | (go_simp; rfl)); intro gb3349 hg w5 hbox hb; have n0_ := Aq (below_step (by repeat (first | (with_reducible first | exact HB.out | apply zB | apply zC | apply zE) | exact HB.out)) hb); have n1_ := Aq (hbox); have n2_ := Aq ((by rw [hg]; exact (below_size (by repeat (first | (with_reducible first | exact HB.out | apply zB | apply zC | apply zE) | exact HB.out))) : w.heap.size ≤ gb3349)); have n3_ := Aq ((by rw [hg]; exact (below_size (by repeat (first | (with_reducible first | exact HB.out | apply zB | apply zC | apply zE) | exact HB.out))) : w.heap.size ≤ gb3349)); clear HB; have HB := n0_; have BK3349 := n1_; have GW3349 := n2_; have GE3349 := n3_; clear n0_ n1_ n2_ n3_ hb hbox hg) | ((with_reducible refine gate_dst (N := 3) rfl ?_); refine box_event ?hg (N := 3) ?hd (cs := #[.int .i64 a1_0, .string a1_1, .slice A1_2 l1_2.length c1_2, .int .i64 a1_3, .slice A1_4 l1_4.length c1_4]) (t := 35) ?hr ?_; (case hd => rfl); (case hg => rfl); (case hr => first | (go_simp; done) | (go_simp; rfl)); intro gb3350 hg w6 hbox hb; have n0_ := Aq (blk_below (g := gb3349) (o := .cells #[.string a0_0, .slice A0_1 l0_1.length c0_1, .string a0_2] 42 (0, 0)) (by (with_reducible repeat (first | refine zN ?_ _ | refine zD ?_ | refine zA ?_ _)); exact BK3349.out) hb); have n1_ := Aq (below_step (by repeat (first | (with_reducible first | exact HB.out | apply zB | apply zC | apply zE | refine below_set ?_ GE3349.out) | exact HB.out)) hb); have n2_ := Aq (hbox); have n3_ := Aq ((by rw [hg]; exact (below_size (by repeat (first | (with_reducible first | exact HB.out | apply zB | apply zC | apply zE | refine below_set ?_ GE3349.out) | exact HB.out))) : w.heap.size ≤ gb3350)); have n4_ := Aq ((by rw [hg]; exact (below_size (by repeat (first | (with_reducible first | exact HB.out | apply zB | apply zC | apply zE | refine below_set ?_ GE3349.out) | exact HB.out))) : w.heap.size ≤ gb3350)); have n5_ := Aq ((by rw [hg]; exact Nat.ne_of_lt (blk_lt (g := gb3349) (o := .cells #[.string a0_0, .slice A0_1 l0_1.length c0_1, .string a0_2] 42 (0, 0)) (by (with_reducible repeat (first | refine zN ?_ _ | refine zD ?_ | refine zA ?_ _)); exact BK3349.out)) : gb3349 ≠ gb3350)); have n6_ := Aq ((by rw [hg]; exact Nat.ne_of_gt (blk_lt (g := gb3349) (o := .cells #[.string a0_0, .slice A0_1 l0_1.length c0_1, .string a0_2] 42 (0, 0)) (by (with_reducible repeat (first | refine zN ?_ _ | refine zD ?_ | refine zA ?_ _)); exact BK3349.out)) : gb3350 ≠ gb3349)); clear BK3349 HB; have BK3349 := n0_; have HB := n1_; have BK3350 := n2_; have GW3350 := n3_; have GE3350 := n4_; have NB3349_3350 := n5_; have NB3350_3349 := n6_; clear n0_ n1_ n2_ n3_ n4_ n5_ n6_ hb hbox hg; have hnb7 := NB3349_3350.out; have hnc7 := NB3350_3349.out; have hcz8_0 : w6.cell? ⟨gb3349, 0, none⟩ = some (.string a0_0) := (blk_cell BK3349.out 0).trans rfl; have hcz8_1 : w6.cell? ⟨gb3349, 1, none⟩ = some (.slice A0_1 l0_1.length c0_1) := (blk_cell BK3349.out 1).trans rfl; have hcz8_2 : w6.cell? ⟨gb3349, 2, none⟩ = some (.string a0_2) := (blk_cell BK3349.out 2).trans rfl; have hfz8_0 := blk_frozen BK3349.out 0; have hfz8_1 := blk_frozen BK3349.out 1; have hfz8_2 := blk_frozen BK3349.out 2; have hcz9_0 : w6.cell? ⟨gb3350, 0, none⟩ = some (.int .i64 a1_0) := (blk_cell BK3350.out 0).trans rfl; have hcz9_1 : w6.cell? ⟨gb3350, 1, none⟩ = some (.string a1_1) := (blk_cell BK3350.out 1).trans rfl; have hcz9_2 : w6.cell? ⟨gb3350, 2, none⟩ = some (.slice A1_2 l1_2.length c1_2) := (blk_cell BK3350.out 2).trans rfl; have hcz9_3 : w6.cell? ⟨gb3350, 3, none⟩ = some (.int .i64 a1_3) := (blk_cell BK3350.out 3).trans rfl; have hcz9_4 : w6.cell? ⟨gb3350, 4, none⟩ = some (.slice A1_4 l1_4.length c1_4) := (blk_cell BK3350.out 4).trans rfl; have hfz9_0 := blk_frozen BK3350.out 0; have hfz9_1 := blk_frozen BK3350.out 1; have hfz9_2 := blk_frozen BK3350.out 2; have hfz9_3 := blk_frozen BK3350.out 3; have hfz9_4 := blk_frozen BK3350.out 4) | (go_at_call 83; (with_reducible refine (spec_l2Within.calls k _ _ l0_1 _ _ l1_2 t3351 _ ?side1 ?side2 ?side3 ?side4 A4.out).mono ?_); (case side1 => repeat (first | exact (Kd.C_below HR0_1.out HB.out) | (with_reducible refine Kd.C_alloc ?_ _) | (with_reducible refine Kd.C_drewN ?_ _) | (with_reducible refine Kd.C_drew ?_))); (case side2 => exact HC0_1.out); (case side3 => repeat (first | exact (Kd.C_below HR1_2.out HB.out) | (with_reducible refine Kd.C_alloc ?_ _) | (with_reducible refine Kd.C_drewN ?_ _) | (with_reducible refine Kd.C_drew ?_))); (case side4 => exact HC1_2.out); rintro e w' ⟨rfl, ⟨nd, rfl⟩⟩))
  go_ret
  exact ⟨by first | rfl | (simp [errW_none, errW_some] <;> rfl) | (simp [*, errW_none, errW_some] <;> rfl), by repeat (first | (with_reducible first | exact HB.out | apply zB | apply zC | apply zE | refine below_set ?_ GE3349.out | refine below_set ?_ GE3350.out) | exact HB.out)⟩
 ·rw [if_neg c3] at H
  have c3b0 : (a0_0.toList == a1_1.toList) = false := beq_eq_false_iff_ne.mpr c3
  have c3b1 : (a0_0.toList != a1_1.toList) = true := bne_iff_ne.mpr c3
  obtain rfl := Option.some.inj H
  go_enter Try.func50, Try.ntmps50
  go_wp2_with (first | ((with_reducible refine gate_dst (N := 2) rfl ?_); refine box_event ?hg (N := 2) ?hd (cs := #[.string a0_0, .slice A0_1 l0_1.length c0_1, .string a0_2]) (t := 42) ?hr ?_; (case hd => rfl); (case hg => rfl); (case hr => first | (go_simp; done) | (go_simp; rfl)); intro gb3349 hg w10 hbox hb; have n0_ := Aq (below_step (by repeat (first | (with_reducible first | exact HB.out | apply zB | apply zC | apply zE) | exact HB.out)) hb); have n1_ := Aq (hbox); have n2_ := Aq ((by rw [hg]; exact (below_size (by repeat (first | (with_reducible first | exact HB.out | apply zB | apply zC | apply zE) | exact HB.out))) : w.heap.size ≤ gb3349)); have n3_ := Aq ((by rw [hg]; exact (below_size (by repeat (first | (with_reducible first | exact HB.out | apply zB | apply zC | apply zE) | exact HB.out))) : w.heap.size ≤ gb3349)); clear HB; have HB := n0_; have BK3349 := n1_; have GW3349 := n2_; have GE3349 := n3_; clear n0_ n1_ n2_ n3_ hb hbox hg) | ((with_reducible refine gate_dst (N := 3) rfl ?_); refine box_event ?hg (N := 3) ?hd (cs := #[.int .i64 a1_0, .string a1_1, .slice A1_2 l1_2.length c1_2, .int .i64 a1_3, .slice A1_4 l1_4.length c1_4]) (t := 35) ?hr ?_; (case hd => rfl); (case hg => rfl); (case hr => first | (go_simp; done) | (go_simp; rfl)); intro gb3350 hg w11 hbox hb; have n0_ := Aq (blk_below (g := gb3349) (o := .cells #[.string a0_0, .slice A0_1 l0_1.length c0_1, .string a0_2] 42 (0, 0)) (by (with_reducible repeat (first | refine zN ?_ _ | refine zD ?_ | refine zA ?_ _)); exact BK3349.out) hb); have n1_ := Aq (below_step (by repeat (first | (with_reducible first | exact HB.out | apply zB | apply zC | apply zE | refine below_set ?_ GE3349.out) | exact HB.out)) hb); have n2_ := Aq (hbox); have n3_ := Aq ((by rw [hg]; exact (below_size (by repeat (first | (with_reducible first | exact HB.out | apply zB | apply zC | apply zE | refine below_set ?_ GE3349.out) | exact HB.out))) : w.heap.size ≤ gb3350)); have n4_ := Aq ((by rw [hg]; exact (below_size (by repeat (first | (with_reducible first | exact HB.out | apply zB | apply zC | apply zE | refine below_set ?_ GE3349.out) | exact HB.out))) : w.heap.size ≤ gb3350)); have n5_ := Aq ((by rw [hg]; exact Nat.ne_of_lt (blk_lt (g := gb3349) (o := .cells #[.string a0_0, .slice A0_1 l0_1.length c0_1, .string a0_2] 42 (0, 0)) (by (with_reducible repeat (first | refine zN ?_ _ | refine zD ?_ | refine zA ?_ _)); exact BK3349.out)) : gb3349 ≠ gb3350)); have n6_ := Aq ((by rw [hg]; exact Nat.ne_of_gt (blk_lt (g := gb3349) (o := .cells #[.string a0_0, .slice A0_1 l0_1.length c0_1, .string a0_2] 42 (0, 0)) (by (with_reducible repeat (first | refine zN ?_ _ | refine zD ?_ | refine zA ?_ _)); exact BK3349.out)) : gb3350 ≠ gb3349)); clear BK3349 HB; have BK3349 := n0_; have HB := n1_; have BK3350 := n2_; have GW3350 := n3_; have GE3350 := n4_; have NB3349_3350 := n5_; have NB3350_3349 := n6_; clear n0_ n1_ n2_ n3_ n4_ n5_ n6_ hb hbox hg; have hnb12 := NB3349_3350.out; have hnc12 := NB3350_3349.out; have hcz13_0 : w11.cell? ⟨gb3349, 0, none⟩ = some (.string a0_0) := (blk_cell BK3349.out 0).trans rfl; have hcz13_1 : w11.cell? ⟨gb3349, 1, none⟩ = some (.slice A0_1 l0_1.length c0_1) := (blk_cell BK3349.out 1).trans rfl; have hcz13_2 : w11.cell? ⟨gb3349, 2, none⟩ = some (.string a0_2) := (blk_cell BK3349.out 2).trans rfl; have hfz13_0 := blk_frozen BK3349.out 0; have hfz13_1 := blk_frozen BK3349.out 1; have hfz13_2 := blk_frozen BK3349.out 2; have hcz14_0 : w11.cell? ⟨gb3350, 0, none⟩ = some (.int .i64 a1_0) := (blk_cell BK3350.out 0).trans rfl; have hcz14_1 : w11.cell? ⟨gb3350, 1, none⟩ = some (.string a1_1) := (blk_cell BK3350.out 1).trans rfl; have hcz14_2 : w11.cell? ⟨gb3350, 2, none⟩ = some (.slice A1_2 l1_2.length c1_2) := (blk_cell BK3350.out 2).trans rfl; have hcz14_3 : w11.cell? ⟨gb3350, 3, none⟩ = some (.int .i64 a1_3) := (blk_cell BK3350.out 3).trans rfl; have hcz14_4 : w11.cell? ⟨gb3350, 4, none⟩ = some (.slice A1_4 l1_4.length c1_4) := (blk_cell BK3350.out 4).trans rfl; have hfz14_0 := blk_frozen BK3350.out 0; have hfz14_1 := blk_frozen BK3350.out 1; have hfz14_2 := blk_frozen BK3350.out 2; have hfz14_3 := blk_frozen BK3350.out 3; have hfz14_4 := blk_frozen BK3350.out 4))
  go_ret
  exact ⟨by first | rfl | (simp [errW_none, errW_some] <;> rfl) | (simp [*, errW_none, errW_some] <;> rfl), by repeat (first | (with_reducible first | exact HB.out | apply zB | apply zC | apply zE | refine below_set ?_ GE3349.out | refine below_set ?_ GE3350.out) | exact HB.out)⟩
def spec_l2All.l0 : Nat → List (S42) → List Int → Int → Int → ByteArray → List Int → Int → List (S35) → Option (Bool)
 | 0, _, _, _, _, _, _, _, _ => none
 | k + 1, x0, x2, x7, x3353000, x3353001, x3353002, x3353003, x3353004 => if x7 < (x0.length : Int) then (if 0 ≤ x7 then ((spec_l2Fits.f k ((rd_T42 x0 x7).f0) ((rd_T42 x0 x7).f1) ((rd_T42 x0 x7).f2) x3353000 x3353001 x3353002 x3353003 x3353004).bind fun t3354 => (if t3354 = true then ((spec_l2Within.f k ((rd_T42 x0 x7).f1) x2).bind fun t3356 => (if t3356 = true then (spec_l2All.l0 k x0 x2 (wrap64 (x7 + 1)) x3353000 x3353001 x3353002 x3353003 x3353004) else (some false))) else (spec_l2All.l0 k x0 x2 (wrap64 (x7 + 1)) x3353000 x3353001 x3353002 x3353003 x3353004))) else (none)) else (some true)
def spec_l2All.f (k : Nat) (l0 : List (S42)) (a1_0 : Int) (a1_1 : ByteArray) (l1_2 : List Int) (a1_3 : Int) (l1_4 : List (S35)) (l2 : List Int) : Option (Bool) := spec_l2All.l0 k l0 l2 0 a1_0 a1_1 l1_2 a1_3 l1_4
theorem spec_l2All.mono_l : ∀ k, (∀ y0 y1 y2 y3 y4 y5 y6 y7, LeO (spec_l2All.l0 k y0 y1 y2 y3 y4 y5 y6 y7) (spec_l2All.l0 (k + 1) y0 y1 y2 y3 y4 y5 y6 y7))
 | 0 => fun _ _ _ _ _ _ _ _ r h => by simp [spec_l2All.l0] at h
 | k + 1 => by
  have ih0 := spec_l2All.mono_l k
  ·intro y0 y1 y2 y3 y4 y5 y6 y7
   unfold spec_l2All.l0
   repeat' first
   | (with_reducible exact ih0 _ _ _ _ _ _ _ _)
   | (with_reducible exact spec_l2Fits.mono _ _ _ _ _ _ _ _ _)
   | (with_reducible exact spec_l2Within.mono _ _ _)
   | (with_reducible exact LeO.refl _)
   | (with_reducible exact LeO.none _)
   | (with_reducible refine LeO.ite ?_ ?_)
   | (with_reducible refine LeO.bind ?_ (fun _ => ?_))
   | exact ih0 _ _ _ _ _ _ _ _
   | exact spec_l2Fits.mono _ _ _ _ _ _ _ _ _
   | exact spec_l2Within.mono _ _ _
   | exact LeO.none _
   | refine LeO.ite ?_ ?_
   | refine LeO.bind ?_ (fun _ => ?_)
theorem spec_l2All.mono : ∀ a0 a1 a2 a3 a4 a5 a6 k, LeO (spec_l2All.f k a0 a1 a2 a3 a4 a5 a6) (spec_l2All.f (k + 1) a0 a1 a2 a3 a4 a5 a6) := by
 intro a0 a1 a2 a3 a4 a5 a6 k
 have ih0 := spec_l2All.mono_l k
 unfold spec_l2All.f
 repeat' first
   | (with_reducible exact ih0 _ _ _ _ _ _ _ _)
   | (with_reducible exact spec_l2Fits.mono _ _ _ _ _ _ _ _ _)
   | (with_reducible exact spec_l2Within.mono _ _ _)
   | (with_reducible exact LeO.refl _)
   | (with_reducible exact LeO.none _)
   | (with_reducible refine LeO.ite ?_ ?_)
   | (with_reducible refine LeO.bind ?_ (fun _ => ?_))
   | exact ih0 _ _ _ _ _ _ _ _
   | exact spec_l2Fits.mono _ _ _ _ _ _ _ _ _
   | exact spec_l2Within.mono _ _ _
   | exact LeO.none _
   | refine LeO.ite ?_ ?_
   | refine LeO.bind ?_ (fun _ => ?_)
def spec_l2All.T4 : Bool × List (List Nat × List Nat) := (true, [([], []), ([], []), ([0, 1], [0, 1]), ([2], [2]), ([], []), ([3, 4], [3, 4]), ([5, 5], [5]), ([6], [6]), ([6], [6]), ([7, 8, 6], [6, 7, 8]), ([9, 6], [6, 9]), ([10, 6], [6, 10]), ([6], [6]), ([11, 12, 6, 6], [6, 11, 12]), ([13, 6], [6, 13]), ([6, 14], [6, 14])])
def spec_l2All.B4 : List Nat := [0, 0, 3, 7, 0, 31, 63, 127, 127, 511, 1023, 2047, 127, 8191, 16383, 32767]
theorem spec_l2All.tab4 : rtab .any (opsOf Try.f51 4) = spec_l2All.T4 := by kernel_rfl
theorem spec_l2All.bits4 : waitsOk spec_l2All.T4.2 spec_l2All.B4 = true := by kernel_rfl
set_option maxHeartbeats 8000000 in
set_option maxRecDepth 100000 in
theorem spec_l2All.calls (k : Nat) (A0 : Option Addr) (c0 : Nat) (l0 : List (S42)) (a1_0 : Int) (a1_1 : ByteArray) (A1_2 : Option Addr) (c1_2 : Nat) (l1_2 : List Int) (a1_3 : Int) (A1_4 : Option Addr) (c1_4 : Nat) (l1_4 : List (S35)) (A2 : Option Addr) (c2 : Nat) (l2 : List Int) (r : Bool) (w : World) (hr0 : Kd.C k42 w A0 l0.length l0) (hc0 : l0.length ≤ c0) (hr1_2 : Kd.C (Kd.int .i64) w A1_2 l1_2.length l1_2) (hc1_2 : l1_2.length ≤ c1_2) (hr1_4 : Kd.C k35 w A1_4 l1_4.length l1_4) (hc1_4 : l1_4.length ≤ c1_4) (hr2 : Kd.C (Kd.int .i64) w A2 l2.length l2) (hc2 : l2.length ≤ c2) (h : spec_l2All.f k l0 a1_0 a1_1 l1_2 a1_3 l1_4 l2 = some r) :
  Calls Try.prog 51 #[.slice A0 l0.length c0, .agg #[.int .i64 a1_0, .string a1_1, .slice A1_2 l1_2.length c1_2, .int .i64 a1_3, .slice A1_4 l1_4.length c1_4], .slice A2 l2.length c2] w fun e w' => e = .returned (.bool r) ∧ Below w.heap.size w w' := by
 have hu35 := Try.underlying35
 have hu42 := Try.underlying42
 have HR0 := Aq hr0
 have HC0 := Aq hc0
 clear hr0 hc0
 have HR1_2 := Aq hr1_2
 have HC1_2 := Aq hc1_2
 clear hr1_2 hc1_2
 have HR1_4 := Aq hr1_4
 have HC1_4 := Aq hc1_4
 clear hr1_4 hc1_4
 have HR2 := Aq hr2
 have HC2 := Aq hc2
 clear hr2 hc2
 have HB := Aq (Below.refl w.heap.size w)
 have H : (spec_l2All.l0 k l0 l2 0 a1_0 a1_1 l1_2 a1_3 l1_4) = some r := h
 clear h
 have H' := Aq H
 clear H
 go_enter Try.func51, Try.ntmps51
 go_wp2_with (first | ((with_reducible refine gate_dst (N := 4) rfl ?_); refine box_event ?hg (N := 4) ?hd (cs := #[.int .i64 a1_0, .string a1_1, .slice A1_2 l1_2.length c1_2, .int .i64 a1_3, .slice A1_4 l1_4.length c1_4]) (t := 35) ?hr ?_; (case hd => rfl); (case hg => rfl); (case hr => first | (go_simp; done) | (go_simp; rfl)); intro gb3352 hg w4 hbox hb; have n0_ := Aq (below_step (by repeat (first | (with_reducible first | exact HB.out | apply zB | apply zC | apply zE) | exact HB.out)) hb); have n1_ := Aq (hbox); have n2_ := Aq ((by rw [hg]; exact (below_size (by repeat (first | (with_reducible first | exact HB.out | apply zB | apply zC | apply zE) | exact HB.out))) : w.heap.size ≤ gb3352)); have n3_ := Aq ((by rw [hg]; exact (below_size (by repeat (first | (with_reducible first | exact HB.out | apply zB | apply zC | apply zE) | exact HB.out))) : w.heap.size ≤ gb3352)); clear HB; have HB := n0_; have BK3352 := n1_; have GW3352 := n2_; have GE3352 := n3_; clear n0_ n1_ n2_ n3_ hb hbox hg))
 go_loopg [7] k (fun kq v7 w' => ∃ (x7_1 : Int), v7 = .int .i64 x7_1 ∧ Aside0 (spec_l2All.l0 kq l0 l2 x7_1 a1_0 a1_1 l1_2 a1_3 l1_4 = some r) ∧ Aside0 (kq ≤ k) ∧ Aside0 (w'.heap[gb3352]? = some (.cells #[.int .i64 a1_0, .string a1_1, (.slice A1_2 l1_2.length c1_2), .int .i64 a1_3, (.slice A1_4 l1_4.length c1_4)] 35 (0, 0))) ∧ Aside0 (Below w.heap.size w w'))
 case atStart => exact ⟨(0), (by first | rfl | (simp; done) | (simp [*]; done)), H', ⟨Nat.le_refl _⟩, ⟨by (with_reducible repeat (first | refine zN ?_ _ | refine zD ?_ | refine zA ?_ _)); exact BK3352.out⟩, ⟨by repeat (first | (with_reducible first | exact HB.out | apply zB | apply zC | apply zE | refine below_set ?_ GE3352.out) | exact HB.out)⟩⟩
 case round =>
  clear H'
  try clear c1
  try clear c2
  try clear p2
  obtain ⟨x7_1, rfl, HA, HK1, BK3352, HB⟩ := hrel
  cases gk with
  | zero => exact absurd HA.out (by simp [spec_l2All.l0])
  | succ k1 =>
   have H := HA.out
   clear HA
   simp only [spec_l2All.l0] at H
   by_cases c5 : x7_1 < (l0.length : Int)
   ·rw [if_pos c5] at H
    have c5b0 : decide (x7_1 < (l0.length : Int)) = true := decide_eq_true c5
    clear c5
    by_cases c6 : 0 ≤ x7_1
    ·rw [if_pos c6] at H
     have c6b0 : decide (0 ≤ x7_1) = true := decide_eq_true c6
     clear c6
     replace H := Option.bind_eq_some_iff.mp H
     obtain ⟨t3354, A70, H⟩ := H
     replace H : (if t3354 = true then ((spec_l2Within.f k1 ((rd_T42 l0 x7_1).f1) l2).bind fun t3356 => (if t3356 = true then (spec_l2All.l0 k1 l0 l2 (wrap64 (x7_1 + 1)) a1_0 a1_1 l1_2 a1_3 l1_4) else (some false))) else (spec_l2All.l0 k1 l0 l2 (wrap64 (x7_1 + 1)) a1_0 a1_1 l1_2 a1_3 l1_4)) = some r := H
     have A7 := Aq A70
     clear A70
     by_cases c8 : t3354 = true
     ·subst c8
      have H1 : ((spec_l2Within.f k1 ((rd_T42 l0 x7_1).f1) l2).bind fun t3356 => (if t3356 = true then (spec_l2All.l0 k1 l0 l2 (wrap64 (x7_1 + 1)) a1_0 a1_1 l1_2 a1_3 l1_4) else (some false))) = some r := by rw [if_pos rfl] at H; exact H
      clear H
      have H := H1
      clear H1
      replace H := Option.bind_eq_some_iff.mp H
      obtain ⟨t3356, A90, H⟩ := H
      replace H : (if t3356 = true then (spec_l2All.l0 k1 l0 l2 (wrap64 (x7_1 + 1)) a1_0 a1_1 l1_2 a1_3 l1_4) else (some false)) = some r := H
      have A9 := Aq A90
      clear A90
      by_cases c10 : t3356 = true
      ·subst c10
       have H1 : (spec_l2All.l0 k1 l0 l2 (wrap64 (x7_1 + 1)) a1_0 a1_1 l1_2 a1_3 l1_4) = some r := by rw [if_pos rfl] at H; exact H
       clear H
       have H := H1
       clear H1
       have H' := Aq H
       clear H
       try go_wp2
       have n0_ := Aq (zD BK3352.out)
       have n1_ := Aq (zE HB.out)
       clear BK3352 HB
       have BK3352 := n0_
       have HB := n1_
       clear n0_ n1_
       have p3353 : 0 ≤ (x7_1 : Int) := of_decide_eq_true (by first | (with_reducible assumption) | assumption)
       have q3353 : x7_1 < (l0.length : Int) := of_decide_eq_true (by first | (with_reducible assumption) | assumption)
       obtain ⟨ad3353, A3353_1, c3353_1, e3353, hx3353_0, hx3353_1, hx3353_2, hl3353_1, hi3353_1⟩ := at_T42 HR0.out x7_1 p3353 q3353
       have hw3353_2 := hx3353_2
       have hw3353_1 := hx3353_1
       have hw3353_0 := hx3353_0
       cases e3353
       replace hx3353_0 := (HB.out.cell (World.block_lt_of_cell? w _ hx3353_0)).trans hx3353_0
       replace hx3353_1 := (HB.out.cell (World.block_lt_of_cell? w _ hx3353_1)).trans hx3353_1
       replace hx3353_2 := (HB.out.cell (World.block_lt_of_cell? w _ hx3353_2)).trans hx3353_2
       have HR3353_1 := Aq hi3353_1
       have HC3353_1 := Aq hl3353_1
       clear hi3353_1 hl3353_1
       replace p3353 := eq_true p3353
       replace q3353 := eq_true q3353
       have p3355 : 0 ≤ (x7_1 : Int) := of_decide_eq_true (by first | (with_reducible assumption) | assumption)
       have q3355 : x7_1 < (l0.length : Int) := of_decide_eq_true (by first | (with_reducible assumption) | assumption)
       obtain ⟨ad3355, A3355_1, c3355_1, e3355, hx3355_0, hx3355_1, hx3355_2, hl3355_1, hi3355_1⟩ := at_T42 HR0.out x7_1 p3355 q3355
       have hw3355_2 := hx3355_2
       have hw3355_1 := hx3355_1
       have hw3355_0 := hx3355_0
       obtain rfl : ad3353 = ad3355 := (by injection e3355)
       obtain ⟨rfl, rfl⟩ : A3353_1 = A3355_1 ∧ c3353_1 = c3355_1 := (by have hq_ := Option.some.inj (hw3353_1.symm.trans hw3355_1); injection hq_ with hqa_ hqn_ hqc_; exact ⟨hqa_, hqc_⟩)
       replace hx3355_0 := (HB.out.cell (World.block_lt_of_cell? w _ hx3355_0)).trans hx3355_0
       replace hx3355_1 := (HB.out.cell (World.block_lt_of_cell? w _ hx3355_1)).trans hx3355_1
       replace hx3355_2 := (HB.out.cell (World.block_lt_of_cell? w _ hx3355_2)).trans hx3355_2
       have HR3355_1 := Aq hi3355_1
       have HC3355_1 := Aq hl3355_1
       clear hi3355_1 hl3355_1
       replace p3355 := eq_true p3355
       replace q3355 := eq_true q3355
       refine start_ (n := 16) (S := fun w' => w'.cell? ⟨gb3352, 0, none⟩ = some (.int .i64 a1_0) ∧ w'.cell? ⟨gb3352, 1, none⟩ = some (.string a1_1) ∧ w'.cell? ⟨gb3352, 2, none⟩ = some (.slice A1_2 l1_2.length c1_2) ∧ w'.cell? ⟨gb3352, 3, none⟩ = some (.int .i64 a1_3) ∧ w'.cell? ⟨gb3352, 4, none⟩ = some (.slice A1_4 l1_4.length c1_4) ∧ w'.cell? (ad3353.add ((x7_1).toNat * 3)) = some (.string ((rd_T42 l0 x7_1).f0)) ∧ w'.cell? ⟨(ad3353.add ((x7_1).toNat * 3)).block, (ad3353.add ((x7_1).toNat * 3)).off + 1, none⟩ = some (.slice A3353_1 ((rd_T42 l0 x7_1).f1).length c3353_1) ∧ w'.cell? ⟨(ad3353.add ((x7_1).toNat * 3)).block, (ad3353.add ((x7_1).toNat * 3)).off + 2, none⟩ = some (.string ((rd_T42 l0 x7_1).f2)) ∧ w'.cell? (ad3353.add ((x7_1).toNat * 3)) = some (.string ((rd_T42 l0 x7_1).f0)) ∧ w'.cell? ⟨(ad3353.add ((x7_1).toNat * 3)).block, (ad3353.add ((x7_1).toNat * 3)).off + 1, none⟩ = some (.slice A3353_1 ((rd_T42 l0 x7_1).f1).length c3353_1) ∧ w'.cell? ⟨(ad3353.add ((x7_1).toNat * 3)).block, (ad3353.add ((x7_1).toNat * 3)).off + 2, none⟩ = some (.string ((rd_T42 l0 x7_1).f2))) (ds := []) #[false, false, false, false, false, false, false, false, false, false, false, false, false, false, false, false] (by kernel_rfl) rfl rfl ⟨(blk_cell BK3352.out 0).trans rfl, (blk_cell BK3352.out 1).trans rfl, (blk_cell BK3352.out 2).trans rfl, (blk_cell BK3352.out 3).trans rfl, (blk_cell BK3352.out 4).trans rfl, ((HB.out.cell (World.block_lt_of_cell? w _ hw3353_0)).trans hw3353_0), ((HB.out.cell (World.block_lt_of_cell? w _ hw3353_1)).trans hw3353_1), ((HB.out.cell (World.block_lt_of_cell? w _ hw3353_2)).trans hw3353_2), ((HB.out.cell (World.block_lt_of_cell? w _ hw3355_0)).trans hw3355_0), ((HB.out.cell (World.block_lt_of_cell? w _ hw3355_1)).trans hw3355_1), ((HB.out.cell (World.block_lt_of_cell? w _ hw3355_2)).trans hw3355_2)⟩ (fun hHeld => ?_); refine with_tabW spec_l2All.tab4 spec_l2All.bits4 (fun HT_ HW_ => ?_)
       generalize wr.drew = w11 at BK3352 HB HR3353_1 HR3355_1 hx3353_0 hx3353_1 hx3353_2 hx3355_0 hx3355_1 hx3355_2 hHeld ⊢
       refine pure_ (i := 0) (N := some 14) (v := ?_) (a' := ?_) #[true, false, false, false, false, false, false, false, false, false, false, false, false, false, false, false] rfl rfl (any_of HT_.out (by kernel_rfl)) (fun _ _ _ h => h) (Or.inl ⟨by rfl, ?_⟩) ?_ ?_
       rotate_left
       ·intro w'
        go_simp
        with_reducible rfl
       rotate_left
       ·simp only [Act.put, sA, sB, sC, i64_w, i32_w]
        rfl
       refine pure_ (i := 1) (N := some 15) (v := ?_) (a' := ?_) #[true, true, false, false, false, false, false, false, false, false, false, false, false, false, false, false] rfl rfl (any_of HT_.out (by kernel_rfl)) (fun _ _ _ h => h) (Or.inl ⟨by rfl, ?_⟩) ?_ ?_
       rotate_left
       ·intro w'
        go_simp
        with_reducible rfl
       rotate_left
       ·simp only [Act.put, sA, sB, sC, i64_w, i32_w]
        rfl
       refine pure_ (i := 2) (N := some 16) (v := ?_) (a' := ?_) #[true, true, true, false, false, false, false, false, false, false, false, false, false, false, false, false] rfl rfl (any_of HT_.out (by kernel_rfl)) (fun _ _ _ h => h) (Or.inl ⟨by rfl, ?_⟩) ?_ ?_
       rotate_left
       ·intro w'
        go_simp
        with_reducible rfl
       rotate_left
       ·simp only [Act.put, sA, sB, sC, i64_w, i32_w]
        rfl
       refine take_ (i := 3) (N := some 17) (v := ?_) (a' := ?_) #[true, true, true, true, false, false, false, false, false, false, false, false, false, false, false, false] rfl rfl (take_ofW HT_.out HW_.out (by kernel_rfl)) (fun _ _ _ h => h) (Or.inl ⟨by rfl, ?_⟩) hHeld ?_ ?_
       rotate_left
       ·rintro w' ⟨s0, s1, s2, s3, s4, s5, s6, s7, s8, s9, s10⟩
        go_simp
        with_reducible rfl
       rotate_left
       ·simp only [Act.put, sA, sB, sC, i64_w, i32_w]
        rfl
       refine take_ (i := 4) (N := some 18) (v := ?_) (a' := ?_) #[true, true, true, true, true, false, false, false, false, false, false, false, false, false, false, false] rfl rfl (take_ofW HT_.out HW_.out (by kernel_rfl)) (fun _ _ _ h => h) (Or.inl ⟨by rfl, ?_⟩) hHeld ?_ ?_
       rotate_left
       ·rintro w' ⟨s0, s1, s2, s3, s4, s5, s6, s7, s8, s9, s10⟩
        go_simp
        with_reducible rfl
       rotate_left
       ·simp only [Act.put, sA, sB, sC, i64_w, i32_w]
        rfl
       refine one_ (i := 5) (N := some 19) #[true, true, true, true, true, true, false, false, false, false, false, false, false, false, false, false] rfl rfl (one_of HT_.out (by kernel_rfl)) (by decide) (fun K hK => ?_)
       refine goes_ Try.func50 (by kernel_rfl) rfl #[.agg #[.string ((rd_T42 l0 x7_1).f0), .slice A3353_1 ((rd_T42 l0 x7_1).f1).length c3353_1, .string ((rd_T42 l0 x7_1).f2)], .agg #[.int .i64 a1_0, .string a1_1, .slice A1_2 l1_2.length c1_2, .int .i64 a1_3, .slice A1_4 l1_4.length c1_4]] (by rfl) rfl rfl (by (try simp only [List.map_toArray, List.map_cons, List.map_nil]); first | done | rfl | (simp only [List.length_drop, List.length_take]; rfl)) ?_
       with_reducible refine (spec_l2Fits.calls k1 ((rd_T42 l0 x7_1).f0) _ _ ((rd_T42 l0 x7_1).f1) ((rd_T42 l0 x7_1).f2) a1_0 a1_1 _ _ l1_2 a1_3 _ _ l1_4 true _ ?side1 ?side2 ?side3 ?side4 ?side5 ?side6 A7.out).mono ?_
       (case side1 => repeat (first | exact (Kd.C_below HR3353_1.out HB.out) | (with_reducible refine Kd.C_alloc ?_ _) | (with_reducible refine Kd.C_drewN ?_ _) | (with_reducible refine Kd.C_drew ?_)))
       (case side2 => exact HC3353_1.out)
       (case side3 => repeat (first | exact (Kd.C_below HR1_2.out HB.out) | (with_reducible refine Kd.C_alloc ?_ _) | (with_reducible refine Kd.C_drewN ?_ _) | (with_reducible refine Kd.C_drew ?_)))
       (case side4 => exact HC1_2.out)
       (case side5 => repeat (first | exact (Kd.C_below HR1_4.out HB.out) | (with_reducible refine Kd.C_alloc ?_ _) | (with_reducible refine Kd.C_drewN ?_ _) | (with_reducible refine Kd.C_drew ?_)))
       (case side6 => exact HC1_4.out)
       rintro e w12 ⟨rfl, hb⟩
       refine ⟨_, rfl, ?_⟩
       have n0_ := Aq (blk_below (g := gb3352) (o := .cells #[.int .i64 a1_0, .string a1_1, .slice A1_2 l1_2.length c1_2, .int .i64 a1_3, .slice A1_4 l1_4.length c1_4] 35 (0, 0)) (by (with_reducible repeat (first | refine zN ?_ _ | refine zD ?_ | refine zA ?_ _)); exact BK3352.out) hb)
       have n1_ := Aq (below_step (by repeat (first | (with_reducible first | exact HB.out | apply zB | apply zC | apply zE | refine below_set ?_ GE3352.out) | exact HB.out)) hb)
       clear BK3352 HB
       have BK3352 := n0_
       have HB := n1_
       clear n0_ n1_
       (try clear hb)
       (try clear hb2)
       (try clear hk)
       (try clear hi)
       refine hK.out _ _ ⟨(blk_cell BK3352.out 0).trans rfl, (blk_cell BK3352.out 1).trans rfl, (blk_cell BK3352.out 2).trans rfl, (blk_cell BK3352.out 3).trans rfl, (blk_cell BK3352.out 4).trans rfl, ((HB.out.cell (World.block_lt_of_cell? w _ hw3353_0)).trans hw3353_0), ((HB.out.cell (World.block_lt_of_cell? w _ hw3353_1)).trans hw3353_1), ((HB.out.cell (World.block_lt_of_cell? w _ hw3353_2)).trans hw3353_2), ((HB.out.cell (World.block_lt_of_cell? w _ hw3355_0)).trans hw3355_0), ((HB.out.cell (World.block_lt_of_cell? w _ hw3355_1)).trans hw3355_1), ((HB.out.cell (World.block_lt_of_cell? w _ hw3355_2)).trans hw3355_2)⟩ (fun hHeld => ?_)
       clear hK K
       refine norm_ (a' := ?_) ?_ ?_
       rotate_left
       ·show Act.put _ (some 19) _ = _
        simp only [Act.put, sA, sB, sC, i64_w, i32_w]
        rfl
       refine pure_ (i := 6) (N := some 20) (v := ?_) (a' := ?_) #[true, true, true, true, true, true, true, false, false, false, false, false, false, false, false, false] rfl rfl (any_of HT_.out (by kernel_rfl)) (fun _ _ _ h => h) (Or.inl ⟨by rfl, ?_⟩) ?_ ?_
       rotate_left
       ·intro w'
        go_simp
        with_reducible rfl
       rotate_left
       ·simp only [Act.put, sA, sB, sC, i64_w, i32_w]
        rfl
       refine pure_ (i := 7) (N := some 21) (v := ?_) (a' := ?_) #[true, true, true, true, true, true, true, true, false, false, false, false, false, false, false, false] rfl rfl (any_of HT_.out (by kernel_rfl)) (fun _ _ _ h => h) (Or.inl ⟨by rfl, ?_⟩) ?_ ?_
       rotate_left
       ·intro w'
        go_simp
        with_reducible rfl
       rotate_left
       ·simp only [Act.put, sA, sB, sC, i64_w, i32_w]
        rfl
       refine pure_ (i := 8) (N := some 22) (v := ?_) (a' := ?_) #[true, true, true, true, true, true, true, true, true, false, false, false, false, false, false, false] rfl rfl (any_of HT_.out (by kernel_rfl)) (fun _ _ _ h => h) (Or.inl ⟨by rfl, ?_⟩) ?_ ?_
       rotate_left
       ·intro w'
        go_simp
        with_reducible rfl
       rotate_left
       ·simp only [Act.put, sA, sB, sC, i64_w, i32_w]
        rfl
       refine pure_ (i := 9) (N := some 23) (v := ?_) (a' := ?_) #[true, true, true, true, true, true, true, true, true, true, false, false, false, false, false, false] rfl rfl (any_of HT_.out (by kernel_rfl)) (fun _ _ _ h => h) (Or.inl ⟨by rfl, ?_⟩) ?_ ?_
       rotate_left
       ·intro w'
        go_simp
        with_reducible rfl
       rotate_left
       ·simp only [Act.put, sA, sB, sC, i64_w, i32_w]
        rfl
       refine pure_ (i := 10) (N := some 24) (v := ?_) (a' := ?_) #[true, true, true, true, true, true, true, true, true, true, true, false, false, false, false, false] rfl rfl (any_of HT_.out (by kernel_rfl)) (fun _ _ _ h => h) (Or.inl ⟨by rfl, ?_⟩) ?_ ?_
       rotate_left
       ·intro w'
        go_simp
        with_reducible rfl
       rotate_left
       ·simp only [Act.put, sA, sB, sC, i64_w, i32_w]
        rfl
       refine pure_ (i := 12) (N := some 26) (v := ?_) (a' := ?_) #[true, true, true, true, true, true, true, true, true, true, true, false, true, false, false, false] rfl rfl (any_of HT_.out (by kernel_rfl)) (fun _ _ _ h => h) (Or.inl ⟨by rfl, ?_⟩) ?_ ?_
       rotate_left
       ·intro w'
        go_simp
        with_reducible rfl
       rotate_left
       ·simp only [Act.put, sA, sB, sC, i64_w, i32_w]
        rfl
       refine take_ (i := 11) (N := some 25) (v := ?_) (a' := ?_) #[true, true, true, true, true, true, true, true, true, true, true, true, true, false, false, false] rfl rfl (take_ofW HT_.out HW_.out (by kernel_rfl)) (fun _ _ _ h => h) (Or.inl ⟨by rfl, ?_⟩) hHeld ?_ ?_
       rotate_left
       ·rintro w' ⟨s0, s1, s2, s3, s4, s5, s6, s7, s8, s9, s10⟩
        go_simp
        with_reducible rfl
       rotate_left
       ·simp only [Act.put, sA, sB, sC, i64_w, i32_w]
        rfl
       refine one_ (i := 13) (N := some 27) #[true, true, true, true, true, true, true, true, true, true, true, true, true, true, false, false] rfl rfl (one_of HT_.out (by kernel_rfl)) (by decide) (fun K hK => ?_)
       refine goes_ Try.func83 (by kernel_rfl) rfl #[.slice A3353_1 ((rd_T42 l0 x7_1).f1).length c3353_1, .slice A2 l2.length c2] (by rfl) rfl rfl (by (try simp only [List.map_toArray, List.map_cons, List.map_nil]); first | done | rfl | (simp only [List.length_drop, List.length_take]; rfl)) ?_
       with_reducible refine (spec_l2Within.calls k1 _ _ ((rd_T42 l0 x7_1).f1) _ _ l2 true _ ?side1 ?side2 ?side3 ?side4 A9.out).mono ?_
       (case side1 => repeat (first | exact (Kd.C_below HR3355_1.out HB.out) | (with_reducible refine Kd.C_alloc ?_ _) | (with_reducible refine Kd.C_drewN ?_ _) | (with_reducible refine Kd.C_drew ?_)))
       (case side2 => exact HC3355_1.out)
       (case side3 => repeat (first | exact (Kd.C_below HR2.out HB.out) | (with_reducible refine Kd.C_alloc ?_ _) | (with_reducible refine Kd.C_drewN ?_ _) | (with_reducible refine Kd.C_drew ?_)))
       (case side4 => exact HC2.out)
       rintro e w' ⟨rfl, ⟨nd, rfl⟩⟩
       refine ⟨_, rfl, ?_⟩
       refine hK.out _ _ ⟨(blk_cell BK3352.out 0).trans rfl, (blk_cell BK3352.out 1).trans rfl, (blk_cell BK3352.out 2).trans rfl, (blk_cell BK3352.out 3).trans rfl, (blk_cell BK3352.out 4).trans rfl, ((HB.out.cell (World.block_lt_of_cell? w _ hw3353_0)).trans hw3353_0), ((HB.out.cell (World.block_lt_of_cell? w _ hw3353_1)).trans hw3353_1), ((HB.out.cell (World.block_lt_of_cell? w _ hw3353_2)).trans hw3353_2), ((HB.out.cell (World.block_lt_of_cell? w _ hw3355_0)).trans hw3355_0), ((HB.out.cell (World.block_lt_of_cell? w _ hw3355_1)).trans hw3355_1), ((HB.out.cell (World.block_lt_of_cell? w _ hw3355_2)).trans hw3355_2)⟩ (fun hHeld => ?_)
       clear hK K
       refine norm_ (a' := ?_) ?_ ?_
       rotate_left
       ·show Act.put _ (some 27) _ = _
        simp only [Act.put, sA, sB, sC, i64_w, i32_w]
        rfl
       refine pure_ (i := 14) (N := some 28) (v := ?_) (a' := ?_) #[true, true, true, true, true, true, true, true, true, true, true, true, true, true, true, false] rfl rfl (any_of HT_.out (by kernel_rfl)) (fun _ _ _ h => h) (Or.inl ⟨by rfl, ?_⟩) ?_ ?_
       rotate_left
       ·intro w'
        go_simp
        with_reducible rfl
       rotate_left
       ·simp only [Act.put, sA, sB, sC, i64_w, i32_w]
        rfl
       refine pure_ (i := 15) (N := some 29) (v := ?_) (a' := ?_) #[true, true, true, true, true, true, true, true, true, true, true, true, true, true, true, true] rfl rfl (any_of HT_.out (by kernel_rfl)) (fun _ _ _ h => h) (Or.inl ⟨by rfl, ?_⟩) ?_ ?_
       rotate_left
       ·intro w'
        go_simp
        with_reducible rfl
       rotate_left
       ·simp only [Act.put, sA, sB, sC, i64_w, i32_w]
        rfl
       refine done_ (done_of HT_.out (by kernel_rfl)) ?_
       try go_wp2
       go_roundg k1
       case measure => have := HK1.out; omega
       case rel => exact ⟨(wrap64 (x7_1 + 1)), (by first | rfl | (simp; done) | (simp [*]; done)), H', ⟨by have := HK1.out; omega⟩, ⟨by (with_reducible repeat (first | refine zN ?_ _ | refine zD ?_ | refine zA ?_ _)); exact BK3352.out⟩, ⟨by repeat (first | (with_reducible first | exact HB.out | apply zB | apply zC | apply zE | refine below_set ?_ GE3352.out) | exact HB.out)⟩⟩
      ·replace c10 := Bool.eq_false_iff.mpr c10
       subst c10
       have H1 : (some false) = some r := by rw [if_neg (show ¬ (false = true) by decide)] at H; exact H
       clear H
       have H := H1
       clear H1
       obtain rfl := Option.some.inj H
       try go_wp2
       have n0_ := Aq (zD BK3352.out)
       have n1_ := Aq (zE HB.out)
       clear BK3352 HB
       have BK3352 := n0_
       have HB := n1_
       clear n0_ n1_
       have p3353 : 0 ≤ (x7_1 : Int) := of_decide_eq_true (by first | (with_reducible assumption) | assumption)
       have q3353 : x7_1 < (l0.length : Int) := of_decide_eq_true (by first | (with_reducible assumption) | assumption)
       obtain ⟨ad3353, A3353_1, c3353_1, e3353, hx3353_0, hx3353_1, hx3353_2, hl3353_1, hi3353_1⟩ := at_T42 HR0.out x7_1 p3353 q3353
       have hw3353_2 := hx3353_2
       have hw3353_1 := hx3353_1
       have hw3353_0 := hx3353_0
       cases e3353
       replace hx3353_0 := (HB.out.cell (World.block_lt_of_cell? w _ hx3353_0)).trans hx3353_0
       replace hx3353_1 := (HB.out.cell (World.block_lt_of_cell? w _ hx3353_1)).trans hx3353_1
       replace hx3353_2 := (HB.out.cell (World.block_lt_of_cell? w _ hx3353_2)).trans hx3353_2
       have HR3353_1 := Aq hi3353_1
       have HC3353_1 := Aq hl3353_1
       clear hi3353_1 hl3353_1
       replace p3353 := eq_true p3353
       replace q3353 := eq_true q3353
       have p3355 : 0 ≤ (x7_1 : Int) := of_decide_eq_true (by first | (with_reducible assumption) | assumption)
       have q3355 : x7_1 < (l0.length : Int) := of_decide_eq_true (by first | (with_reducible assumption) | assumption)
       obtain ⟨ad3355, A3355_1, c3355_1, e3355, hx3355_0, hx3355_1, hx3355_2, hl3355_1, hi3355_1⟩ := at_T42 HR0.out x7_1 p3355 q3355
       have hw3355_2 := hx3355_2
       have hw3355_1 := hx3355_1
       have hw3355_0 := hx3355_0
       obtain rfl : ad3353 = ad3355 := (by injection e3355)
       obtain ⟨rfl, rfl⟩ : A3353_1 = A3355_1 ∧ c3353_1 = c3355_1 := (by have hq_ := Option.some.inj (hw3353_1.symm.trans hw3355_1); injection hq_ with hqa_ hqn_ hqc_; exact ⟨hqa_, hqc_⟩)
       replace hx3355_0 := (HB.out.cell (World.block_lt_of_cell? w _ hx3355_0)).trans hx3355_0
       replace hx3355_1 := (HB.out.cell (World.block_lt_of_cell? w _ hx3355_1)).trans hx3355_1
       replace hx3355_2 := (HB.out.cell (World.block_lt_of_cell? w _ hx3355_2)).trans hx3355_2
       have HR3355_1 := Aq hi3355_1
       have HC3355_1 := Aq hl3355_1
       clear hi3355_1 hl3355_1
       replace p3355 := eq_true p3355
       replace q3355 := eq_true q3355
       refine start_ (n := 16) (S := fun w' => w'.cell? ⟨gb3352, 0, none⟩ = some (.int .i64 a1_0) ∧ w'.cell? ⟨gb3352, 1, none⟩ = some (.string a1_1) ∧ w'.cell? ⟨gb3352, 2, none⟩ = some (.slice A1_2 l1_2.length c1_2) ∧ w'.cell? ⟨gb3352, 3, none⟩ = some (.int .i64 a1_3) ∧ w'.cell? ⟨gb3352, 4, none⟩ = some (.slice A1_4 l1_4.length c1_4) ∧ w'.cell? (ad3353.add ((x7_1).toNat * 3)) = some (.string ((rd_T42 l0 x7_1).f0)) ∧ w'.cell? ⟨(ad3353.add ((x7_1).toNat * 3)).block, (ad3353.add ((x7_1).toNat * 3)).off + 1, none⟩ = some (.slice A3353_1 ((rd_T42 l0 x7_1).f1).length c3353_1) ∧ w'.cell? ⟨(ad3353.add ((x7_1).toNat * 3)).block, (ad3353.add ((x7_1).toNat * 3)).off + 2, none⟩ = some (.string ((rd_T42 l0 x7_1).f2)) ∧ w'.cell? (ad3353.add ((x7_1).toNat * 3)) = some (.string ((rd_T42 l0 x7_1).f0)) ∧ w'.cell? ⟨(ad3353.add ((x7_1).toNat * 3)).block, (ad3353.add ((x7_1).toNat * 3)).off + 1, none⟩ = some (.slice A3353_1 ((rd_T42 l0 x7_1).f1).length c3353_1) ∧ w'.cell? ⟨(ad3353.add ((x7_1).toNat * 3)).block, (ad3353.add ((x7_1).toNat * 3)).off + 2, none⟩ = some (.string ((rd_T42 l0 x7_1).f2))) (ds := []) #[false, false, false, false, false, false, false, false, false, false, false, false, false, false, false, false] (by kernel_rfl) rfl rfl ⟨(blk_cell BK3352.out 0).trans rfl, (blk_cell BK3352.out 1).trans rfl, (blk_cell BK3352.out 2).trans rfl, (blk_cell BK3352.out 3).trans rfl, (blk_cell BK3352.out 4).trans rfl, ((HB.out.cell (World.block_lt_of_cell? w _ hw3353_0)).trans hw3353_0), ((HB.out.cell (World.block_lt_of_cell? w _ hw3353_1)).trans hw3353_1), ((HB.out.cell (World.block_lt_of_cell? w _ hw3353_2)).trans hw3353_2), ((HB.out.cell (World.block_lt_of_cell? w _ hw3355_0)).trans hw3355_0), ((HB.out.cell (World.block_lt_of_cell? w _ hw3355_1)).trans hw3355_1), ((HB.out.cell (World.block_lt_of_cell? w _ hw3355_2)).trans hw3355_2)⟩ (fun hHeld => ?_); refine with_tabW spec_l2All.tab4 spec_l2All.bits4 (fun HT_ HW_ => ?_)
       generalize wr.drew = w13 at BK3352 HB HR3353_1 HR3355_1 hx3353_0 hx3353_1 hx3353_2 hx3355_0 hx3355_1 hx3355_2 hHeld ⊢
       refine pure_ (i := 0) (N := some 14) (v := ?_) (a' := ?_) #[true, false, false, false, false, false, false, false, false, false, false, false, false, false, false, false] rfl rfl (any_of HT_.out (by kernel_rfl)) (fun _ _ _ h => h) (Or.inl ⟨by rfl, ?_⟩) ?_ ?_
       rotate_left
       ·intro w'
        go_simp
        with_reducible rfl
       rotate_left
       ·simp only [Act.put, sA, sB, sC, i64_w, i32_w]
        rfl
       refine pure_ (i := 1) (N := some 15) (v := ?_) (a' := ?_) #[true, true, false, false, false, false, false, false, false, false, false, false, false, false, false, false] rfl rfl (any_of HT_.out (by kernel_rfl)) (fun _ _ _ h => h) (Or.inl ⟨by rfl, ?_⟩) ?_ ?_
       rotate_left
       ·intro w'
        go_simp
        with_reducible rfl
       rotate_left
       ·simp only [Act.put, sA, sB, sC, i64_w, i32_w]
        rfl
       refine pure_ (i := 2) (N := some 16) (v := ?_) (a' := ?_) #[true, true, true, false, false, false, false, false, false, false, false, false, false, false, false, false] rfl rfl (any_of HT_.out (by kernel_rfl)) (fun _ _ _ h => h) (Or.inl ⟨by rfl, ?_⟩) ?_ ?_
       rotate_left
       ·intro w'
        go_simp
        with_reducible rfl
       rotate_left
       ·simp only [Act.put, sA, sB, sC, i64_w, i32_w]
        rfl
       refine take_ (i := 3) (N := some 17) (v := ?_) (a' := ?_) #[true, true, true, true, false, false, false, false, false, false, false, false, false, false, false, false] rfl rfl (take_ofW HT_.out HW_.out (by kernel_rfl)) (fun _ _ _ h => h) (Or.inl ⟨by rfl, ?_⟩) hHeld ?_ ?_
       rotate_left
       ·rintro w' ⟨s0, s1, s2, s3, s4, s5, s6, s7, s8, s9, s10⟩
        go_simp
        with_reducible rfl
       rotate_left
       ·simp only [Act.put, sA, sB, sC, i64_w, i32_w]
        rfl
       refine take_ (i := 4) (N := some 18) (v := ?_) (a' := ?_) #[true, true, true, true, true, false, false, false, false, false, false, false, false, false, false, false] rfl rfl (take_ofW HT_.out HW_.out (by kernel_rfl)) (fun _ _ _ h => h) (Or.inl ⟨by rfl, ?_⟩) hHeld ?_ ?_
       rotate_left
       ·rintro w' ⟨s0, s1, s2, s3, s4, s5, s6, s7, s8, s9, s10⟩
        go_simp
        with_reducible rfl
       rotate_left
       ·simp only [Act.put, sA, sB, sC, i64_w, i32_w]
        rfl
       refine one_ (i := 5) (N := some 19) #[true, true, true, true, true, true, false, false, false, false, false, false, false, false, false, false] rfl rfl (one_of HT_.out (by kernel_rfl)) (by decide) (fun K hK => ?_)
       refine goes_ Try.func50 (by kernel_rfl) rfl #[.agg #[.string ((rd_T42 l0 x7_1).f0), .slice A3353_1 ((rd_T42 l0 x7_1).f1).length c3353_1, .string ((rd_T42 l0 x7_1).f2)], .agg #[.int .i64 a1_0, .string a1_1, .slice A1_2 l1_2.length c1_2, .int .i64 a1_3, .slice A1_4 l1_4.length c1_4]] (by rfl) rfl rfl (by (try simp only [List.map_toArray, List.map_cons, List.map_nil]); first | done | rfl | (simp only [List.length_drop, List.length_take]; rfl)) ?_
       with_reducible refine (spec_l2Fits.calls k1 ((rd_T42 l0 x7_1).f0) _ _ ((rd_T42 l0 x7_1).f1) ((rd_T42 l0 x7_1).f2) a1_0 a1_1 _ _ l1_2 a1_3 _ _ l1_4 true _ ?side1 ?side2 ?side3 ?side4 ?side5 ?side6 A7.out).mono ?_
       (case side1 => repeat (first | exact (Kd.C_below HR3353_1.out HB.out) | (with_reducible refine Kd.C_alloc ?_ _) | (with_reducible refine Kd.C_drewN ?_ _) | (with_reducible refine Kd.C_drew ?_)))
       (case side2 => exact HC3353_1.out)
       (case side3 => repeat (first | exact (Kd.C_below HR1_2.out HB.out) | (with_reducible refine Kd.C_alloc ?_ _) | (with_reducible refine Kd.C_drewN ?_ _) | (with_reducible refine Kd.C_drew ?_)))
       (case side4 => exact HC1_2.out)
       (case side5 => repeat (first | exact (Kd.C_below HR1_4.out HB.out) | (with_reducible refine Kd.C_alloc ?_ _) | (with_reducible refine Kd.C_drewN ?_ _) | (with_reducible refine Kd.C_drew ?_)))
       (case side6 => exact HC1_4.out)
       rintro e w14 ⟨rfl, hb⟩
       refine ⟨_, rfl, ?_⟩
       have n0_ := Aq (blk_below (g := gb3352) (o := .cells #[.int .i64 a1_0, .string a1_1, .slice A1_2 l1_2.length c1_2, .int .i64 a1_3, .slice A1_4 l1_4.length c1_4] 35 (0, 0)) (by (with_reducible repeat (first | refine zN ?_ _ | refine zD ?_ | refine zA ?_ _)); exact BK3352.out) hb)
       have n1_ := Aq (below_step (by repeat (first | (with_reducible first | exact HB.out | apply zB | apply zC | apply zE | refine below_set ?_ GE3352.out) | exact HB.out)) hb)
       clear BK3352 HB
       have BK3352 := n0_
       have HB := n1_
       clear n0_ n1_
       (try clear hb)
       (try clear hb2)
       (try clear hk)
       (try clear hi)
       refine hK.out _ _ ⟨(blk_cell BK3352.out 0).trans rfl, (blk_cell BK3352.out 1).trans rfl, (blk_cell BK3352.out 2).trans rfl, (blk_cell BK3352.out 3).trans rfl, (blk_cell BK3352.out 4).trans rfl, ((HB.out.cell (World.block_lt_of_cell? w _ hw3353_0)).trans hw3353_0), ((HB.out.cell (World.block_lt_of_cell? w _ hw3353_1)).trans hw3353_1), ((HB.out.cell (World.block_lt_of_cell? w _ hw3353_2)).trans hw3353_2), ((HB.out.cell (World.block_lt_of_cell? w _ hw3355_0)).trans hw3355_0), ((HB.out.cell (World.block_lt_of_cell? w _ hw3355_1)).trans hw3355_1), ((HB.out.cell (World.block_lt_of_cell? w _ hw3355_2)).trans hw3355_2)⟩ (fun hHeld => ?_)
       clear hK K
       refine norm_ (a' := ?_) ?_ ?_
       rotate_left
       ·show Act.put _ (some 19) _ = _
        simp only [Act.put, sA, sB, sC, i64_w, i32_w]
        rfl
       refine pure_ (i := 6) (N := some 20) (v := ?_) (a' := ?_) #[true, true, true, true, true, true, true, false, false, false, false, false, false, false, false, false] rfl rfl (any_of HT_.out (by kernel_rfl)) (fun _ _ _ h => h) (Or.inl ⟨by rfl, ?_⟩) ?_ ?_
       rotate_left
       ·intro w'
        go_simp
        with_reducible rfl
       rotate_left
       ·simp only [Act.put, sA, sB, sC, i64_w, i32_w]
        rfl
       refine pure_ (i := 7) (N := some 21) (v := ?_) (a' := ?_) #[true, true, true, true, true, true, true, true, false, false, false, false, false, false, false, false] rfl rfl (any_of HT_.out (by kernel_rfl)) (fun _ _ _ h => h) (Or.inl ⟨by rfl, ?_⟩) ?_ ?_
       rotate_left
       ·intro w'
        go_simp
        with_reducible rfl
       rotate_left
       ·simp only [Act.put, sA, sB, sC, i64_w, i32_w]
        rfl
       refine pure_ (i := 8) (N := some 22) (v := ?_) (a' := ?_) #[true, true, true, true, true, true, true, true, true, false, false, false, false, false, false, false] rfl rfl (any_of HT_.out (by kernel_rfl)) (fun _ _ _ h => h) (Or.inl ⟨by rfl, ?_⟩) ?_ ?_
       rotate_left
       ·intro w'
        go_simp
        with_reducible rfl
       rotate_left
       ·simp only [Act.put, sA, sB, sC, i64_w, i32_w]
        rfl
       refine pure_ (i := 9) (N := some 23) (v := ?_) (a' := ?_) #[true, true, true, true, true, true, true, true, true, true, false, false, false, false, false, false] rfl rfl (any_of HT_.out (by kernel_rfl)) (fun _ _ _ h => h) (Or.inl ⟨by rfl, ?_⟩) ?_ ?_
       rotate_left
       ·intro w'
        go_simp
        with_reducible rfl
       rotate_left
       ·simp only [Act.put, sA, sB, sC, i64_w, i32_w]
        rfl
       refine pure_ (i := 10) (N := some 24) (v := ?_) (a' := ?_) #[true, true, true, true, true, true, true, true, true, true, true, false, false, false, false, false] rfl rfl (any_of HT_.out (by kernel_rfl)) (fun _ _ _ h => h) (Or.inl ⟨by rfl, ?_⟩) ?_ ?_
       rotate_left
       ·intro w'
        go_simp
        with_reducible rfl
       rotate_left
       ·simp only [Act.put, sA, sB, sC, i64_w, i32_w]
        rfl
       refine pure_ (i := 12) (N := some 26) (v := ?_) (a' := ?_) #[true, true, true, true, true, true, true, true, true, true, true, false, true, false, false, false] rfl rfl (any_of HT_.out (by kernel_rfl)) (fun _ _ _ h => h) (Or.inl ⟨by rfl, ?_⟩) ?_ ?_
       rotate_left
       ·intro w'
        go_simp
        with_reducible rfl
       rotate_left
       ·simp only [Act.put, sA, sB, sC, i64_w, i32_w]
        rfl
       refine take_ (i := 11) (N := some 25) (v := ?_) (a' := ?_) #[true, true, true, true, true, true, true, true, true, true, true, true, true, false, false, false] rfl rfl (take_ofW HT_.out HW_.out (by kernel_rfl)) (fun _ _ _ h => h) (Or.inl ⟨by rfl, ?_⟩) hHeld ?_ ?_
       rotate_left
       ·rintro w' ⟨s0, s1, s2, s3, s4, s5, s6, s7, s8, s9, s10⟩
        go_simp
        with_reducible rfl
       rotate_left
       ·simp only [Act.put, sA, sB, sC, i64_w, i32_w]
        rfl
       refine one_ (i := 13) (N := some 27) #[true, true, true, true, true, true, true, true, true, true, true, true, true, true, false, false] rfl rfl (one_of HT_.out (by kernel_rfl)) (by decide) (fun K hK => ?_)
       refine goes_ Try.func83 (by kernel_rfl) rfl #[.slice A3353_1 ((rd_T42 l0 x7_1).f1).length c3353_1, .slice A2 l2.length c2] (by rfl) rfl rfl (by (try simp only [List.map_toArray, List.map_cons, List.map_nil]); first | done | rfl | (simp only [List.length_drop, List.length_take]; rfl)) ?_
       with_reducible refine (spec_l2Within.calls k1 _ _ ((rd_T42 l0 x7_1).f1) _ _ l2 false _ ?side1 ?side2 ?side3 ?side4 A9.out).mono ?_
       (case side1 => repeat (first | exact (Kd.C_below HR3355_1.out HB.out) | (with_reducible refine Kd.C_alloc ?_ _) | (with_reducible refine Kd.C_drewN ?_ _) | (with_reducible refine Kd.C_drew ?_)))
       (case side2 => exact HC3355_1.out)
       (case side3 => repeat (first | exact (Kd.C_below HR2.out HB.out) | (with_reducible refine Kd.C_alloc ?_ _) | (with_reducible refine Kd.C_drewN ?_ _) | (with_reducible refine Kd.C_drew ?_)))
       (case side4 => exact HC2.out)
       rintro e w' ⟨rfl, ⟨nd, rfl⟩⟩
       refine ⟨_, rfl, ?_⟩
       refine hK.out _ _ ⟨(blk_cell BK3352.out 0).trans rfl, (blk_cell BK3352.out 1).trans rfl, (blk_cell BK3352.out 2).trans rfl, (blk_cell BK3352.out 3).trans rfl, (blk_cell BK3352.out 4).trans rfl, ((HB.out.cell (World.block_lt_of_cell? w _ hw3353_0)).trans hw3353_0), ((HB.out.cell (World.block_lt_of_cell? w _ hw3353_1)).trans hw3353_1), ((HB.out.cell (World.block_lt_of_cell? w _ hw3353_2)).trans hw3353_2), ((HB.out.cell (World.block_lt_of_cell? w _ hw3355_0)).trans hw3355_0), ((HB.out.cell (World.block_lt_of_cell? w _ hw3355_1)).trans hw3355_1), ((HB.out.cell (World.block_lt_of_cell? w _ hw3355_2)).trans hw3355_2)⟩ (fun hHeld => ?_)
       clear hK K
       refine norm_ (a' := ?_) ?_ ?_
       rotate_left
       ·show Act.put _ (some 27) _ = _
        simp only [Act.put, sA, sB, sC, i64_w, i32_w]
        rfl
       refine pure_ (i := 14) (N := some 28) (v := ?_) (a' := ?_) #[true, true, true, true, true, true, true, true, true, true, true, true, true, true, true, false] rfl rfl (any_of HT_.out (by kernel_rfl)) (fun _ _ _ h => h) (Or.inl ⟨by rfl, ?_⟩) ?_ ?_
       rotate_left
       ·intro w'
        go_simp
        with_reducible rfl
       rotate_left
       ·simp only [Act.put, sA, sB, sC, i64_w, i32_w]
        rfl
       refine pure_ (i := 15) (N := some 29) (v := ?_) (a' := ?_) #[true, true, true, true, true, true, true, true, true, true, true, true, true, true, true, true] rfl rfl (any_of HT_.out (by kernel_rfl)) (fun _ _ _ h => h) (Or.inl ⟨by rfl, ?_⟩) ?_ ?_
       rotate_left
       ·intro w'
        go_simp
        with_reducible rfl
       rotate_left
       ·simp only [Act.put, sA, sB, sC, i64_w, i32_w]
        rfl
       refine done_ (done_of HT_.out (by kernel_rfl)) ?_
       try go_wp2
       go_ret
       exact ⟨by first | rfl | (simp [errW_none, errW_some] <;> rfl) | (simp [*, errW_none, errW_some] <;> rfl), by repeat (first | (with_reducible first | exact HB.out | apply zB | apply zC | apply zE | refine below_set ?_ GE3352.out) | exact HB.out)⟩
     ·replace c8 := Bool.eq_false_iff.mpr c8
      subst c8
      have H1 : (spec_l2All.l0 k1 l0 l2 (wrap64 (x7_1 + 1)) a1_0 a1_1 l1_2 a1_3 l1_4) = some r := by rw [if_neg (show ¬ (false = true) by decide)] at H; exact H
      clear H
      have H := H1
      clear H1
      have H' := Aq H
      clear H
      try go_wp2
      have n0_ := Aq (zD BK3352.out)
      have n1_ := Aq (zE HB.out)
      clear BK3352 HB
      have BK3352 := n0_
      have HB := n1_
      clear n0_ n1_
      have p3353 : 0 ≤ (x7_1 : Int) := of_decide_eq_true (by first | (with_reducible assumption) | assumption)
      have q3353 : x7_1 < (l0.length : Int) := of_decide_eq_true (by first | (with_reducible assumption) | assumption)
      obtain ⟨ad3353, A3353_1, c3353_1, e3353, hx3353_0, hx3353_1, hx3353_2, hl3353_1, hi3353_1⟩ := at_T42 HR0.out x7_1 p3353 q3353
      have hw3353_2 := hx3353_2
      have hw3353_1 := hx3353_1
      have hw3353_0 := hx3353_0
      cases e3353
      replace hx3353_0 := (HB.out.cell (World.block_lt_of_cell? w _ hx3353_0)).trans hx3353_0
      replace hx3353_1 := (HB.out.cell (World.block_lt_of_cell? w _ hx3353_1)).trans hx3353_1
      replace hx3353_2 := (HB.out.cell (World.block_lt_of_cell? w _ hx3353_2)).trans hx3353_2
      have HR3353_1 := Aq hi3353_1
      have HC3353_1 := Aq hl3353_1
      clear hi3353_1 hl3353_1
      replace p3353 := eq_true p3353
      replace q3353 := eq_true q3353
      refine start_ (n := 16) (S := fun w' => w'.cell? ⟨gb3352, 0, none⟩ = some (.int .i64 a1_0) ∧ w'.cell? ⟨gb3352, 1, none⟩ = some (.string a1_1) ∧ w'.cell? ⟨gb3352, 2, none⟩ = some (.slice A1_2 l1_2.length c1_2) ∧ w'.cell? ⟨gb3352, 3, none⟩ = some (.int .i64 a1_3) ∧ w'.cell? ⟨gb3352, 4, none⟩ = some (.slice A1_4 l1_4.length c1_4) ∧ w'.cell? (ad3353.add ((x7_1).toNat * 3)) = some (.string ((rd_T42 l0 x7_1).f0)) ∧ w'.cell? ⟨(ad3353.add ((x7_1).toNat * 3)).block, (ad3353.add ((x7_1).toNat * 3)).off + 1, none⟩ = some (.slice A3353_1 ((rd_T42 l0 x7_1).f1).length c3353_1) ∧ w'.cell? ⟨(ad3353.add ((x7_1).toNat * 3)).block, (ad3353.add ((x7_1).toNat * 3)).off + 2, none⟩ = some (.string ((rd_T42 l0 x7_1).f2))) (ds := []) #[false, false, false, false, false, false, false, false, false, false, false, false, false, false, false, false] (by kernel_rfl) rfl rfl ⟨(blk_cell BK3352.out 0).trans rfl, (blk_cell BK3352.out 1).trans rfl, (blk_cell BK3352.out 2).trans rfl, (blk_cell BK3352.out 3).trans rfl, (blk_cell BK3352.out 4).trans rfl, ((HB.out.cell (World.block_lt_of_cell? w _ hw3353_0)).trans hw3353_0), ((HB.out.cell (World.block_lt_of_cell? w _ hw3353_1)).trans hw3353_1), ((HB.out.cell (World.block_lt_of_cell? w _ hw3353_2)).trans hw3353_2)⟩ (fun hHeld => ?_); refine with_tabW spec_l2All.tab4 spec_l2All.bits4 (fun HT_ HW_ => ?_)
      generalize wr.drew = w15 at BK3352 HB HR3353_1 hx3353_0 hx3353_1 hx3353_2 hHeld ⊢
      refine pure_ (i := 0) (N := some 14) (v := ?_) (a' := ?_) #[true, false, false, false, false, false, false, false, false, false, false, false, false, false, false, false] rfl rfl (any_of HT_.out (by kernel_rfl)) (fun _ _ _ h => h) (Or.inl ⟨by rfl, ?_⟩) ?_ ?_
      rotate_left
      ·intro w'
       go_simp
       with_reducible rfl
      rotate_left
      ·simp only [Act.put, sA, sB, sC, i64_w, i32_w]
       rfl
      refine pure_ (i := 1) (N := some 15) (v := ?_) (a' := ?_) #[true, true, false, false, false, false, false, false, false, false, false, false, false, false, false, false] rfl rfl (any_of HT_.out (by kernel_rfl)) (fun _ _ _ h => h) (Or.inl ⟨by rfl, ?_⟩) ?_ ?_
      rotate_left
      ·intro w'
       go_simp
       with_reducible rfl
      rotate_left
      ·simp only [Act.put, sA, sB, sC, i64_w, i32_w]
       rfl
      refine pure_ (i := 2) (N := some 16) (v := ?_) (a' := ?_) #[true, true, true, false, false, false, false, false, false, false, false, false, false, false, false, false] rfl rfl (any_of HT_.out (by kernel_rfl)) (fun _ _ _ h => h) (Or.inl ⟨by rfl, ?_⟩) ?_ ?_
      rotate_left
      ·intro w'
       go_simp
       with_reducible rfl
      rotate_left
      ·simp only [Act.put, sA, sB, sC, i64_w, i32_w]
       rfl
      refine take_ (i := 3) (N := some 17) (v := ?_) (a' := ?_) #[true, true, true, true, false, false, false, false, false, false, false, false, false, false, false, false] rfl rfl (take_ofW HT_.out HW_.out (by kernel_rfl)) (fun _ _ _ h => h) (Or.inl ⟨by rfl, ?_⟩) hHeld ?_ ?_
      rotate_left
      ·rintro w' ⟨s0, s1, s2, s3, s4, s5, s6, s7⟩
       go_simp
       with_reducible rfl
      rotate_left
      ·simp only [Act.put, sA, sB, sC, i64_w, i32_w]
       rfl
      refine take_ (i := 4) (N := some 18) (v := ?_) (a' := ?_) #[true, true, true, true, true, false, false, false, false, false, false, false, false, false, false, false] rfl rfl (take_ofW HT_.out HW_.out (by kernel_rfl)) (fun _ _ _ h => h) (Or.inl ⟨by rfl, ?_⟩) hHeld ?_ ?_
      rotate_left
      ·rintro w' ⟨s0, s1, s2, s3, s4, s5, s6, s7⟩
       go_simp
       with_reducible rfl
      rotate_left
      ·simp only [Act.put, sA, sB, sC, i64_w, i32_w]
       rfl
      refine one_ (i := 5) (N := some 19) #[true, true, true, true, true, true, false, false, false, false, false, false, false, false, false, false] rfl rfl (one_of HT_.out (by kernel_rfl)) (by decide) (fun K hK => ?_)
      refine goes_ Try.func50 (by kernel_rfl) rfl #[.agg #[.string ((rd_T42 l0 x7_1).f0), .slice A3353_1 ((rd_T42 l0 x7_1).f1).length c3353_1, .string ((rd_T42 l0 x7_1).f2)], .agg #[.int .i64 a1_0, .string a1_1, .slice A1_2 l1_2.length c1_2, .int .i64 a1_3, .slice A1_4 l1_4.length c1_4]] (by rfl) rfl rfl (by (try simp only [List.map_toArray, List.map_cons, List.map_nil]); first | done | rfl | (simp only [List.length_drop, List.length_take]; rfl)) ?_
      with_reducible refine (spec_l2Fits.calls k1 ((rd_T42 l0 x7_1).f0) _ _ ((rd_T42 l0 x7_1).f1) ((rd_T42 l0 x7_1).f2) a1_0 a1_1 _ _ l1_2 a1_3 _ _ l1_4 false _ ?side1 ?side2 ?side3 ?side4 ?side5 ?side6 A7.out).mono ?_
      (case side1 => repeat (first | exact (Kd.C_below HR3353_1.out HB.out) | (with_reducible refine Kd.C_alloc ?_ _) | (with_reducible refine Kd.C_drewN ?_ _) | (with_reducible refine Kd.C_drew ?_)))
      (case side2 => exact HC3353_1.out)
      (case side3 => repeat (first | exact (Kd.C_below HR1_2.out HB.out) | (with_reducible refine Kd.C_alloc ?_ _) | (with_reducible refine Kd.C_drewN ?_ _) | (with_reducible refine Kd.C_drew ?_)))
      (case side4 => exact HC1_2.out)
      (case side5 => repeat (first | exact (Kd.C_below HR1_4.out HB.out) | (with_reducible refine Kd.C_alloc ?_ _) | (with_reducible refine Kd.C_drewN ?_ _) | (with_reducible refine Kd.C_drew ?_)))
      (case side6 => exact HC1_4.out)
      rintro e w16 ⟨rfl, hb⟩
      refine ⟨_, rfl, ?_⟩
      have n0_ := Aq (blk_below (g := gb3352) (o := .cells #[.int .i64 a1_0, .string a1_1, .slice A1_2 l1_2.length c1_2, .int .i64 a1_3, .slice A1_4 l1_4.length c1_4] 35 (0, 0)) (by (with_reducible repeat (first | refine zN ?_ _ | refine zD ?_ | refine zA ?_ _)); exact BK3352.out) hb)
      have n1_ := Aq (below_step (by repeat (first | (with_reducible first | exact HB.out | apply zB | apply zC | apply zE | refine below_set ?_ GE3352.out) | exact HB.out)) hb)
      clear BK3352 HB
      have BK3352 := n0_
      have HB := n1_
      clear n0_ n1_
      (try clear hb)
      (try clear hb2)
      (try clear hk)
      (try clear hi)
      refine hK.out _ _ ⟨(blk_cell BK3352.out 0).trans rfl, (blk_cell BK3352.out 1).trans rfl, (blk_cell BK3352.out 2).trans rfl, (blk_cell BK3352.out 3).trans rfl, (blk_cell BK3352.out 4).trans rfl, ((HB.out.cell (World.block_lt_of_cell? w _ hw3353_0)).trans hw3353_0), ((HB.out.cell (World.block_lt_of_cell? w _ hw3353_1)).trans hw3353_1), ((HB.out.cell (World.block_lt_of_cell? w _ hw3353_2)).trans hw3353_2)⟩ (fun hHeld => ?_)
      clear hK K
      refine norm_ (a' := ?_) ?_ ?_
      rotate_left
      ·show Act.put _ (some 19) _ = _
       simp only [Act.put, sA, sB, sC, i64_w, i32_w]
       rfl
      refine pure_ (i := 6) (N := some 20) (v := ?_) (a' := ?_) #[true, true, true, true, true, true, true, false, false, false, false, false, false, false, false, false] rfl rfl (any_of HT_.out (by kernel_rfl)) (fun _ _ _ h => h) (Or.inl ⟨by rfl, ?_⟩) ?_ ?_
      rotate_left
      ·intro w'
       go_simp
       with_reducible rfl
      rotate_left
      ·simp only [Act.put, sA, sB, sC, i64_w, i32_w]
       rfl
      refine pure_ (i := 7) (N := some 21) (v := undef) (a' := ?_) #[true, true, true, true, true, true, true, true, false, false, false, false, false, false, false, false] rfl rfl (any_of HT_.out (by kernel_rfl)) (fun _ _ _ h => h) (Or.inr ⟨by rfl, rfl⟩) ?_ ?_
      rotate_left
      ·simp only [Act.put, sA, sB, sC, i64_w, i32_w]
       rfl
      refine pure_ (i := 8) (N := some 22) (v := undef) (a' := ?_) #[true, true, true, true, true, true, true, true, true, false, false, false, false, false, false, false] rfl rfl (any_of HT_.out (by kernel_rfl)) (fun _ _ _ h => h) (Or.inr ⟨by rfl, rfl⟩) ?_ ?_
      rotate_left
      ·simp only [Act.put, sA, sB, sC, i64_w, i32_w]
       rfl
      refine pure_ (i := 9) (N := some 23) (v := undef) (a' := ?_) #[true, true, true, true, true, true, true, true, true, true, false, false, false, false, false, false] rfl rfl (any_of HT_.out (by kernel_rfl)) (fun _ _ _ h => h) (Or.inr ⟨by rfl, rfl⟩) ?_ ?_
      rotate_left
      ·simp only [Act.put, sA, sB, sC, i64_w, i32_w]
       rfl
      refine pure_ (i := 10) (N := some 24) (v := undef) (a' := ?_) #[true, true, true, true, true, true, true, true, true, true, true, false, false, false, false, false] rfl rfl (any_of HT_.out (by kernel_rfl)) (fun _ _ _ h => h) (Or.inr ⟨by rfl, rfl⟩) ?_ ?_
      rotate_left
      ·simp only [Act.put, sA, sB, sC, i64_w, i32_w]
       rfl
      refine pure_ (i := 11) (N := some 25) (v := undef) (a' := ?_) #[true, true, true, true, true, true, true, true, true, true, true, true, false, false, false, false] rfl rfl (any_of HT_.out (by kernel_rfl)) (fun _ _ _ h => h) (Or.inr ⟨by rfl, rfl⟩) ?_ ?_
      rotate_left
      ·simp only [Act.put, sA, sB, sC, i64_w, i32_w]
       rfl
      refine pure_ (i := 12) (N := some 26) (v := undef) (a' := ?_) #[true, true, true, true, true, true, true, true, true, true, true, true, true, false, false, false] rfl rfl (any_of HT_.out (by kernel_rfl)) (fun _ _ _ h => h) (Or.inr ⟨by rfl, rfl⟩) ?_ ?_
      rotate_left
      ·simp only [Act.put, sA, sB, sC, i64_w, i32_w]
       rfl
      refine pure_ (i := 13) (N := some 27) (v := undef) (a' := ?_) #[true, true, true, true, true, true, true, true, true, true, true, true, true, true, false, false] rfl rfl (any_of HT_.out (by kernel_rfl)) (fun _ _ _ h => h) (Or.inr ⟨by rfl, rfl⟩) ?_ ?_
      rotate_left
      ·simp only [Act.put, sA, sB, sC, i64_w, i32_w]
       rfl
      refine pure_ (i := 14) (N := some 28) (v := undef) (a' := ?_) #[true, true, true, true, true, true, true, true, true, true, true, true, true, true, true, false] rfl rfl (any_of HT_.out (by kernel_rfl)) (fun _ _ _ h => h) (Or.inr ⟨by rfl, rfl⟩) ?_ ?_
      rotate_left
      ·simp only [Act.put, sA, sB, sC, i64_w, i32_w]
       rfl
      refine pure_ (i := 15) (N := some 29) (v := ?_) (a' := ?_) #[true, true, true, true, true, true, true, true, true, true, true, true, true, true, true, true] rfl rfl (any_of HT_.out (by kernel_rfl)) (fun _ _ _ h => h) (Or.inl ⟨by rfl, ?_⟩) ?_ ?_
      rotate_left
      ·intro w'
       go_simp
       with_reducible rfl
      rotate_left
      ·simp only [Act.put, sA, sB, sC, i64_w, i32_w]
       rfl
      refine done_ (done_of HT_.out (by kernel_rfl)) ?_
      try go_wp2
      go_roundg k1
      case measure => have := HK1.out; omega
      case rel => exact ⟨(wrap64 (x7_1 + 1)), (by first | rfl | (simp; done) | (simp [*]; done)), H', ⟨by have := HK1.out; omega⟩, ⟨by (with_reducible repeat (first | refine zN ?_ _ | refine zD ?_ | refine zA ?_ _)); exact BK3352.out⟩, ⟨by repeat (first | (with_reducible first | exact HB.out | apply zB | apply zC | apply zE | refine below_set ?_ GE3352.out) | exact HB.out)⟩⟩
    ·rw [if_neg c6] at H
     exact absurd H (by simp)
   ·rw [if_neg c5] at H
    have c5b0 : decide (x7_1 < (l0.length : Int)) = false := decide_eq_false c5
    clear c5
    obtain rfl := Option.some.inj H
    go_wp2
    go_ret
    exact ⟨by first | rfl | (simp [errW_none, errW_some] <;> rfl) | (simp [*, errW_none, errW_some] <;> rfl), by repeat (first | (with_reducible first | exact HB.out | apply zB | apply zC | apply zE | refine below_set ?_ GE3352.out) | exact HB.out)⟩
end Go.Proofs.Ytmdhanegafclmaa.PFnExpFind
