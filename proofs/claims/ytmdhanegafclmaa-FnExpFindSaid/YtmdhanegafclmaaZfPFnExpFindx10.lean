/- PFnExpFindx10 of the seat's texts, cut down by prune.py to what the theorem comes to. -/
import Derived.Test.YtmdhanegafclmaaZfPFnExpFindx0
namespace Go.Proofs.Ytmdhanegafclmaa.PFnExpFind
open Go.RowKit Go.Proofs.YtmdhanegafclmaaW.PrintWords Go.Proofs.YtmdhanegafclmaaW.PrintLast Go.Proofs.YtmdhanegafclmaaW.PrintMore
attribute [local go_sem] max2_int min2_int max_two min_two max_three min_three max_four min_four
set_option linter.unusedVariables false
set_option linter.unusedSimpArgs false
mutual
def laws_wxWithin.l0 : Nat → List Int → List Int → Int → Option (Bool)
 | 0, _, _, _ => none
 | k + 1, x0, x1, x5 => if x5 < (x0.length : Int) then (laws_wxWithin.l1 k x0 x1 x5 false 0) else (some true)
def laws_wxWithin.l1 : Nat → List Int → List Int → Int → Bool → Int → Option (Bool)
 | 0, _, _, _, _, _ => none
 | k + 1, x0, x1, x5, x6, x7 => if x7 < (x1.length : Int) then (if x6 = true then (laws_wxWithin.l1 k x0 x1 x5 true (wrap64 (x7 + 1))) else (if 0 ≤ x5 then (if x5 < (x0.length : Int) then (if 0 ≤ x7 then (laws_wxWithin.l1 k x0 x1 x5 ((rd x0 x5) == (rd x1 x7)) (wrap64 (x7 + 1))) else (none)) else (none)) else (none))) else (if x6 = true then (laws_wxWithin.l0 k x0 x1 (wrap64 (x5 + 1))) else (some false))
end
def laws_wxWithin.f (k : Nat) (l0 : List Int) (l1 : List Int) : Option (Bool) := laws_wxWithin.l0 k l0 l1 0
theorem laws_wxWithin.mono_l : ∀ k, (∀ y0 y1 y2, LeO (laws_wxWithin.l0 k y0 y1 y2) (laws_wxWithin.l0 (k + 1) y0 y1 y2)) ∧ (∀ y0 y1 y2 y3 y4, LeO (laws_wxWithin.l1 k y0 y1 y2 y3 y4) (laws_wxWithin.l1 (k + 1) y0 y1 y2 y3 y4))
 | 0 => ⟨fun _ _ _ r h => by simp [laws_wxWithin.l0] at h, fun _ _ _ _ _ r h => by simp [laws_wxWithin.l1] at h⟩
 | k + 1 => by
  obtain ⟨ih0, ih1⟩ := laws_wxWithin.mono_l k
  refine ⟨?_, ?_⟩
  ·intro y0 y1 y2
   unfold laws_wxWithin.l0
   repeat' first
   | (with_reducible exact ih0 _ _ _)
   | (with_reducible exact ih1 _ _ _ _ _)
   | (with_reducible exact LeO.refl _)
   | (with_reducible exact LeO.none _)
   | (with_reducible refine LeO.ite ?_ ?_)
   | (with_reducible refine LeO.bind ?_ (fun _ => ?_))
   | exact ih0 _ _ _
   | exact ih1 _ _ _ _ _
   | exact LeO.none _
   | refine LeO.ite ?_ ?_
   | refine LeO.bind ?_ (fun _ => ?_)
  ·intro y0 y1 y2 y3 y4
   unfold laws_wxWithin.l1
   repeat' first
   | (with_reducible exact ih0 _ _ _)
   | (with_reducible exact ih1 _ _ _ _ _)
   | (with_reducible exact LeO.refl _)
   | (with_reducible exact LeO.none _)
   | (with_reducible refine LeO.ite ?_ ?_)
   | (with_reducible refine LeO.bind ?_ (fun _ => ?_))
   | exact ih0 _ _ _
   | exact ih1 _ _ _ _ _
   | exact LeO.none _
   | refine LeO.ite ?_ ?_
   | refine LeO.bind ?_ (fun _ => ?_)
theorem laws_wxWithin.mono : ∀ a0 a1 k, LeO (laws_wxWithin.f k a0 a1) (laws_wxWithin.f (k + 1) a0 a1) := by
 intro a0 a1 k
 obtain ⟨ih0, ih1⟩ := laws_wxWithin.mono_l k
 unfold laws_wxWithin.f
 repeat' first
   | (with_reducible exact ih0 _ _ _)
   | (with_reducible exact ih1 _ _ _ _ _)
   | (with_reducible exact LeO.refl _)
   | (with_reducible exact LeO.none _)
   | (with_reducible refine LeO.ite ?_ ?_)
   | (with_reducible refine LeO.bind ?_ (fun _ => ?_))
   | exact ih0 _ _ _
   | exact ih1 _ _ _ _ _
   | exact LeO.none _
   | refine LeO.ite ?_ ?_
   | refine LeO.bind ?_ (fun _ => ?_)
set_option maxHeartbeats 8000000 in
set_option maxRecDepth 100000 in
theorem laws_wxWithin.calls (k : Nat) (A0 : Option Addr) (c0 : Nat) (l0 : List Int) (A1 : Option Addr) (c1 : Nat) (l1 : List Int) (r : Bool) (w : World) (hr0 : Kd.C (Kd.int .i64) w A0 l0.length l0) (hc0 : l0.length ≤ c0) (hr1 : Kd.C (Kd.int .i64) w A1 l1.length l1) (hc1 : l1.length ≤ c1) (h : laws_wxWithin.f k l0 l1 = some r) :
  Calls Try.prog 21 #[.slice A0 l0.length c0, .slice A1 l1.length c1] w fun e w' => e = .returned (.bool r) ∧ Drawn0 w w' := by
 have HR0 := Aq hr0
 have HC0 := Aq hc0
 clear hr0 hc0
 have HR1 := Aq hr1
 have HC1 := Aq hc1
 clear hr1 hc1
 have H : (laws_wxWithin.l0 k l0 l1 0) = some r := h
 clear h
 have H' := Aq H
 clear H
 go_enter Try.func21, Try.ntmps21
 go_wp2
 repeat (go_quiet (fail); try go_wp2)
 go_loopg [5] k (fun kq v5 w' => ∃ (x5_1 : Int), v5 = .int .i64 x5_1 ∧ Aside0 (laws_wxWithin.l0 kq l0 l1 x5_1 = some r) ∧ Aside0 (kq ≤ k) ∧ Drawn0 w w')
 case atStart => exact ⟨(0), (by first | rfl | (simp; done) | (simp [*]; done)), H', ⟨Nat.le_refl _⟩, by repeat (first | exact Drawn0.refl _ | apply Drawn0.step)⟩
 case round =>
  clear H'
  try clear c1
  try clear c2
  try clear p2
  obtain ⟨x5_1, rfl, HA, HK1, ⟨m1, rfl⟩⟩ := hrel
  cases gk with
  | zero => exact absurd HA.out (by simp [laws_wxWithin.l0])
  | succ k1 =>
   have H := HA.out
   clear HA
   simp only [laws_wxWithin.l0] at H
   by_cases c3 : x5_1 < (l0.length : Int)
   ·rw [if_pos c3] at H
    have c3b0 : decide (x5_1 < (l0.length : Int)) = true := decide_eq_true c3
    clear c3
    have H' := Aq H
    clear H
    go_wp2
    repeat (go_quiet (fail); try go_wp2)
    go_loopg [6, 7] k1 (fun kq v6 v7 w' => ∃ (x6_2 : Bool) (x7_2 : Int), v6 = .bool x6_2 ∧ v7 = .int .i64 x7_2 ∧ Aside0 (laws_wxWithin.l1 kq l0 l1 x5_1 x6_2 x7_2 = some r) ∧ Aside0 (kq ≤ k1) ∧ Drawn0 w w')
    case atStart => exact ⟨(false), (0), (by first | rfl | (simp; done) | (simp [*]; done)), (by first | rfl | (simp; done) | (simp [*]; done)), H', ⟨Nat.le_refl _⟩, by repeat (first | exact Drawn0.refl _ | apply Drawn0.step)⟩
    case round =>
     clear H'
     try clear c1
     try clear c2
     try clear p2
     try clear c3
     try clear c3b0
     try clear p2
     obtain ⟨x6_2, x7_2, rfl, rfl, HA, HK2, ⟨m2, rfl⟩⟩ := hrel
     cases gk with
     | zero => exact absurd HA.out (by simp [laws_wxWithin.l1])
     | succ k2 =>
      have H := HA.out
      clear HA
      simp only [laws_wxWithin.l1] at H
      by_cases c4 : x7_2 < (l1.length : Int)
      ·rw [if_pos c4] at H
       have c4b0 : decide (x7_2 < (l1.length : Int)) = true := decide_eq_true c4
       clear c4
       by_cases c5 : x6_2 = true
       ·subst c5
        have H1 : (laws_wxWithin.l1 k2 l0 l1 x5_1 true (wrap64 (x7_2 + 1))) = some r := by rw [if_pos rfl] at H; exact H
        clear H
        have H := H1
        clear H1
        have H' := Aq H
        clear H
        go_wp2
        repeat (go_quiet (fail); try go_wp2)
        go_roundg k2
        case measure => have := HK1.out; have := HK2.out; omega
        case rel => exact ⟨(true), (wrap64 (x7_2 + 1)), (by first | rfl | (simp; done) | (simp [*]; done)), (by first | rfl | (simp; done) | (simp [*]; done)), H', ⟨by have := HK1.out; have := HK2.out; omega⟩, by repeat (first | exact Drawn0.refl _ | apply Drawn0.step)⟩
       ·replace c5 := Bool.eq_false_iff.mpr c5
        subst c5
        have H1 : (if 0 ≤ x5_1 then (if x5_1 < (l0.length : Int) then (if 0 ≤ x7_2 then (laws_wxWithin.l1 k2 l0 l1 x5_1 ((rd l0 x5_1) == (rd l1 x7_2)) (wrap64 (x7_2 + 1))) else (none)) else (none)) else (none)) = some r := by rw [if_neg (show ¬ (false = true) by decide)] at H; exact H
        clear H
        have H := H1
        clear H1
        by_cases c6 : 0 ≤ x5_1
        ·rw [if_pos c6] at H
         have c6b0 : decide (0 ≤ x5_1) = true := decide_eq_true c6
         clear c6
         by_cases c7 : x5_1 < (l0.length : Int)
         ·rw [if_pos c7] at H
          have c7b0 : decide (x5_1 < (l0.length : Int)) = true := decide_eq_true c7
          clear c7
          by_cases c8 : 0 ≤ x7_2
          ·rw [if_pos c8] at H
           have c8b0 : decide (0 ≤ x7_2) = true := decide_eq_true c8
           clear c8
           have H' := Aq H
           clear H
           have p3363 : 0 ≤ (x5_1 : Int) := of_decide_eq_true (by first | (with_reducible assumption) | assumption)
           have q3363 : x5_1 < (l0.length : Int) := of_decide_eq_true (by first | (with_reducible assumption) | assumption)
           obtain ⟨ad3363, e3363, hx3363_0⟩ := Kd.at_int HR0.out x5_1 p3363 q3363
           cases e3363
           replace p3363 := eq_true p3363
           replace q3363 := eq_true q3363
           have p3364 : 0 ≤ (x7_2 : Int) := of_decide_eq_true (by first | (with_reducible assumption) | assumption)
           have q3364 : x7_2 < (l1.length : Int) := of_decide_eq_true (by first | (with_reducible assumption) | assumption)
           obtain ⟨ad3364, e3364, hx3364_0⟩ := Kd.at_int HR1.out x7_2 p3364 q3364
           cases e3364
           replace p3364 := eq_true p3364
           replace q3364 := eq_true q3364
           go_wp2
           repeat (go_quiet (fail); try go_wp2)
           go_roundg k2
           case measure => have := HK1.out; have := HK2.out; omega
           case rel => exact ⟨(((rd l0 x5_1) == (rd l1 x7_2))), (wrap64 (x7_2 + 1)), (by first | rfl | (simp; done) | (simp [*]; done)), (by first | rfl | (simp; done) | (simp [*]; done)), H', ⟨by have := HK1.out; have := HK2.out; omega⟩, by repeat (first | exact Drawn0.refl _ | apply Drawn0.step)⟩
          ·rw [if_neg c8] at H
           exact absurd H (by simp)
         ·rw [if_neg c7] at H
          exact absurd H (by simp)
        ·rw [if_neg c6] at H
         exact absurd H (by simp)
      ·rw [if_neg c4] at H
       have c4b0 : decide (x7_2 < (l1.length : Int)) = false := decide_eq_false c4
       clear c4
       by_cases c9 : x6_2 = true
       ·subst c9
        have H1 : (laws_wxWithin.l0 k2 l0 l1 (wrap64 (x5_1 + 1))) = some r := by rw [if_pos rfl] at H; exact H
        clear H
        have H := H1
        clear H1
        have H' := Aq H
        clear H
        go_wp2
        repeat (go_quiet (fail); try go_wp2)
        go_roundg k2
        case measure => have := HK1.out; have := HK2.out; omega
        case rel => exact ⟨(wrap64 (x5_1 + 1)), (by first | rfl | (simp; done) | (simp [*]; done)), H', ⟨by have := HK1.out; have := HK2.out; omega⟩, by repeat (first | exact Drawn0.refl _ | apply Drawn0.step)⟩
       ·replace c9 := Bool.eq_false_iff.mpr c9
        subst c9
        have H1 : (some false) = some r := by rw [if_neg (show ¬ (false = true) by decide)] at H; exact H
        clear H
        have H := H1
        clear H1
        obtain rfl := Option.some.inj H
        go_wp2
        repeat (go_quiet (fail); try go_wp2)
        go_ret
        exact ⟨by first | rfl | (simp; done) | (simp [*]; done), by repeat (first | exact Drawn0.refl _ | apply Drawn0.step)⟩
   ·rw [if_neg c3] at H
    have c3b0 : decide (x5_1 < (l0.length : Int)) = false := decide_eq_false c3
    clear c3
    obtain rfl := Option.some.inj H
    go_wp2
    repeat (go_quiet (fail); try go_wp2)
    go_ret
    exact ⟨by first | rfl | (simp; done) | (simp [*]; done), by repeat (first | exact Drawn0.refl _ | apply Drawn0.step)⟩
def laws_wxFits.f (k : Nat) (a0_0 : ByteArray) (l0_1 : List Int) (a0_2 : ByteArray) (a1_0 : Int) (a1_1 : ByteArray) (l1_2 : List Int) (a1_3 : Int) (l1_4 : List (S35)) : Option (Bool) := if a0_0.toList = a1_1.toList then ((laws_wxWithin.f k l0_1 l1_2).bind fun t3367 => (some t3367)) else (some false)
theorem laws_wxFits.mono : ∀ a0 a1 a2 a3 a4 a5 a6 a7 k, LeO (laws_wxFits.f k a0 a1 a2 a3 a4 a5 a6 a7) (laws_wxFits.f (k + 1) a0 a1 a2 a3 a4 a5 a6 a7) := by
 intro a0 a1 a2 a3 a4 a5 a6 a7 k
 unfold laws_wxFits.f
 repeat' first
   | (with_reducible exact laws_wxWithin.mono _ _ _)
   | (with_reducible exact LeO.refl _)
   | (with_reducible exact LeO.none _)
   | (with_reducible refine LeO.ite ?_ ?_)
   | (with_reducible refine LeO.bind ?_ (fun _ => ?_))
   | exact laws_wxWithin.mono _ _ _
   | exact LeO.none _
   | refine LeO.ite ?_ ?_
   | refine LeO.bind ?_ (fun _ => ?_)
set_option maxHeartbeats 8000000 in
set_option maxRecDepth 100000 in
theorem laws_wxFits.calls (k : Nat) (a0_0 : ByteArray) (A0_1 : Option Addr) (c0_1 : Nat) (l0_1 : List Int) (a0_2 : ByteArray) (a1_0 : Int) (a1_1 : ByteArray) (A1_2 : Option Addr) (c1_2 : Nat) (l1_2 : List Int) (a1_3 : Int) (A1_4 : Option Addr) (c1_4 : Nat) (l1_4 : List (S35)) (r : Bool) (w : World) (hr0_1 : Kd.C (Kd.int .i64) w A0_1 l0_1.length l0_1) (hc0_1 : l0_1.length ≤ c0_1) (hr1_2 : Kd.C (Kd.int .i64) w A1_2 l1_2.length l1_2) (hc1_2 : l1_2.length ≤ c1_2) (hr1_4 : Kd.C k35 w A1_4 l1_4.length l1_4) (hc1_4 : l1_4.length ≤ c1_4) (h : laws_wxFits.f k a0_0 l0_1 a0_2 a1_0 a1_1 l1_2 a1_3 l1_4 = some r) :
  Calls Try.prog 20 #[.agg #[.string a0_0, .slice A0_1 l0_1.length c0_1, .string a0_2], .agg #[.int .i64 a1_0, .string a1_1, .slice A1_2 l1_2.length c1_2, .int .i64 a1_3, .slice A1_4 l1_4.length c1_4]] w fun e w' => e = .returned (.bool r) ∧ Below w.heap.size w w' := by
 have hu42 := Try.underlying42
 have hu35 := Try.underlying35
 have HR0_1 := Aq hr0_1
 have HC0_1 := Aq hc0_1
 clear hr0_1 hc0_1
 have HR1_2 := Aq hr1_2
 have HC1_2 := Aq hc1_2
 clear hr1_2 hc1_2
 have HR1_4 := Aq hr1_4
 have HC1_4 := Aq hc1_4
 clear hr1_4 hc1_4
 have HB := Aq (Below.refl w.heap.size w)
 have H : (if a0_0.toList = a1_1.toList then ((laws_wxWithin.f k l0_1 l1_2).bind fun t3367 => (some t3367)) else (some false)) = some r := h
 clear h
 by_cases c3 : a0_0.toList = a1_1.toList
 ·rw [if_pos c3] at H
  have c3b0 : (a0_0.toList == a1_1.toList) = true := beq_iff_eq.mpr c3
  have c3b1 : (a0_0.toList != a1_1.toList) = false := bne_eq_false_iff_eq.mpr c3
  clear c3
  replace H := Option.bind_eq_some_iff.mp H
  obtain ⟨t3367, A40, H⟩ := H
  replace H : (some t3367) = some r := H
  have A4 := Aq A40
  clear A40
  obtain rfl := Option.some.inj H
  go_enter Try.func20, Try.ntmps20
  go_wp2_with (first | ((with_reducible refine gate_dst (N := 2) rfl ?_); refine box_event ?hg (N := 2) ?hd (cs := #[.string a0_0, .slice A0_1 l0_1.length c0_1, .string a0_2]) (t := 42) ?hr ?_; (case hd => rfl); (case hg => rfl); (case hr => first | (go_simp; done) | (go_simp; rfl)); intro gb3365 hg w5 hbox hb; have n0_ := Aq (below_step (by repeat (first | (with_reducible first | exact HB.out | apply zB | apply zC | apply zE) | exact HB.out)) hb); have n1_ := Aq (hbox); have n2_ := Aq ((by rw [hg]; exact (below_size (by repeat (first | (with_reducible first | exact HB.out | apply zB | apply zC | apply zE) | exact HB.out))) : w.heap.size ≤ gb3365)); have n3_ := Aq ((by rw [hg]; exact (below_size (by repeat (first | (with_reducible first | exact HB.out | apply zB | apply zC | apply zE) | exact HB.out))) : w.heap.size ≤ gb3365)); clear HB; have HB := n0_; have BK3365 := n1_; have GW3365 := n2_; have GE3365 := n3_; clear n0_ n1_ n2_ n3_ hb hbox hg) | ((with_reducible refine gate_dst (N := 3) rfl ?_); refine box_event ?hg (N := 3) ?hd (cs := #[.int .i64 a1_0, .string a1_1, .slice A1_2 l1_2.length c1_2, .int .i64 a1_3, .slice A1_4 l1_4.length c1_4]) (t := 35) ?hr ?_; (case hd => rfl); (case hg => rfl); (case hr => first | (go_simp; done) | (go_simp; rfl)); intro gb3366 hg w6 hbox hb; have n0_ := Aq (blk_below (g := gb3365) (o := .cells #[.string a0_0, .slice A0_1 l0_1.length c0_1, .string a0_2] 42 (0, 0)) (by (with_reducible repeat (first | refine zN ?_ _ | refine zD ?_ | refine zA ?_ _)); exact BK3365.out) hb); have n1_ := Aq (below_step (by repeat (first | (with_reducible first | exact HB.out | apply zB | apply zC | apply zE | refine below_set ?_ GE3365.out) | exact HB.out)) hb); have n2_ := Aq (hbox); have n3_ := Aq ((by rw [hg]; exact (below_size (by repeat (first | (with_reducible first | exact HB.out | apply zB | apply zC | apply zE | refine below_set ?_ GE3365.out) | exact HB.out))) : w.heap.size ≤ gb3366)); have n4_ := Aq ((by rw [hg]; exact (below_size (by repeat (first | (with_reducible first | exact HB.out | apply zB | apply zC | apply zE | refine below_set ?_ GE3365.out) | exact HB.out))) : w.heap.size ≤ gb3366)); have n5_ := Aq ((by rw [hg]; exact Nat.ne_of_lt (blk_lt (g := gb3365) (o := .cells #[.string a0_0, .slice A0_1 l0_1.length c0_1, .string a0_2] 42 (0, 0)) (by (with_reducible repeat (first | refine zN ?_ _ | refine zD ?_ | refine zA ?_ _)); exact BK3365.out)) : gb3365 ≠ gb3366)); have n6_ := Aq ((by rw [hg]; exact Nat.ne_of_gt (blk_lt (g := gb3365) (o := .cells #[.string a0_0, .slice A0_1 l0_1.length c0_1, .string a0_2] 42 (0, 0)) (by (with_reducible repeat (first | refine zN ?_ _ | refine zD ?_ | refine zA ?_ _)); exact BK3365.out)) : gb3366 ≠ gb3365)); clear BK3365 HB; have BK3365 := n0_; have HB := n1_; have BK3366 := n2_; have GW3366 := n3_; have GE3366 := n4_; have NB3365_3366 := n5_; have NB3366_3365 := n6_; clear n0_ n1_ n2_ n3_ n4_ n5_ n6_ hb hbox hg; have hnb7 := NB3365_3366.out; have hnc7 := NB3366_3365.out; have hcz8_0 : w6.cell? ⟨gb3365, 0, none⟩ = some (.string a0_0) := (blk_cell BK3365.out 0).trans rfl; have hcz8_1 : w6.cell? ⟨gb3365, 1, none⟩ = some (.slice A0_1 l0_1.length c0_1) := (blk_cell BK3365.out 1).trans rfl; have hcz8_2 : w6.cell? ⟨gb3365, 2, none⟩ = some (.string a0_2) := (blk_cell BK3365.out 2).trans rfl; have hfz8_0 := blk_frozen BK3365.out 0; have hfz8_1 := blk_frozen BK3365.out 1; have hfz8_2 := blk_frozen BK3365.out 2; have hcz9_0 : w6.cell? ⟨gb3366, 0, none⟩ = some (.int .i64 a1_0) := (blk_cell BK3366.out 0).trans rfl; have hcz9_1 : w6.cell? ⟨gb3366, 1, none⟩ = some (.string a1_1) := (blk_cell BK3366.out 1).trans rfl; have hcz9_2 : w6.cell? ⟨gb3366, 2, none⟩ = some (.slice A1_2 l1_2.length c1_2) := (blk_cell BK3366.out 2).trans rfl; have hcz9_3 : w6.cell? ⟨gb3366, 3, none⟩ = some (.int .i64 a1_3) := (blk_cell BK3366.out 3).trans rfl; have hcz9_4 : w6.cell? ⟨gb3366, 4, none⟩ = some (.slice A1_4 l1_4.length c1_4) := (blk_cell BK3366.out 4).trans rfl; have hfz9_0 := blk_frozen BK3366.out 0; have hfz9_1 := blk_frozen BK3366.out 1; have hfz9_2 := blk_frozen BK3366.out 2; have hfz9_3 := blk_frozen BK3366.out 3; have hfz9_4 := blk_frozen BK3366.out 4) | (go_at_call 21; (with_reducible refine (laws_wxWithin.calls k _ _ l0_1 _ _ l1_2 t3367 _ ?side1 ?side2 ?side3 ?side4 A4.out).mono ?_); (case side1 => repeat (first | exact (Kd.C_below HR0_1.out HB.out) | (with_reducible refine Kd.C_alloc ?_ _) | (with_reducible refine Kd.C_drewN ?_ _) | (with_reducible refine Kd.C_drew ?_))); (case side2 => exact HC0_1.out); (case side3 => repeat (first | exact (Kd.C_below HR1_2.out HB.out) | (with_reducible refine Kd.C_alloc ?_ _) | (with_reducible refine Kd.C_drewN ?_ _) | (with_reducible refine Kd.C_drew ?_))); (case side4 => exact HC1_2.out); rintro e w' ⟨rfl, ⟨nd, rfl⟩⟩))
  go_ret
  exact ⟨by first | rfl | (simp [errW_none, errW_some] <;> rfl) | (simp [*, errW_none, errW_some] <;> rfl), by repeat (first | (with_reducible first | exact HB.out | apply zB | apply zC | apply zE | refine below_set ?_ GE3365.out | refine below_set ?_ GE3366.out) | exact HB.out)⟩
 ·rw [if_neg c3] at H
  have c3b0 : (a0_0.toList == a1_1.toList) = false := beq_eq_false_iff_ne.mpr c3
  have c3b1 : (a0_0.toList != a1_1.toList) = true := bne_iff_ne.mpr c3
  obtain rfl := Option.some.inj H
  go_enter Try.func20, Try.ntmps20
  go_wp2_with (first | ((with_reducible refine gate_dst (N := 2) rfl ?_); refine box_event ?hg (N := 2) ?hd (cs := #[.string a0_0, .slice A0_1 l0_1.length c0_1, .string a0_2]) (t := 42) ?hr ?_; (case hd => rfl); (case hg => rfl); (case hr => first | (go_simp; done) | (go_simp; rfl)); intro gb3365 hg w10 hbox hb; have n0_ := Aq (below_step (by repeat (first | (with_reducible first | exact HB.out | apply zB | apply zC | apply zE) | exact HB.out)) hb); have n1_ := Aq (hbox); have n2_ := Aq ((by rw [hg]; exact (below_size (by repeat (first | (with_reducible first | exact HB.out | apply zB | apply zC | apply zE) | exact HB.out))) : w.heap.size ≤ gb3365)); have n3_ := Aq ((by rw [hg]; exact (below_size (by repeat (first | (with_reducible first | exact HB.out | apply zB | apply zC | apply zE) | exact HB.out))) : w.heap.size ≤ gb3365)); clear HB; have HB := n0_; have BK3365 := n1_; have GW3365 := n2_; have GE3365 := n3_; clear n0_ n1_ n2_ n3_ hb hbox hg) | ((with_reducible refine gate_dst (N := 3) rfl ?_); refine box_event ?hg (N := 3) ?hd (cs := #[.int .i64 a1_0, .string a1_1, .slice A1_2 l1_2.length c1_2, .int .i64 a1_3, .slice A1_4 l1_4.length c1_4]) (t := 35) ?hr ?_; (case hd => rfl); (case hg => rfl); (case hr => first | (go_simp; done) | (go_simp; rfl)); intro gb3366 hg w11 hbox hb; have n0_ := Aq (blk_below (g := gb3365) (o := .cells #[.string a0_0, .slice A0_1 l0_1.length c0_1, .string a0_2] 42 (0, 0)) (by (with_reducible repeat (first | refine zN ?_ _ | refine zD ?_ | refine zA ?_ _)); exact BK3365.out) hb); have n1_ := Aq (below_step (by repeat (first | (with_reducible first | exact HB.out | apply zB | apply zC | apply zE | refine below_set ?_ GE3365.out) | exact HB.out)) hb); have n2_ := Aq (hbox); have n3_ := Aq ((by rw [hg]; exact (below_size (by repeat (first | (with_reducible first | exact HB.out | apply zB | apply zC | apply zE | refine below_set ?_ GE3365.out) | exact HB.out))) : w.heap.size ≤ gb3366)); have n4_ := Aq ((by rw [hg]; exact (below_size (by repeat (first | (with_reducible first | exact HB.out | apply zB | apply zC | apply zE | refine below_set ?_ GE3365.out) | exact HB.out))) : w.heap.size ≤ gb3366)); have n5_ := Aq ((by rw [hg]; exact Nat.ne_of_lt (blk_lt (g := gb3365) (o := .cells #[.string a0_0, .slice A0_1 l0_1.length c0_1, .string a0_2] 42 (0, 0)) (by (with_reducible repeat (first | refine zN ?_ _ | refine zD ?_ | refine zA ?_ _)); exact BK3365.out)) : gb3365 ≠ gb3366)); have n6_ := Aq ((by rw [hg]; exact Nat.ne_of_gt (blk_lt (g := gb3365) (o := .cells #[.string a0_0, .slice A0_1 l0_1.length c0_1, .string a0_2] 42 (0, 0)) (by (with_reducible repeat (first | refine zN ?_ _ | refine zD ?_ | refine zA ?_ _)); exact BK3365.out)) : gb3366 ≠ gb3365)); clear BK3365 HB; have BK3365 := n0_; have HB := n1_; have BK3366 := n2_; have GW3366 := n3_; have GE3366 := n4_; have NB3365_3366 := n5_; have NB3366_3365 := n6_; clear n0_ n1_ n2_ n3_ n4_ n5_ n6_ hb hbox hg; have hnb12 := NB3365_3366.out; have hnc12 := NB3366_3365.out; have hcz13_0 : w11.cell? ⟨gb3365, 0, none⟩ = some (.string a0_0) := (blk_cell BK3365.out 0).trans rfl; have hcz13_1 : w11.cell? ⟨gb3365, 1, none⟩ = some (.slice A0_1 l0_1.length c0_1) := (blk_cell BK3365.out 1).trans rfl; have hcz13_2 : w11.cell? ⟨gb3365, 2, none⟩ = some (.string a0_2) := (blk_cell BK3365.out 2).trans rfl; have hfz13_0 := blk_frozen BK3365.out 0; have hfz13_1 := blk_frozen BK3365.out 1; have hfz13_2 := blk_frozen BK3365.out 2; have hcz14_0 : w11.cell? ⟨gb3366, 0, none⟩ = some (.int .i64 a1_0) := (blk_cell BK3366.out 0).trans rfl; have hcz14_1 : w11.cell? ⟨gb3366, 1, none⟩ = some (.string a1_1) := (blk_cell BK3366.out 1).trans rfl; have hcz14_2 : w11.cell? ⟨gb3366, 2, none⟩ = some (.slice A1_2 l1_2.length c1_2) := (blk_cell BK3366.out 2).trans rfl; have hcz14_3 : w11.cell? ⟨gb3366, 3, none⟩ = some (.int .i64 a1_3) := (blk_cell BK3366.out 3).trans rfl; have hcz14_4 : w11.cell? ⟨gb3366, 4, none⟩ = some (.slice A1_4 l1_4.length c1_4) := (blk_cell BK3366.out 4).trans rfl; have hfz14_0 := blk_frozen BK3366.out 0; have hfz14_1 := blk_frozen BK3366.out 1; have hfz14_2 := blk_frozen BK3366.out 2; have hfz14_3 := blk_frozen BK3366.out 3; have hfz14_4 := blk_frozen BK3366.out 4))
  go_ret
  exact ⟨by first | rfl | (simp [errW_none, errW_some] <;> rfl) | (simp [*, errW_none, errW_some] <;> rfl), by repeat (first | (with_reducible first | exact HB.out | apply zB | apply zC | apply zE | refine below_set ?_ GE3365.out | refine below_set ?_ GE3366.out) | exact HB.out)⟩
end Go.Proofs.Ytmdhanegafclmaa.PFnExpFind
