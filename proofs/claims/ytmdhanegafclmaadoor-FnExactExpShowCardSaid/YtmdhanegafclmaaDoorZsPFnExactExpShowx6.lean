/- PFnExactExpShowx6 of the seat's texts, cut down by prune.py to what the theorem comes to. -/
import Derived.Test.YtmdhanegafclmaaDoorZsPFnExactExpShowx0
import Derived.Test.YtmdhanegafclmaaDoorZsPFnExactExpShowx5
namespace Go.Proofs.YtmdhanegafclmaaDoor.PFnExactExpShow
open Go.RowKit Go.Proofs.YtmdhanegafclmaaDoorW.PrintWords Go.Proofs.YtmdhanegafclmaaDoorW.PrintLast Go.Proofs.YtmdhanegafclmaaDoorW.PrintMore
attribute [local go_sem] max2_int min2_int max_two min_two max_three min_three max_four min_four
set_option linter.unusedVariables false
set_option linter.unusedSimpArgs false
mutual
def spec_l1Size.l0 : Nat → Int → Int → Int → ByteArray → List Int → Int → List (S35) → Option (Int)
 | 0, _, _, _, _, _, _, _ => none
 | k + 1, x3, x4, x9141000, x9141001, x9141002, x9141003, x9141004 => if x4 < (x9141004.length : Int) then (if 0 ≤ x4 then ((spec_l1Size.f k ((rd_T35 x9141004 x4).f0) ((rd_T35 x9141004 x4).f1) ((rd_T35 x9141004 x4).f2) ((rd_T35 x9141004 x4).f3) ((rd_T35 x9141004 x4).f4)).bind fun t9142 => (spec_l1Size.l0 k (wrap64 (x3 + t9142)) (wrap64 (x4 + 1)) x9141000 x9141001 x9141002 x9141003 x9141004)) else (none)) else (some x3)
def spec_l1Size.f : Nat → Int → ByteArray → List Int → Int → List (S35) → Option (Int)
 | 0, _, _, _, _, _ => none
 | k + 1, a0_0, a0_1, l0_2, a0_3, l0_4 => spec_l1Size.l0 k 1 0 a0_0 a0_1 l0_2 a0_3 l0_4
end
theorem spec_l1Size.mono_l : ∀ k, (∀ y0 y1 y2 y3 y4, LeO (spec_l1Size.f k y0 y1 y2 y3 y4) (spec_l1Size.f (k + 1) y0 y1 y2 y3 y4)) ∧ (∀ y0 y1 y2 y3 y4 y5 y6, LeO (spec_l1Size.l0 k y0 y1 y2 y3 y4 y5 y6) (spec_l1Size.l0 (k + 1) y0 y1 y2 y3 y4 y5 y6))
 | 0 => ⟨fun _ _ _ _ _ r h => by simp [spec_l1Size.f] at h, fun _ _ _ _ _ _ _ r h => by simp [spec_l1Size.l0] at h⟩
 | k + 1 => by
  obtain ⟨ih0, ih1⟩ := spec_l1Size.mono_l k
  refine ⟨?_, ?_⟩
  ·intro y0 y1 y2 y3 y4
   unfold spec_l1Size.f
   repeat' first
   | (with_reducible exact ih0 _ _ _ _ _)
   | (with_reducible exact ih1 _ _ _ _ _ _ _)
   | (with_reducible exact LeO.refl _)
   | (with_reducible exact LeO.none _)
   | (with_reducible refine LeO.ite ?_ ?_)
   | (with_reducible refine LeO.bind ?_ (fun _ => ?_))
   | exact ih0 _ _ _ _ _
   | exact ih1 _ _ _ _ _ _ _
   | exact LeO.none _
   | refine LeO.ite ?_ ?_
   | refine LeO.bind ?_ (fun _ => ?_)
  ·intro y0 y1 y2 y3 y4 y5 y6
   unfold spec_l1Size.l0
   repeat' first
   | (with_reducible exact ih0 _ _ _ _ _)
   | (with_reducible exact ih1 _ _ _ _ _ _ _)
   | (with_reducible exact LeO.refl _)
   | (with_reducible exact LeO.none _)
   | (with_reducible refine LeO.ite ?_ ?_)
   | (with_reducible refine LeO.bind ?_ (fun _ => ?_))
   | exact ih0 _ _ _ _ _
   | exact ih1 _ _ _ _ _ _ _
   | exact LeO.none _
   | refine LeO.ite ?_ ?_
   | refine LeO.bind ?_ (fun _ => ?_)
theorem spec_l1Size.mono : ∀ a0 a1 a2 a3 a4 k, LeO (spec_l1Size.f k a0 a1 a2 a3 a4) (spec_l1Size.f (k + 1) a0 a1 a2 a3 a4) := by
 intro a0 a1 a2 a3 a4 k
 obtain ⟨ih0, ih1⟩ := spec_l1Size.mono_l k
 exact ih0 a0 a1 a2 a3 a4
set_option maxHeartbeats 8000000 in
set_option maxRecDepth 100000 in
theorem spec_l1Size.calls (k : Nat) : ∀ (a0_0 : Int) (a0_1 : ByteArray) (A0_2 : Option Addr) (c0_2 : Nat) (l0_2 : List Int) (a0_3 : Int) (A0_4 : Option Addr) (c0_4 : Nat) (l0_4 : List (S35)) (r : Int) (w : World) (hr0_2 : Kd.C (Kd.int .i64) w A0_2 l0_2.length l0_2) (hc0_2 : l0_2.length ≤ c0_2) (hr0_4 : Kd.C k35 w A0_4 l0_4.length l0_4) (hc0_4 : l0_4.length ≤ c0_4) (h : spec_l1Size.f k a0_0 a0_1 l0_2 a0_3 l0_4 = some r),
  Calls Tryd.prog 32 #[.agg #[.int .i64 a0_0, .string a0_1, .slice A0_2 l0_2.length c0_2, .int .i64 a0_3, .slice A0_4 l0_4.length c0_4]] w fun e w' => e = .returned (.int .i64 r) ∧ Below w.heap.size w w' := by
 induction k using Nat.strongRecOn with
 | _ k ih =>
 intro a0_0 a0_1 A0_2 c0_2 l0_2 a0_3 A0_4 c0_4 l0_4 r w hr0_2 hc0_2 hr0_4 hc0_4 h
 cases k with
 | zero => exact absurd h (by simp [spec_l1Size.f])
 | succ k =>
 simp only [spec_l1Size.f] at h
 have hu35 := Tryd.underlying35
 have HR0_2 := Aq hr0_2
 have HC0_2 := Aq hc0_2
 clear hr0_2 hc0_2
 have HR0_4 := Aq hr0_4
 have HC0_4 := Aq hc0_4
 clear hr0_4 hc0_4
 have HB := Aq (Below.refl w.heap.size w)
 have H : (spec_l1Size.l0 k 1 0 a0_0 a0_1 l0_2 a0_3 l0_4) = some r := h
 clear h
 have H' := Aq H
 clear H
 go_enter Tryd.func32, Tryd.ntmps32
 go_wp2_with (first | ((with_reducible refine gate_dst (N := 1) rfl ?_); refine box_event ?hg (N := 1) ?hd (cs := #[.int .i64 a0_0, .string a0_1, .slice A0_2 l0_2.length c0_2, .int .i64 a0_3, .slice A0_4 l0_4.length c0_4]) (t := 35) ?hr ?_; (case hd => rfl); (case hg => rfl); (case hr => first | (go_simp; done) | (go_simp; rfl)); intro gb9140 hg w2 hbox hb; have n0_ := Aq (below_step (by repeat (first | (with_reducible first | exact HB.out | apply zB | apply zC | apply zE) | exact HB.out)) hb); have n1_ := Aq (hbox); have n2_ := Aq ((by rw [hg]; exact (below_size (by repeat (first | (with_reducible first | exact HB.out | apply zB | apply zC | apply zE) | exact HB.out))) : w.heap.size ≤ gb9140)); have n3_ := Aq ((by rw [hg]; exact (below_size (by repeat (first | (with_reducible first | exact HB.out | apply zB | apply zC | apply zE) | exact HB.out))) : w.heap.size ≤ gb9140)); clear HB; have HB := n0_; have BK9140 := n1_; have GW9140 := n2_; have GE9140 := n3_; clear n0_ n1_ n2_ n3_ hb hbox hg))
 go_loopg [3, 4] k (fun kq v3 v4 w' => ∃ (x3_1 : Int) (x4_1 : Int), v3 = .int .i64 x3_1 ∧ v4 = .int .i64 x4_1 ∧ Aside0 (spec_l1Size.l0 kq x3_1 x4_1 a0_0 a0_1 l0_2 a0_3 l0_4 = some r) ∧ Aside0 (kq ≤ k) ∧ Aside0 (w'.heap[gb9140]? = some (.cells #[.int .i64 a0_0, .string a0_1, (.slice A0_2 l0_2.length c0_2), .int .i64 a0_3, (.slice A0_4 l0_4.length c0_4)] 35 (0, 0))) ∧ Aside0 (Below w.heap.size w w'))
 case atStart => exact ⟨(1), (0), (by first | rfl | (simp; done) | (simp [*]; done)), (by first | rfl | (simp; done) | (simp [*]; done)), H', ⟨Nat.le_refl _⟩, ⟨by (with_reducible repeat (first | refine zN ?_ _ | refine zD ?_ | refine zA ?_ _)); exact BK9140.out⟩, ⟨by repeat (first | (with_reducible first | exact HB.out | apply zB | apply zC | apply zE | refine below_set ?_ GE9140.out) | exact HB.out)⟩⟩
 case round =>
  clear H'
  try clear p2
  obtain ⟨x3_1, x4_1, rfl, rfl, HA, HK1, BK9140, HB⟩ := hrel
  cases gk with
  | zero => exact absurd HA.out (by simp [spec_l1Size.l0])
  | succ k1 =>
   have H := HA.out
   clear HA
   simp only [spec_l1Size.l0] at H
   by_cases c3 : x4_1 < (l0_4.length : Int)
   ·rw [if_pos c3] at H
    have c3b0 : decide (x4_1 < (l0_4.length : Int)) = true := decide_eq_true c3
    clear c3
    by_cases c4 : 0 ≤ x4_1
    ·rw [if_pos c4] at H
     have c4b0 : decide (0 ≤ x4_1) = true := decide_eq_true c4
     clear c4
     replace H := Option.bind_eq_some_iff.mp H
     obtain ⟨t9142, A50, H⟩ := H
     replace H : (spec_l1Size.l0 k1 (wrap64 (x3_1 + t9142)) (wrap64 (x4_1 + 1)) a0_0 a0_1 l0_2 a0_3 l0_4) = some r := H
     have A5 := Aq A50
     clear A50
     have H' := Aq H
     clear H
     have hcz6_0 : wr.cell? ⟨gb9140, 0, none⟩ = some (.int .i64 a0_0) := (blk_cell BK9140.out 0).trans rfl
     have hcz6_1 : wr.cell? ⟨gb9140, 1, none⟩ = some (.string a0_1) := (blk_cell BK9140.out 1).trans rfl
     have hcz6_2 : wr.cell? ⟨gb9140, 2, none⟩ = some (.slice A0_2 l0_2.length c0_2) := (blk_cell BK9140.out 2).trans rfl
     have hcz6_3 : wr.cell? ⟨gb9140, 3, none⟩ = some (.int .i64 a0_3) := (blk_cell BK9140.out 3).trans rfl
     have hcz6_4 : wr.cell? ⟨gb9140, 4, none⟩ = some (.slice A0_4 l0_4.length c0_4) := (blk_cell BK9140.out 4).trans rfl
     have hfz6_0 := blk_frozen BK9140.out 0
     have hfz6_1 := blk_frozen BK9140.out 1
     have hfz6_2 := blk_frozen BK9140.out 2
     have hfz6_3 := blk_frozen BK9140.out 3
     have hfz6_4 := blk_frozen BK9140.out 4
     have p9141 : 0 ≤ (x4_1 : Int) := of_decide_eq_true (by first | (with_reducible assumption) | assumption)
     have q9141 : x4_1 < (l0_4.length : Int) := of_decide_eq_true (by first | (with_reducible assumption) | assumption)
     obtain ⟨ad9141, A9141_2, c9141_2, A9141_4, c9141_4, e9141, hx9141_0, hx9141_1, hx9141_2, hx9141_3, hx9141_4, hl9141_2, hi9141_2, hl9141_4, hi9141_4⟩ := at_T35 HR0_4.out x4_1 p9141 q9141
     cases e9141
     replace hx9141_0 := (HB.out.cell (World.block_lt_of_cell? w _ hx9141_0)).trans hx9141_0
     replace hx9141_1 := (HB.out.cell (World.block_lt_of_cell? w _ hx9141_1)).trans hx9141_1
     replace hx9141_2 := (HB.out.cell (World.block_lt_of_cell? w _ hx9141_2)).trans hx9141_2
     replace hx9141_3 := (HB.out.cell (World.block_lt_of_cell? w _ hx9141_3)).trans hx9141_3
     replace hx9141_4 := (HB.out.cell (World.block_lt_of_cell? w _ hx9141_4)).trans hx9141_4
     have HR9141_2 := Aq hi9141_2
     have HC9141_2 := Aq hl9141_2
     clear hi9141_2 hl9141_2
     have HR9141_4 := Aq hi9141_4
     have HC9141_4 := Aq hl9141_4
     clear hi9141_4 hl9141_4
     replace p9141 := eq_true p9141
     replace q9141 := eq_true q9141
     go_wp2_with (first | ((with_reducible refine gate_callee (f := 32) rfl ?_); refine goesL_ (some 18) rfl rfl Tryd.func32 (by kernel_rfl) rfl #[.agg #[.int .i64 ((rd_T35 l0_4 x4_1).f0), .string ((rd_T35 l0_4 x4_1).f1), .slice A9141_2 ((rd_T35 l0_4 x4_1).f2).length c9141_2, .int .i64 ((rd_T35 l0_4 x4_1).f3), .slice A9141_4 ((rd_T35 l0_4 x4_1).f4).length c9141_4]] rfl (by (try simp only [List.map_toArray, List.map_cons, List.map_nil]); first | done | rfl | (simp only [List.length_drop, List.length_take]; rfl)) ?_; (with_reducible refine (ih k1 (by have := HK1.out; omega) ((rd_T35 l0_4 x4_1).f0) ((rd_T35 l0_4 x4_1).f1) _ _ ((rd_T35 l0_4 x4_1).f2) ((rd_T35 l0_4 x4_1).f3) _ _ ((rd_T35 l0_4 x4_1).f4) t9142 _ ?side1 ?side2 ?side3 ?side4 A5.out).mono ?_); (case side1 => repeat (first | exact (Kd.C_below HR9141_2.out HB.out) | (with_reducible refine Kd.C_alloc ?_ _) | (with_reducible refine Kd.C_drewN ?_ _) | (with_reducible refine Kd.C_drew ?_))); (case side2 => exact HC9141_2.out); (case side3 => repeat (first | exact (Kd.C_below HR9141_4.out HB.out) | (with_reducible refine Kd.C_alloc ?_ _) | (with_reducible refine Kd.C_drewN ?_ _) | (with_reducible refine Kd.C_drew ?_))); (case side4 => exact HC9141_4.out); rintro e w7 ⟨rfl, hb⟩; refine ⟨_, rfl, ?_⟩; have n0_ := Aq (blk_below (g := gb9140) (o := .cells #[.int .i64 a0_0, .string a0_1, .slice A0_2 l0_2.length c0_2, .int .i64 a0_3, .slice (some ad9141) l0_4.length c0_4] 35 (0, 0)) (by (with_reducible repeat (first | refine zN ?_ _ | refine zD ?_ | refine zA ?_ _)); exact BK9140.out) hb); have n1_ := Aq (below_step (by repeat (first | (with_reducible first | exact HB.out | apply zB | apply zC | apply zE | refine below_set ?_ GE9140.out) | exact HB.out)) hb); clear BK9140 HB; have BK9140 := n0_; have HB := n1_; clear n0_ n1_; (try clear hb); (try clear hb2); (try clear hk); (try clear hi)))
     go_roundg k1
     case measure => have := HK1.out; omega
     case rel => exact ⟨(wrap64 (x3_1 + t9142)), (wrap64 (x4_1 + 1)), (by first | rfl | (simp; done) | (simp [*]; done)), (by first | rfl | (simp; done) | (simp [*]; done)), H', ⟨by have := HK1.out; omega⟩, ⟨by (with_reducible repeat (first | refine zN ?_ _ | refine zD ?_ | refine zA ?_ _)); exact BK9140.out⟩, ⟨by repeat (first | (with_reducible first | exact HB.out | apply zB | apply zC | apply zE | refine below_set ?_ GE9140.out) | exact HB.out)⟩⟩
    ·rw [if_neg c4] at H
     exact absurd H (by simp)
   ·rw [if_neg c3] at H
    have c3b0 : decide (x4_1 < (l0_4.length : Int)) = false := decide_eq_false c3
    clear c3
    obtain rfl := Option.some.inj H
    have hcz8_0 : wr.cell? ⟨gb9140, 0, none⟩ = some (.int .i64 a0_0) := (blk_cell BK9140.out 0).trans rfl
    have hcz8_1 : wr.cell? ⟨gb9140, 1, none⟩ = some (.string a0_1) := (blk_cell BK9140.out 1).trans rfl
    have hcz8_2 : wr.cell? ⟨gb9140, 2, none⟩ = some (.slice A0_2 l0_2.length c0_2) := (blk_cell BK9140.out 2).trans rfl
    have hcz8_3 : wr.cell? ⟨gb9140, 3, none⟩ = some (.int .i64 a0_3) := (blk_cell BK9140.out 3).trans rfl
    have hcz8_4 : wr.cell? ⟨gb9140, 4, none⟩ = some (.slice A0_4 l0_4.length c0_4) := (blk_cell BK9140.out 4).trans rfl
    have hfz8_0 := blk_frozen BK9140.out 0
    have hfz8_1 := blk_frozen BK9140.out 1
    have hfz8_2 := blk_frozen BK9140.out 2
    have hfz8_3 := blk_frozen BK9140.out 3
    have hfz8_4 := blk_frozen BK9140.out 4
    go_wp2
    go_ret
    exact ⟨by first | rfl | (simp [errW_none, errW_some] <;> rfl) | (simp [*, errW_none, errW_some] <;> rfl), by repeat (first | (with_reducible first | exact HB.out | apply zB | apply zC | apply zE | refine below_set ?_ GE9140.out) | exact HB.out)⟩
def spec_ExpFormOk.f (k : Nat) (a0_0 : Int) (a0_1 : ByteArray) (l0_2 : List Int) (a0_3 : Int) (l0_4 : List (S35)) : Option (Bool) := (spec_l1Ok.f k a0_0 a0_1 l0_2 a0_3 l0_4 0).bind fun t9144 => (if t9144 = true then ((spec_l1Size.f k a0_0 a0_1 l0_2 a0_3 l0_4).bind fun t9145 => (some (decide (t9145 ≤ 1500)))) else (some false))
theorem spec_ExpFormOk.mono : ∀ a0 a1 a2 a3 a4 k, LeO (spec_ExpFormOk.f k a0 a1 a2 a3 a4) (spec_ExpFormOk.f (k + 1) a0 a1 a2 a3 a4) := by
 intro a0 a1 a2 a3 a4 k
 unfold spec_ExpFormOk.f
 repeat' first
   | (with_reducible exact spec_l1Ok.mono _ _ _ _ _ _ _)
   | (with_reducible exact spec_l1Size.mono _ _ _ _ _ _)
   | (with_reducible exact LeO.refl _)
   | (with_reducible exact LeO.none _)
   | (with_reducible refine LeO.ite ?_ ?_)
   | (with_reducible refine LeO.bind ?_ (fun _ => ?_))
   | exact spec_l1Ok.mono _ _ _ _ _ _ _
   | exact spec_l1Size.mono _ _ _ _ _ _
   | exact LeO.none _
   | refine LeO.ite ?_ ?_
   | refine LeO.bind ?_ (fun _ => ?_)
set_option maxHeartbeats 8000000 in
set_option maxRecDepth 100000 in
theorem spec_ExpFormOk.calls (k : Nat) (a0_0 : Int) (a0_1 : ByteArray) (A0_2 : Option Addr) (c0_2 : Nat) (l0_2 : List Int) (a0_3 : Int) (A0_4 : Option Addr) (c0_4 : Nat) (l0_4 : List (S35)) (r : Bool) (w : World) (hr0_2 : Kd.C (Kd.int .i64) w A0_2 l0_2.length l0_2) (hc0_2 : l0_2.length ≤ c0_2) (hr0_4 : Kd.C k35 w A0_4 l0_4.length l0_4) (hc0_4 : l0_4.length ≤ c0_4) (h : spec_ExpFormOk.f k a0_0 a0_1 l0_2 a0_3 l0_4 = some r) :
  Calls Tryd.prog 12 #[.agg #[.int .i64 a0_0, .string a0_1, .slice A0_2 l0_2.length c0_2, .int .i64 a0_3, .slice A0_4 l0_4.length c0_4]] w fun e w' => e = .returned (.bool r) ∧ Below w.heap.size w w' := by
 have hu35 := Tryd.underlying35
 have HR0_2 := Aq hr0_2
 have HC0_2 := Aq hc0_2
 clear hr0_2 hc0_2
 have HR0_4 := Aq hr0_4
 have HC0_4 := Aq hc0_4
 clear hr0_4 hc0_4
 have HB := Aq (Below.refl w.heap.size w)
 have H : ((spec_l1Ok.f k a0_0 a0_1 l0_2 a0_3 l0_4 0).bind fun t9144 => (if t9144 = true then ((spec_l1Size.f k a0_0 a0_1 l0_2 a0_3 l0_4).bind fun t9145 => (some (decide (t9145 ≤ 1500)))) else (some false))) = some r := h
 clear h
 replace H := Option.bind_eq_some_iff.mp H
 obtain ⟨t9144, A20, H⟩ := H
 replace H : (if t9144 = true then ((spec_l1Size.f k a0_0 a0_1 l0_2 a0_3 l0_4).bind fun t9145 => (some (decide (t9145 ≤ 1500)))) else (some false)) = some r := H
 have A2 := Aq A20
 clear A20
 by_cases c3 : t9144 = true
 ·subst c3
  have H1 : ((spec_l1Size.f k a0_0 a0_1 l0_2 a0_3 l0_4).bind fun t9145 => (some (decide (t9145 ≤ 1500)))) = some r := by rw [if_pos rfl] at H; exact H
  clear H
  have H := H1
  clear H1
  replace H := Option.bind_eq_some_iff.mp H
  obtain ⟨t9145, A40, H⟩ := H
  replace H : (some (decide (t9145 ≤ 1500))) = some r := H
  have A4 := Aq A40
  clear A40
  obtain rfl := Option.some.inj H
  go_enter Tryd.func12, Tryd.ntmps12
  go_wp2_with (first | ((with_reducible refine gate_dst (N := 1) rfl ?_); refine box_event ?hg (N := 1) ?hd (cs := #[.int .i64 a0_0, .string a0_1, .slice A0_2 l0_2.length c0_2, .int .i64 a0_3, .slice A0_4 l0_4.length c0_4]) (t := 35) ?hr ?_; (case hd => rfl); (case hg => rfl); (case hr => first | (go_simp; done) | (go_simp; rfl)); intro gb9143 hg w5 hbox hb; have n0_ := Aq (below_step (by repeat (first | (with_reducible first | exact HB.out | apply zB | apply zC | apply zE) | exact HB.out)) hb); have n1_ := Aq (hbox); have n2_ := Aq ((by rw [hg]; exact (below_size (by repeat (first | (with_reducible first | exact HB.out | apply zB | apply zC | apply zE) | exact HB.out))) : w.heap.size ≤ gb9143)); have n3_ := Aq ((by rw [hg]; exact (below_size (by repeat (first | (with_reducible first | exact HB.out | apply zB | apply zC | apply zE) | exact HB.out))) : w.heap.size ≤ gb9143)); clear HB; have HB := n0_; have BK9143 := n1_; have GW9143 := n2_; have GE9143 := n3_; clear n0_ n1_ n2_ n3_ hb hbox hg; have hcz6_0 : w5.cell? ⟨gb9143, 0, none⟩ = some (.int .i64 a0_0) := (blk_cell BK9143.out 0).trans rfl; have hcz6_1 : w5.cell? ⟨gb9143, 1, none⟩ = some (.string a0_1) := (blk_cell BK9143.out 1).trans rfl; have hcz6_2 : w5.cell? ⟨gb9143, 2, none⟩ = some (.slice A0_2 l0_2.length c0_2) := (blk_cell BK9143.out 2).trans rfl; have hcz6_3 : w5.cell? ⟨gb9143, 3, none⟩ = some (.int .i64 a0_3) := (blk_cell BK9143.out 3).trans rfl; have hcz6_4 : w5.cell? ⟨gb9143, 4, none⟩ = some (.slice A0_4 l0_4.length c0_4) := (blk_cell BK9143.out 4).trans rfl; have hfz6_0 := blk_frozen BK9143.out 0; have hfz6_1 := blk_frozen BK9143.out 1; have hfz6_2 := blk_frozen BK9143.out 2; have hfz6_3 := blk_frozen BK9143.out 3; have hfz6_4 := blk_frozen BK9143.out 4) | ((with_reducible refine gate_callee (f := 31) rfl ?_); refine goesL_ (some 4) rfl rfl Tryd.func31 (by kernel_rfl) rfl #[.agg #[.int .i64 a0_0, .string a0_1, .slice A0_2 l0_2.length c0_2, .int .i64 a0_3, .slice A0_4 l0_4.length c0_4], .int .i64 0] rfl (by (try simp only [List.map_toArray, List.map_cons, List.map_nil]); first | done | rfl | (simp only [List.length_drop, List.length_take]; rfl)) ?_; (with_reducible refine (spec_l1Ok.calls k a0_0 a0_1 _ _ l0_2 a0_3 _ _ l0_4 0 true _ ?side1 ?side2 ?side3 ?side4 A2.out).mono ?_); (case side1 => repeat (first | exact (Kd.C_below HR0_2.out HB.out) | (with_reducible refine Kd.C_alloc ?_ _) | (with_reducible refine Kd.C_drewN ?_ _) | (with_reducible refine Kd.C_drew ?_))); (case side2 => exact HC0_2.out); (case side3 => repeat (first | exact (Kd.C_below HR0_4.out HB.out) | (with_reducible refine Kd.C_alloc ?_ _) | (with_reducible refine Kd.C_drewN ?_ _) | (with_reducible refine Kd.C_drew ?_))); (case side4 => exact HC0_4.out); rintro e w7 ⟨rfl, hb⟩; refine ⟨_, rfl, ?_⟩; have n0_ := Aq (blk_below (g := gb9143) (o := .cells #[.int .i64 a0_0, .string a0_1, .slice A0_2 l0_2.length c0_2, .int .i64 a0_3, .slice A0_4 l0_4.length c0_4] 35 (0, 0)) (by (with_reducible repeat (first | refine zN ?_ _ | refine zD ?_ | refine zA ?_ _)); exact BK9143.out) hb); have n1_ := Aq (below_step (by repeat (first | (with_reducible first | exact HB.out | apply zB | apply zC | apply zE | refine below_set ?_ GE9143.out) | exact HB.out)) hb); clear BK9143 HB; have BK9143 := n0_; have HB := n1_; clear n0_ n1_; (try clear hb); (try clear hb2); (try clear hk); (try clear hi); have hcz8_0 : w7.cell? ⟨gb9143, 0, none⟩ = some (.int .i64 a0_0) := (blk_cell BK9143.out 0).trans rfl; have hcz8_1 : w7.cell? ⟨gb9143, 1, none⟩ = some (.string a0_1) := (blk_cell BK9143.out 1).trans rfl; have hcz8_2 : w7.cell? ⟨gb9143, 2, none⟩ = some (.slice A0_2 l0_2.length c0_2) := (blk_cell BK9143.out 2).trans rfl; have hcz8_3 : w7.cell? ⟨gb9143, 3, none⟩ = some (.int .i64 a0_3) := (blk_cell BK9143.out 3).trans rfl; have hcz8_4 : w7.cell? ⟨gb9143, 4, none⟩ = some (.slice A0_4 l0_4.length c0_4) := (blk_cell BK9143.out 4).trans rfl; have hfz8_0 := blk_frozen BK9143.out 0; have hfz8_1 := blk_frozen BK9143.out 1; have hfz8_2 := blk_frozen BK9143.out 2; have hfz8_3 := blk_frozen BK9143.out 3; have hfz8_4 := blk_frozen BK9143.out 4) | (go_at_call 32; (with_reducible refine (spec_l1Size.calls k a0_0 a0_1 _ _ l0_2 a0_3 _ _ l0_4 t9145 _ ?side1 ?side2 ?side3 ?side4 A4.out).mono ?_); (case side1 => repeat (first | exact (Kd.C_below HR0_2.out HB.out) | (with_reducible refine Kd.C_alloc ?_ _) | (with_reducible refine Kd.C_drewN ?_ _) | (with_reducible refine Kd.C_drew ?_))); (case side2 => exact HC0_2.out); (case side3 => repeat (first | exact (Kd.C_below HR0_4.out HB.out) | (with_reducible refine Kd.C_alloc ?_ _) | (with_reducible refine Kd.C_drewN ?_ _) | (with_reducible refine Kd.C_drew ?_))); (case side4 => exact HC0_4.out); rintro e w9 ⟨rfl, hb⟩; have n0_ := Aq (blk_below (g := gb9143) (o := .cells #[.int .i64 a0_0, .string a0_1, .slice A0_2 l0_2.length c0_2, .int .i64 a0_3, .slice A0_4 l0_4.length c0_4] 35 (0, 0)) (by (with_reducible repeat (first | refine zN ?_ _ | refine zD ?_ | refine zA ?_ _)); exact BK9143.out) hb); have n1_ := Aq (below_step (by repeat (first | (with_reducible first | exact HB.out | apply zB | apply zC | apply zE | refine below_set ?_ GE9143.out) | exact HB.out)) hb); clear BK9143 HB; have BK9143 := n0_; have HB := n1_; clear n0_ n1_; (try clear hb); (try clear hb2); (try clear hk); (try clear hi)))
  go_ret
  exact ⟨by first | rfl | (simp [errW_none, errW_some] <;> rfl) | (simp [*, errW_none, errW_some] <;> rfl), by repeat (first | (with_reducible first | exact HB.out | apply zB | apply zC | apply zE | refine below_set ?_ GE9143.out) | exact HB.out)⟩
 ·replace c3 := Bool.eq_false_iff.mpr c3
  subst c3
  have H1 : (some false) = some r := by rw [if_neg (show ¬ (false = true) by decide)] at H; exact H
  clear H
  have H := H1
  clear H1
  obtain rfl := Option.some.inj H
  go_enter Tryd.func12, Tryd.ntmps12
  go_wp2_with (first | ((with_reducible refine gate_dst (N := 1) rfl ?_); refine box_event ?hg (N := 1) ?hd (cs := #[.int .i64 a0_0, .string a0_1, .slice A0_2 l0_2.length c0_2, .int .i64 a0_3, .slice A0_4 l0_4.length c0_4]) (t := 35) ?hr ?_; (case hd => rfl); (case hg => rfl); (case hr => first | (go_simp; done) | (go_simp; rfl)); intro gb9143 hg w10 hbox hb; have n0_ := Aq (below_step (by repeat (first | (with_reducible first | exact HB.out | apply zB | apply zC | apply zE) | exact HB.out)) hb); have n1_ := Aq (hbox); have n2_ := Aq ((by rw [hg]; exact (below_size (by repeat (first | (with_reducible first | exact HB.out | apply zB | apply zC | apply zE) | exact HB.out))) : w.heap.size ≤ gb9143)); have n3_ := Aq ((by rw [hg]; exact (below_size (by repeat (first | (with_reducible first | exact HB.out | apply zB | apply zC | apply zE) | exact HB.out))) : w.heap.size ≤ gb9143)); clear HB; have HB := n0_; have BK9143 := n1_; have GW9143 := n2_; have GE9143 := n3_; clear n0_ n1_ n2_ n3_ hb hbox hg; have hcz11_0 : w10.cell? ⟨gb9143, 0, none⟩ = some (.int .i64 a0_0) := (blk_cell BK9143.out 0).trans rfl; have hcz11_1 : w10.cell? ⟨gb9143, 1, none⟩ = some (.string a0_1) := (blk_cell BK9143.out 1).trans rfl; have hcz11_2 : w10.cell? ⟨gb9143, 2, none⟩ = some (.slice A0_2 l0_2.length c0_2) := (blk_cell BK9143.out 2).trans rfl; have hcz11_3 : w10.cell? ⟨gb9143, 3, none⟩ = some (.int .i64 a0_3) := (blk_cell BK9143.out 3).trans rfl; have hcz11_4 : w10.cell? ⟨gb9143, 4, none⟩ = some (.slice A0_4 l0_4.length c0_4) := (blk_cell BK9143.out 4).trans rfl; have hfz11_0 := blk_frozen BK9143.out 0; have hfz11_1 := blk_frozen BK9143.out 1; have hfz11_2 := blk_frozen BK9143.out 2; have hfz11_3 := blk_frozen BK9143.out 3; have hfz11_4 := blk_frozen BK9143.out 4) | ((with_reducible refine gate_callee (f := 31) rfl ?_); refine goesL_ (some 4) rfl rfl Tryd.func31 (by kernel_rfl) rfl #[.agg #[.int .i64 a0_0, .string a0_1, .slice A0_2 l0_2.length c0_2, .int .i64 a0_3, .slice A0_4 l0_4.length c0_4], .int .i64 0] rfl (by (try simp only [List.map_toArray, List.map_cons, List.map_nil]); first | done | rfl | (simp only [List.length_drop, List.length_take]; rfl)) ?_; (with_reducible refine (spec_l1Ok.calls k a0_0 a0_1 _ _ l0_2 a0_3 _ _ l0_4 0 false _ ?side1 ?side2 ?side3 ?side4 A2.out).mono ?_); (case side1 => repeat (first | exact (Kd.C_below HR0_2.out HB.out) | (with_reducible refine Kd.C_alloc ?_ _) | (with_reducible refine Kd.C_drewN ?_ _) | (with_reducible refine Kd.C_drew ?_))); (case side2 => exact HC0_2.out); (case side3 => repeat (first | exact (Kd.C_below HR0_4.out HB.out) | (with_reducible refine Kd.C_alloc ?_ _) | (with_reducible refine Kd.C_drewN ?_ _) | (with_reducible refine Kd.C_drew ?_))); (case side4 => exact HC0_4.out); rintro e w12 ⟨rfl, hb⟩; refine ⟨_, rfl, ?_⟩; have n0_ := Aq (blk_below (g := gb9143) (o := .cells #[.int .i64 a0_0, .string a0_1, .slice A0_2 l0_2.length c0_2, .int .i64 a0_3, .slice A0_4 l0_4.length c0_4] 35 (0, 0)) (by (with_reducible repeat (first | refine zN ?_ _ | refine zD ?_ | refine zA ?_ _)); exact BK9143.out) hb); have n1_ := Aq (below_step (by repeat (first | (with_reducible first | exact HB.out | apply zB | apply zC | apply zE | refine below_set ?_ GE9143.out) | exact HB.out)) hb); clear BK9143 HB; have BK9143 := n0_; have HB := n1_; clear n0_ n1_; (try clear hb); (try clear hb2); (try clear hk); (try clear hi)))
  go_ret
  exact ⟨by first | rfl | (simp [errW_none, errW_some] <;> rfl) | (simp [*, errW_none, errW_some] <;> rfl), by repeat (first | (with_reducible first | exact HB.out | apply zB | apply zC | apply zE | refine below_set ?_ GE9143.out) | exact HB.out)⟩
mutual
def spec_l1Show.l0 : Nat → ByteArray → Int → Int → ByteArray → List Int → Int → List (S35) → Option (ByteArray)
 | 0, _, _, _, _, _, _, _ => none
 | k + 1, x3, x4, x9147000, x9147001, x9147002, x9147003, x9147004 => if x4 < (x9147004.length : Int) then (if x4 > 0 then (if x3.size + 1 ≤ 9223372036854775807 then (if x9147000 = 4 then (if (wrap64 (x4 + 1)) = (x9147004.length : Int) then (if (x3 ++ (⟨#[32]⟩ : ByteArray)).size + 2 ≤ 9223372036854775807 then (if 0 ≤ x4 then ((spec_l1Show.f k ((rd_T35 x9147004 x4).f0) ((rd_T35 x9147004 x4).f1) ((rd_T35 x9147004 x4).f2) ((rd_T35 x9147004 x4).f3) ((rd_T35 x9147004 x4).f4)).bind fun t9148 => (if ((x3 ++ (⟨#[32]⟩ : ByteArray)) ++ (⟨#[46, 32]⟩ : ByteArray)).size + t9148.size ≤ 9223372036854775807 then (spec_l1Show.l0 k (((x3 ++ (⟨#[32]⟩ : ByteArray)) ++ (⟨#[46, 32]⟩ : ByteArray)) ++ t9148) (wrap64 (x4 + 1)) x9147000 x9147001 x9147002 x9147003 x9147004) else (none))) else (none)) else (none)) else (if 0 ≤ x4 then ((spec_l1Show.f k ((rd_T35 x9147004 x4).f0) ((rd_T35 x9147004 x4).f1) ((rd_T35 x9147004 x4).f2) ((rd_T35 x9147004 x4).f3) ((rd_T35 x9147004 x4).f4)).bind fun t9150 => (if (x3 ++ (⟨#[32]⟩ : ByteArray)).size + t9150.size ≤ 9223372036854775807 then (spec_l1Show.l0 k ((x3 ++ (⟨#[32]⟩ : ByteArray)) ++ t9150) (wrap64 (x4 + 1)) x9147000 x9147001 x9147002 x9147003 x9147004) else (none))) else (none))) else (if 0 ≤ x4 then ((spec_l1Show.f k ((rd_T35 x9147004 x4).f0) ((rd_T35 x9147004 x4).f1) ((rd_T35 x9147004 x4).f2) ((rd_T35 x9147004 x4).f3) ((rd_T35 x9147004 x4).f4)).bind fun t9152 => (if (x3 ++ (⟨#[32]⟩ : ByteArray)).size + t9152.size ≤ 9223372036854775807 then (spec_l1Show.l0 k ((x3 ++ (⟨#[32]⟩ : ByteArray)) ++ t9152) (wrap64 (x4 + 1)) x9147000 x9147001 x9147002 x9147003 x9147004) else (none))) else (none))) else (none)) else (if x9147000 = 4 then (if (wrap64 (x4 + 1)) = (x9147004.length : Int) then (if x3.size + 2 ≤ 9223372036854775807 then (if 0 ≤ x4 then ((spec_l1Show.f k ((rd_T35 x9147004 x4).f0) ((rd_T35 x9147004 x4).f1) ((rd_T35 x9147004 x4).f2) ((rd_T35 x9147004 x4).f3) ((rd_T35 x9147004 x4).f4)).bind fun t9154 => (if (x3 ++ (⟨#[46, 32]⟩ : ByteArray)).size + t9154.size ≤ 9223372036854775807 then (spec_l1Show.l0 k ((x3 ++ (⟨#[46, 32]⟩ : ByteArray)) ++ t9154) (wrap64 (x4 + 1)) x9147000 x9147001 x9147002 x9147003 x9147004) else (none))) else (none)) else (none)) else (if 0 ≤ x4 then ((spec_l1Show.f k ((rd_T35 x9147004 x4).f0) ((rd_T35 x9147004 x4).f1) ((rd_T35 x9147004 x4).f2) ((rd_T35 x9147004 x4).f3) ((rd_T35 x9147004 x4).f4)).bind fun t9156 => (if x3.size + t9156.size ≤ 9223372036854775807 then (spec_l1Show.l0 k (x3 ++ t9156) (wrap64 (x4 + 1)) x9147000 x9147001 x9147002 x9147003 x9147004) else (none))) else (none))) else (if 0 ≤ x4 then ((spec_l1Show.f k ((rd_T35 x9147004 x4).f0) ((rd_T35 x9147004 x4).f1) ((rd_T35 x9147004 x4).f2) ((rd_T35 x9147004 x4).f3) ((rd_T35 x9147004 x4).f4)).bind fun t9158 => (if x3.size + t9158.size ≤ 9223372036854775807 then (spec_l1Show.l0 k (x3 ++ t9158) (wrap64 (x4 + 1)) x9147000 x9147001 x9147002 x9147003 x9147004) else (none))) else (none)))) else (if x3.size + 1 ≤ 9223372036854775807 then (some (x3 ++ (⟨#[41]⟩ : ByteArray))) else (none))
def spec_l1Show.f : Nat → Int → ByteArray → List Int → Int → List (S35) → Option (ByteArray)
 | 0, _, _, _, _, _ => none
 | k + 1, a0_0, a0_1, l0_2, a0_3, l0_4 => if a0_0 = 1 then (some a0_1) else (if a0_0 = 2 then (some a0_1) else (spec_l1Show.l0 k (⟨#[40]⟩ : ByteArray) 0 a0_0 a0_1 l0_2 a0_3 l0_4))
end
theorem spec_l1Show.mono_l : ∀ k, (∀ y0 y1 y2 y3 y4, LeO (spec_l1Show.f k y0 y1 y2 y3 y4) (spec_l1Show.f (k + 1) y0 y1 y2 y3 y4)) ∧ (∀ y0 y1 y2 y3 y4 y5 y6, LeO (spec_l1Show.l0 k y0 y1 y2 y3 y4 y5 y6) (spec_l1Show.l0 (k + 1) y0 y1 y2 y3 y4 y5 y6))
 | 0 => ⟨fun _ _ _ _ _ r h => by simp [spec_l1Show.f] at h, fun _ _ _ _ _ _ _ r h => by simp [spec_l1Show.l0] at h⟩
 | k + 1 => by
  obtain ⟨ih0, ih1⟩ := spec_l1Show.mono_l k
  refine ⟨?_, ?_⟩
  ·intro y0 y1 y2 y3 y4
   unfold spec_l1Show.f
   repeat' first
   | (with_reducible exact ih0 _ _ _ _ _)
   | (with_reducible exact ih1 _ _ _ _ _ _ _)
   | (with_reducible exact LeO.refl _)
   | (with_reducible exact LeO.none _)
   | (with_reducible refine LeO.ite ?_ ?_)
   | (with_reducible refine LeO.bind ?_ (fun _ => ?_))
   | exact ih0 _ _ _ _ _
   | exact ih1 _ _ _ _ _ _ _
   | exact LeO.none _
   | refine LeO.ite ?_ ?_
   | refine LeO.bind ?_ (fun _ => ?_)
  ·intro y0 y1 y2 y3 y4 y5 y6
   unfold spec_l1Show.l0
   repeat' first
   | (with_reducible exact ih0 _ _ _ _ _)
   | (with_reducible exact ih1 _ _ _ _ _ _ _)
   | (with_reducible exact LeO.refl _)
   | (with_reducible exact LeO.none _)
   | (with_reducible refine LeO.ite ?_ ?_)
   | (with_reducible refine LeO.bind ?_ (fun _ => ?_))
   | exact ih0 _ _ _ _ _
   | exact ih1 _ _ _ _ _ _ _
   | exact LeO.none _
   | refine LeO.ite ?_ ?_
   | refine LeO.bind ?_ (fun _ => ?_)
theorem spec_l1Show.mono : ∀ a0 a1 a2 a3 a4 k, LeO (spec_l1Show.f k a0 a1 a2 a3 a4) (spec_l1Show.f (k + 1) a0 a1 a2 a3 a4) := by
 intro a0 a1 a2 a3 a4 k
 obtain ⟨ih0, ih1⟩ := spec_l1Show.mono_l k
 exact ih0 a0 a1 a2 a3 a4
set_option maxHeartbeats 8000000 in
set_option maxRecDepth 100000 in
theorem spec_l1Show.calls (k : Nat) : ∀ (a0_0 : Int) (a0_1 : ByteArray) (A0_2 : Option Addr) (c0_2 : Nat) (l0_2 : List Int) (a0_3 : Int) (A0_4 : Option Addr) (c0_4 : Nat) (l0_4 : List (S35)) (r : ByteArray) (w : World) (hr0_2 : Kd.C (Kd.int .i64) w A0_2 l0_2.length l0_2) (hc0_2 : l0_2.length ≤ c0_2) (hr0_4 : Kd.C k35 w A0_4 l0_4.length l0_4) (hc0_4 : l0_4.length ≤ c0_4) (h : spec_l1Show.f k a0_0 a0_1 l0_2 a0_3 l0_4 = some r),
  Calls Tryd.prog 36 #[.agg #[.int .i64 a0_0, .string a0_1, .slice A0_2 l0_2.length c0_2, .int .i64 a0_3, .slice A0_4 l0_4.length c0_4]] w fun e w' => e = .returned (.string r) ∧ Below w.heap.size w w' := by
 induction k using Nat.strongRecOn with
 | _ k ih =>
 intro a0_0 a0_1 A0_2 c0_2 l0_2 a0_3 A0_4 c0_4 l0_4 r w hr0_2 hc0_2 hr0_4 hc0_4 h
 cases k with
 | zero => exact absurd h (by simp [spec_l1Show.f])
 | succ k =>
 simp only [spec_l1Show.f] at h
 have hu35 := Tryd.underlying35
 have HR0_2 := Aq hr0_2
 have HC0_2 := Aq hc0_2
 clear hr0_2 hc0_2
 have HR0_4 := Aq hr0_4
 have HC0_4 := Aq hc0_4
 clear hr0_4 hc0_4
 have HB := Aq (Below.refl w.heap.size w)
 have H : (if a0_0 = 1 then (some a0_1) else (if a0_0 = 2 then (some a0_1) else (spec_l1Show.l0 k (⟨#[40]⟩ : ByteArray) 0 a0_0 a0_1 l0_2 a0_3 l0_4))) = some r := h
 clear h
 by_cases c2 : a0_0 = 1
 ·rw [if_pos c2] at H
  have c2b0 : (a0_0 == 1) = true := beq_iff_eq.mpr c2
  have c2b1 : (a0_0 != 1) = false := bne_eq_false_iff_eq.mpr c2
  clear c2
  obtain rfl := Option.some.inj H
  go_enter Tryd.func36, Tryd.ntmps36
  go_wp2_with (first | ((with_reducible refine gate_dst (N := 1) rfl ?_); (try (refine gate_guard (by rfl) ?_; dsimp only)); refine box_event ?hg (N := 1) ?hd (cs := #[.int .i64 a0_0, .string a0_1, .slice A0_2 l0_2.length c0_2, .int .i64 a0_3, .slice A0_4 l0_4.length c0_4]) (t := 35) ?hr ?_; (case hd => rfl); (case hg => rfl); (case hr => first | (go_simp; done) | (go_simp; rfl)); intro gb9146 hg w3 hbox hb; have n0_ := Aq (below_step (by repeat (first | (with_reducible first | exact HB.out | apply zB | apply zC | apply zE) | exact HB.out)) hb); have n1_ := Aq (hbox); have n2_ := Aq ((by rw [hg]; exact (below_size (by repeat (first | (with_reducible first | exact HB.out | apply zB | apply zC | apply zE) | exact HB.out))) : w.heap.size ≤ gb9146)); have n3_ := Aq ((by rw [hg]; exact (below_size (by repeat (first | (with_reducible first | exact HB.out | apply zB | apply zC | apply zE) | exact HB.out))) : w.heap.size ≤ gb9146)); clear HB; have HB := n0_; have BK9146 := n1_; have GW9146 := n2_; have GE9146 := n3_; clear n0_ n1_ n2_ n3_ hb hbox hg; have hcz4_0 : w3.cell? ⟨gb9146, 0, none⟩ = some (.int .i64 a0_0) := (blk_cell BK9146.out 0).trans rfl; have hcz4_1 : w3.cell? ⟨gb9146, 1, none⟩ = some (.string a0_1) := (blk_cell BK9146.out 1).trans rfl; have hcz4_2 : w3.cell? ⟨gb9146, 2, none⟩ = some (.slice A0_2 l0_2.length c0_2) := (blk_cell BK9146.out 2).trans rfl; have hcz4_3 : w3.cell? ⟨gb9146, 3, none⟩ = some (.int .i64 a0_3) := (blk_cell BK9146.out 3).trans rfl; have hcz4_4 : w3.cell? ⟨gb9146, 4, none⟩ = some (.slice A0_4 l0_4.length c0_4) := (blk_cell BK9146.out 4).trans rfl; have hfz4_0 := blk_frozen BK9146.out 0; have hfz4_1 := blk_frozen BK9146.out 1; have hfz4_2 := blk_frozen BK9146.out 2; have hfz4_3 := blk_frozen BK9146.out 3; have hfz4_4 := blk_frozen BK9146.out 4))
  go_ret
  exact ⟨by first | rfl | (simp [errW_none, errW_some] <;> rfl) | (simp [*, errW_none, errW_some] <;> rfl), by repeat (first | (with_reducible first | exact HB.out | apply zB | apply zC | apply zE | refine below_set ?_ GE9146.out) | exact HB.out)⟩
 ·rw [if_neg c2] at H
  have c2b0 : (a0_0 == 1) = false := beq_eq_false_iff_ne.mpr c2
  have c2b1 : (a0_0 != 1) = true := bne_iff_ne.mpr c2
  by_cases c5 : a0_0 = 2
  ·rw [if_pos c5] at H
   have c5b0 : (a0_0 == 2) = true := beq_iff_eq.mpr c5
   have c5b1 : (a0_0 != 2) = false := bne_eq_false_iff_eq.mpr c5
   clear c5
   obtain rfl := Option.some.inj H
   go_enter Tryd.func36, Tryd.ntmps36
   go_wp2_with (first | ((with_reducible refine gate_dst (N := 1) rfl ?_); (try (refine gate_guard (by rfl) ?_; dsimp only)); refine box_event ?hg (N := 1) ?hd (cs := #[.int .i64 a0_0, .string a0_1, .slice A0_2 l0_2.length c0_2, .int .i64 a0_3, .slice A0_4 l0_4.length c0_4]) (t := 35) ?hr ?_; (case hd => rfl); (case hg => rfl); (case hr => first | (go_simp; done) | (go_simp; rfl)); intro gb9146 hg w6 hbox hb; have n0_ := Aq (below_step (by repeat (first | (with_reducible first | exact HB.out | apply zB | apply zC | apply zE) | exact HB.out)) hb); have n1_ := Aq (hbox); have n2_ := Aq ((by rw [hg]; exact (below_size (by repeat (first | (with_reducible first | exact HB.out | apply zB | apply zC | apply zE) | exact HB.out))) : w.heap.size ≤ gb9146)); have n3_ := Aq ((by rw [hg]; exact (below_size (by repeat (first | (with_reducible first | exact HB.out | apply zB | apply zC | apply zE) | exact HB.out))) : w.heap.size ≤ gb9146)); clear HB; have HB := n0_; have BK9146 := n1_; have GW9146 := n2_; have GE9146 := n3_; clear n0_ n1_ n2_ n3_ hb hbox hg; have hcz7_0 : w6.cell? ⟨gb9146, 0, none⟩ = some (.int .i64 a0_0) := (blk_cell BK9146.out 0).trans rfl; have hcz7_1 : w6.cell? ⟨gb9146, 1, none⟩ = some (.string a0_1) := (blk_cell BK9146.out 1).trans rfl; have hcz7_2 : w6.cell? ⟨gb9146, 2, none⟩ = some (.slice A0_2 l0_2.length c0_2) := (blk_cell BK9146.out 2).trans rfl; have hcz7_3 : w6.cell? ⟨gb9146, 3, none⟩ = some (.int .i64 a0_3) := (blk_cell BK9146.out 3).trans rfl; have hcz7_4 : w6.cell? ⟨gb9146, 4, none⟩ = some (.slice A0_4 l0_4.length c0_4) := (blk_cell BK9146.out 4).trans rfl; have hfz7_0 := blk_frozen BK9146.out 0; have hfz7_1 := blk_frozen BK9146.out 1; have hfz7_2 := blk_frozen BK9146.out 2; have hfz7_3 := blk_frozen BK9146.out 3; have hfz7_4 := blk_frozen BK9146.out 4))
   go_ret
   exact ⟨by first | rfl | (simp [errW_none, errW_some] <;> rfl) | (simp [*, errW_none, errW_some] <;> rfl), by repeat (first | (with_reducible first | exact HB.out | apply zB | apply zC | apply zE | refine below_set ?_ GE9146.out) | exact HB.out)⟩
  ·rw [if_neg c5] at H
   have c5b0 : (a0_0 == 2) = false := beq_eq_false_iff_ne.mpr c5
   have c5b1 : (a0_0 != 2) = true := bne_iff_ne.mpr c5
   have H' := Aq H
   clear H
   go_enter Tryd.func36, Tryd.ntmps36
   go_wp2_with (first | ((with_reducible refine gate_dst (N := 1) rfl ?_); (try (refine gate_guard (by rfl) ?_; dsimp only)); refine box_event ?hg (N := 1) ?hd (cs := #[.int .i64 a0_0, .string a0_1, .slice A0_2 l0_2.length c0_2, .int .i64 a0_3, .slice A0_4 l0_4.length c0_4]) (t := 35) ?hr ?_; (case hd => rfl); (case hg => rfl); (case hr => first | (go_simp; done) | (go_simp; rfl)); intro gb9146 hg w8 hbox hb; have n0_ := Aq (below_step (by repeat (first | (with_reducible first | exact HB.out | apply zB | apply zC | apply zE) | exact HB.out)) hb); have n1_ := Aq (hbox); have n2_ := Aq ((by rw [hg]; exact (below_size (by repeat (first | (with_reducible first | exact HB.out | apply zB | apply zC | apply zE) | exact HB.out))) : w.heap.size ≤ gb9146)); have n3_ := Aq ((by rw [hg]; exact (below_size (by repeat (first | (with_reducible first | exact HB.out | apply zB | apply zC | apply zE) | exact HB.out))) : w.heap.size ≤ gb9146)); clear HB; have HB := n0_; have BK9146 := n1_; have GW9146 := n2_; have GE9146 := n3_; clear n0_ n1_ n2_ n3_ hb hbox hg; have hcz9_0 : w8.cell? ⟨gb9146, 0, none⟩ = some (.int .i64 a0_0) := (blk_cell BK9146.out 0).trans rfl; have hcz9_1 : w8.cell? ⟨gb9146, 1, none⟩ = some (.string a0_1) := (blk_cell BK9146.out 1).trans rfl; have hcz9_2 : w8.cell? ⟨gb9146, 2, none⟩ = some (.slice A0_2 l0_2.length c0_2) := (blk_cell BK9146.out 2).trans rfl; have hcz9_3 : w8.cell? ⟨gb9146, 3, none⟩ = some (.int .i64 a0_3) := (blk_cell BK9146.out 3).trans rfl; have hcz9_4 : w8.cell? ⟨gb9146, 4, none⟩ = some (.slice A0_4 l0_4.length c0_4) := (blk_cell BK9146.out 4).trans rfl; have hfz9_0 := blk_frozen BK9146.out 0; have hfz9_1 := blk_frozen BK9146.out 1; have hfz9_2 := blk_frozen BK9146.out 2; have hfz9_3 := blk_frozen BK9146.out 3; have hfz9_4 := blk_frozen BK9146.out 4))
   go_loopg [3, 4] k (fun kq v3 v4 w' => ∃ (x3_1 : ByteArray) (x4_1 : Int), v3 = .string x3_1 ∧ v4 = .int .i64 x4_1 ∧ Aside0 (spec_l1Show.l0 kq x3_1 x4_1 a0_0 a0_1 l0_2 a0_3 l0_4 = some r) ∧ Aside0 (kq ≤ k) ∧ Aside0 (w'.heap[gb9146]? = some (.cells #[.int .i64 a0_0, .string a0_1, (.slice A0_2 l0_2.length c0_2), .int .i64 a0_3, (.slice A0_4 l0_4.length c0_4)] 35 (0, 0))) ∧ Aside0 (Below w.heap.size w w'))
   case atStart => exact ⟨((⟨#[40]⟩ : ByteArray)), (0), (by first | rfl | (simp; done) | (simp [*]; done)), (by first | rfl | (simp; done) | (simp [*]; done)), H', ⟨Nat.le_refl _⟩, ⟨by (with_reducible repeat (first | refine zN ?_ _ | refine zD ?_ | refine zA ?_ _)); exact BK9146.out⟩, ⟨by repeat (first | (with_reducible first | exact HB.out | apply zB | apply zC | apply zE | refine below_set ?_ GE9146.out) | exact HB.out)⟩⟩
   case round =>
    clear H'
    try clear c2
    try clear c2b0
    try clear c2b1
    try clear p2
    try clear c3
    try clear c5
    try clear c5b0
    try clear c5b1
    try clear hcz4_0
    try clear hcz4_1
    try clear hcz4_2
    try clear hcz4_3
    try clear hcz4_4
    try clear hcz7_0
    try clear hcz7_1
    try clear hcz7_2
    try clear hcz7_3
    try clear hcz7_4
    try clear hcz9_0
    try clear hcz9_1
    try clear hcz9_2
    try clear hcz9_3
    try clear hcz9_4
    try clear hfz4_0
    try clear hfz4_1
    try clear hfz4_2
    try clear hfz4_3
    try clear hfz4_4
    try clear hfz7_0
    try clear hfz7_1
    try clear hfz7_2
    try clear hfz7_3
    try clear hfz7_4
    try clear hfz9_0
    try clear hfz9_1
    try clear hfz9_2
    try clear hfz9_3
    try clear hfz9_4
    obtain ⟨x3_1, x4_1, rfl, rfl, HA, HK1, BK9146, HB⟩ := hrel
    cases gk with
    | zero => exact absurd HA.out (by simp [spec_l1Show.l0])
    | succ k1 =>
     have H := HA.out
     clear HA
     simp only [spec_l1Show.l0] at H
     by_cases c10 : x4_1 < (l0_4.length : Int)
     ·rw [if_pos c10] at H
      have c10b0 : decide (x4_1 < (l0_4.length : Int)) = true := decide_eq_true c10
      clear c10
      by_cases c11 : x4_1 > 0
      ·rw [if_pos c11] at H
       have c11b0 : decide (0 < x4_1) = true := decide_eq_true c11
       clear c11
       by_cases c12 : x3_1.size + 1 ≤ 9223372036854775807
       ·rw [if_pos c12] at H
        have c12b0 := eq_true c12
        have c12b1 : decide (x3_1.size + 1 ≤ 9223372036854775807) = true := decide_eq_true c12
        try have c12b2 : (9223372036854775807 < x3_1.size + 1) = False := eq_false (Nat.not_lt.2 c12)
        by_cases c13 : a0_0 = 4
        ·rw [if_pos c13] at H
         have c13b0 : (a0_0 == 4) = true := beq_iff_eq.mpr c13
         have c13b1 : (a0_0 != 4) = false := bne_eq_false_iff_eq.mpr c13
         clear c13
         by_cases c14 : (wrap64 (x4_1 + 1)) = (l0_4.length : Int)
         ·rw [if_pos c14] at H
          have c14b0 : ((wrap64 (x4_1 + 1)) == (l0_4.length : Int)) = true := beq_iff_eq.mpr c14
          have c14b1 : ((wrap64 (x4_1 + 1)) != (l0_4.length : Int)) = false := bne_eq_false_iff_eq.mpr c14
          clear c14
          by_cases c15 : (x3_1 ++ (⟨#[32]⟩ : ByteArray)).size + 2 ≤ 9223372036854775807
          ·rw [if_pos c15] at H
           have c15b0 := eq_true c15
           have c15b1 : decide ((x3_1 ++ (⟨#[32]⟩ : ByteArray)).size + 2 ≤ 9223372036854775807) = true := decide_eq_true c15
           try have c15b2 : (9223372036854775807 < (x3_1 ++ (⟨#[32]⟩ : ByteArray)).size + 2) = False := eq_false (Nat.not_lt.2 c15)
           try have c15b3 : (9223372036854775807 < x3_1.size + 1 + 2) = False := eq_false (by have h_ := c15; simp only [ByteArray.size_append] at h_; have : (⟨#[32]⟩ : ByteArray).size = 1 := rfl; omega)
           by_cases c16 : 0 ≤ x4_1
           ·rw [if_pos c16] at H
            have c16b0 : decide (0 ≤ x4_1) = true := decide_eq_true c16
            clear c16
            replace H := Option.bind_eq_some_iff.mp H
            obtain ⟨t9148, A170, H⟩ := H
            replace H : (if ((x3_1 ++ (⟨#[32]⟩ : ByteArray)) ++ (⟨#[46, 32]⟩ : ByteArray)).size + t9148.size ≤ 9223372036854775807 then (spec_l1Show.l0 k1 (((x3_1 ++ (⟨#[32]⟩ : ByteArray)) ++ (⟨#[46, 32]⟩ : ByteArray)) ++ t9148) (wrap64 (x4_1 + 1)) a0_0 a0_1 l0_2 a0_3 l0_4) else (none)) = some r := H
            have A17 := Aq A170
            clear A170
            by_cases c18 : ((x3_1 ++ (⟨#[32]⟩ : ByteArray)) ++ (⟨#[46, 32]⟩ : ByteArray)).size + t9148.size ≤ 9223372036854775807
            ·rw [if_pos c18] at H
             have c18b0 := eq_true c18
             have c18b1 : decide (((x3_1 ++ (⟨#[32]⟩ : ByteArray)) ++ (⟨#[46, 32]⟩ : ByteArray)).size + t9148.size ≤ 9223372036854775807) = true := decide_eq_true c18
             try have c18b2 : (9223372036854775807 < ((x3_1 ++ (⟨#[32]⟩ : ByteArray)) ++ (⟨#[46, 32]⟩ : ByteArray)).size + t9148.size) = False := eq_false (Nat.not_lt.2 c18)
             try have c18b3 : (9223372036854775807 < x3_1.size + 1 + 2 + t9148.size) = False := eq_false (by have h_ := c18; simp only [ByteArray.size_append] at h_; have : (⟨#[32]⟩ : ByteArray).size = 1 := rfl; have : (⟨#[46, 32]⟩ : ByteArray).size = 2 := rfl; omega)
             have H' := Aq H
             clear H
             have hcz19_0 : wr.cell? ⟨gb9146, 0, none⟩ = some (.int .i64 a0_0) := (blk_cell BK9146.out 0).trans rfl
             have hcz19_1 : wr.cell? ⟨gb9146, 1, none⟩ = some (.string a0_1) := (blk_cell BK9146.out 1).trans rfl
             have hcz19_2 : wr.cell? ⟨gb9146, 2, none⟩ = some (.slice A0_2 l0_2.length c0_2) := (blk_cell BK9146.out 2).trans rfl
             have hcz19_3 : wr.cell? ⟨gb9146, 3, none⟩ = some (.int .i64 a0_3) := (blk_cell BK9146.out 3).trans rfl
             have hcz19_4 : wr.cell? ⟨gb9146, 4, none⟩ = some (.slice A0_4 l0_4.length c0_4) := (blk_cell BK9146.out 4).trans rfl
             have hfz19_0 := blk_frozen BK9146.out 0
             have hfz19_1 := blk_frozen BK9146.out 1
             have hfz19_2 := blk_frozen BK9146.out 2
             have hfz19_3 := blk_frozen BK9146.out 3
             have hfz19_4 := blk_frozen BK9146.out 4
             have p9147 : 0 ≤ (x4_1 : Int) := of_decide_eq_true (by first | (with_reducible assumption) | assumption)
             have q9147 : x4_1 < (l0_4.length : Int) := of_decide_eq_true (by first | (with_reducible assumption) | assumption)
             obtain ⟨ad9147, A9147_2, c9147_2, A9147_4, c9147_4, e9147, hx9147_0, hx9147_1, hx9147_2, hx9147_3, hx9147_4, hl9147_2, hi9147_2, hl9147_4, hi9147_4⟩ := at_T35 HR0_4.out x4_1 p9147 q9147
             cases e9147
             replace hx9147_0 := (HB.out.cell (World.block_lt_of_cell? w _ hx9147_0)).trans hx9147_0
             replace hx9147_1 := (HB.out.cell (World.block_lt_of_cell? w _ hx9147_1)).trans hx9147_1
             replace hx9147_2 := (HB.out.cell (World.block_lt_of_cell? w _ hx9147_2)).trans hx9147_2
             replace hx9147_3 := (HB.out.cell (World.block_lt_of_cell? w _ hx9147_3)).trans hx9147_3
             replace hx9147_4 := (HB.out.cell (World.block_lt_of_cell? w _ hx9147_4)).trans hx9147_4
             have HR9147_2 := Aq hi9147_2
             have HC9147_2 := Aq hl9147_2
             clear hi9147_2 hl9147_2
             have HR9147_4 := Aq hi9147_4
             have HC9147_4 := Aq hl9147_4
             clear hi9147_4 hl9147_4
             replace p9147 := eq_true p9147
             replace q9147 := eq_true q9147
             go_wp2_with (first | ((with_reducible refine gate_callee (f := 36) rfl ?_); refine goesL_ (some 42) rfl rfl Tryd.func36 (by kernel_rfl) rfl #[.agg #[.int .i64 ((rd_T35 l0_4 x4_1).f0), .string ((rd_T35 l0_4 x4_1).f1), .slice A9147_2 ((rd_T35 l0_4 x4_1).f2).length c9147_2, .int .i64 ((rd_T35 l0_4 x4_1).f3), .slice A9147_4 ((rd_T35 l0_4 x4_1).f4).length c9147_4]] rfl (by (try simp only [List.map_toArray, List.map_cons, List.map_nil]); first | done | rfl | (simp only [List.length_drop, List.length_take]; rfl)) ?_; (with_reducible refine (ih k1 (by have := HK1.out; omega) ((rd_T35 l0_4 x4_1).f0) ((rd_T35 l0_4 x4_1).f1) _ _ ((rd_T35 l0_4 x4_1).f2) ((rd_T35 l0_4 x4_1).f3) _ _ ((rd_T35 l0_4 x4_1).f4) t9148 _ ?side1 ?side2 ?side3 ?side4 A17.out).mono ?_); (case side1 => repeat (first | exact (Kd.C_below HR9147_2.out HB.out) | (with_reducible refine Kd.C_alloc ?_ _) | (with_reducible refine Kd.C_drewN ?_ _) | (with_reducible refine Kd.C_drew ?_))); (case side2 => exact HC9147_2.out); (case side3 => repeat (first | exact (Kd.C_below HR9147_4.out HB.out) | (with_reducible refine Kd.C_alloc ?_ _) | (with_reducible refine Kd.C_drewN ?_ _) | (with_reducible refine Kd.C_drew ?_))); (case side4 => exact HC9147_4.out); rintro e w20 ⟨rfl, hb⟩; refine ⟨_, rfl, ?_⟩; have n0_ := Aq (blk_below (g := gb9146) (o := .cells #[.int .i64 a0_0, .string a0_1, .slice A0_2 l0_2.length c0_2, .int .i64 a0_3, .slice (some ad9147) l0_4.length c0_4] 35 (0, 0)) (by (with_reducible repeat (first | refine zN ?_ _ | refine zD ?_ | refine zA ?_ _)); exact BK9146.out) hb); have n1_ := Aq (below_step (by repeat (first | (with_reducible first | exact HB.out | apply zB | apply zC | apply zE | refine below_set ?_ GE9146.out) | exact HB.out)) hb); clear BK9146 HB; have BK9146 := n0_; have HB := n1_; clear n0_ n1_; (try clear hb); (try clear hb2); (try clear hk); (try clear hi)))
             go_roundg k1
             case measure => have := HK1.out; omega
             case rel => exact ⟨(((x3_1 ++ (⟨#[32]⟩ : ByteArray)) ++ (⟨#[46, 32]⟩ : ByteArray)) ++ t9148), (wrap64 (x4_1 + 1)), (by first | rfl | (simp; done) | (simp [*]; done)), (by first | rfl | (simp; done) | (simp [*]; done)), H', ⟨by have := HK1.out; omega⟩, ⟨by (with_reducible repeat (first | refine zN ?_ _ | refine zD ?_ | refine zA ?_ _)); exact BK9146.out⟩, ⟨by repeat (first | (with_reducible first | exact HB.out | apply zB | apply zC | apply zE | refine below_set ?_ GE9146.out) | exact HB.out)⟩⟩
            ·rw [if_neg c18] at H
             exact absurd H (by simp)
           ·rw [if_neg c16] at H
            exact absurd H (by simp)
          ·rw [if_neg c15] at H
           exact absurd H (by simp)
         ·rw [if_neg c14] at H
          have c14b0 : ((wrap64 (x4_1 + 1)) == (l0_4.length : Int)) = false := beq_eq_false_iff_ne.mpr c14
          have c14b1 : ((wrap64 (x4_1 + 1)) != (l0_4.length : Int)) = true := bne_iff_ne.mpr c14
          by_cases c21 : 0 ≤ x4_1
          ·rw [if_pos c21] at H
           have c21b0 : decide (0 ≤ x4_1) = true := decide_eq_true c21
           clear c21
           replace H := Option.bind_eq_some_iff.mp H
           obtain ⟨t9150, A220, H⟩ := H
           replace H : (if (x3_1 ++ (⟨#[32]⟩ : ByteArray)).size + t9150.size ≤ 9223372036854775807 then (spec_l1Show.l0 k1 ((x3_1 ++ (⟨#[32]⟩ : ByteArray)) ++ t9150) (wrap64 (x4_1 + 1)) a0_0 a0_1 l0_2 a0_3 l0_4) else (none)) = some r := H
           have A22 := Aq A220
           clear A220
           by_cases c23 : (x3_1 ++ (⟨#[32]⟩ : ByteArray)).size + t9150.size ≤ 9223372036854775807
           ·rw [if_pos c23] at H
            have c23b0 := eq_true c23
            have c23b1 : decide ((x3_1 ++ (⟨#[32]⟩ : ByteArray)).size + t9150.size ≤ 9223372036854775807) = true := decide_eq_true c23
            try have c23b2 : (9223372036854775807 < (x3_1 ++ (⟨#[32]⟩ : ByteArray)).size + t9150.size) = False := eq_false (Nat.not_lt.2 c23)
            try have c23b3 : (9223372036854775807 < x3_1.size + 1 + t9150.size) = False := eq_false (by have h_ := c23; simp only [ByteArray.size_append] at h_; have : (⟨#[32]⟩ : ByteArray).size = 1 := rfl; omega)
            have H' := Aq H
            clear H
            have hcz24_0 : wr.cell? ⟨gb9146, 0, none⟩ = some (.int .i64 a0_0) := (blk_cell BK9146.out 0).trans rfl
            have hcz24_1 : wr.cell? ⟨gb9146, 1, none⟩ = some (.string a0_1) := (blk_cell BK9146.out 1).trans rfl
            have hcz24_2 : wr.cell? ⟨gb9146, 2, none⟩ = some (.slice A0_2 l0_2.length c0_2) := (blk_cell BK9146.out 2).trans rfl
            have hcz24_3 : wr.cell? ⟨gb9146, 3, none⟩ = some (.int .i64 a0_3) := (blk_cell BK9146.out 3).trans rfl
            have hcz24_4 : wr.cell? ⟨gb9146, 4, none⟩ = some (.slice A0_4 l0_4.length c0_4) := (blk_cell BK9146.out 4).trans rfl
            have hfz24_0 := blk_frozen BK9146.out 0
            have hfz24_1 := blk_frozen BK9146.out 1
            have hfz24_2 := blk_frozen BK9146.out 2
            have hfz24_3 := blk_frozen BK9146.out 3
            have hfz24_4 := blk_frozen BK9146.out 4
            have p9149 : 0 ≤ (x4_1 : Int) := of_decide_eq_true (by first | (with_reducible assumption) | assumption)
            have q9149 : x4_1 < (l0_4.length : Int) := of_decide_eq_true (by first | (with_reducible assumption) | assumption)
            obtain ⟨ad9149, A9149_2, c9149_2, A9149_4, c9149_4, e9149, hx9149_0, hx9149_1, hx9149_2, hx9149_3, hx9149_4, hl9149_2, hi9149_2, hl9149_4, hi9149_4⟩ := at_T35 HR0_4.out x4_1 p9149 q9149
            cases e9149
            replace hx9149_0 := (HB.out.cell (World.block_lt_of_cell? w _ hx9149_0)).trans hx9149_0
            replace hx9149_1 := (HB.out.cell (World.block_lt_of_cell? w _ hx9149_1)).trans hx9149_1
            replace hx9149_2 := (HB.out.cell (World.block_lt_of_cell? w _ hx9149_2)).trans hx9149_2
            replace hx9149_3 := (HB.out.cell (World.block_lt_of_cell? w _ hx9149_3)).trans hx9149_3
            replace hx9149_4 := (HB.out.cell (World.block_lt_of_cell? w _ hx9149_4)).trans hx9149_4
            have HR9149_2 := Aq hi9149_2
            have HC9149_2 := Aq hl9149_2
            clear hi9149_2 hl9149_2
            have HR9149_4 := Aq hi9149_4
            have HC9149_4 := Aq hl9149_4
            clear hi9149_4 hl9149_4
            replace p9149 := eq_true p9149
            replace q9149 := eq_true q9149
            go_wp2_with (first | ((with_reducible refine gate_callee (f := 36) rfl ?_); refine goesL_ (some 42) rfl rfl Tryd.func36 (by kernel_rfl) rfl #[.agg #[.int .i64 ((rd_T35 l0_4 x4_1).f0), .string ((rd_T35 l0_4 x4_1).f1), .slice A9149_2 ((rd_T35 l0_4 x4_1).f2).length c9149_2, .int .i64 ((rd_T35 l0_4 x4_1).f3), .slice A9149_4 ((rd_T35 l0_4 x4_1).f4).length c9149_4]] rfl (by (try simp only [List.map_toArray, List.map_cons, List.map_nil]); first | done | rfl | (simp only [List.length_drop, List.length_take]; rfl)) ?_; (with_reducible refine (ih k1 (by have := HK1.out; omega) ((rd_T35 l0_4 x4_1).f0) ((rd_T35 l0_4 x4_1).f1) _ _ ((rd_T35 l0_4 x4_1).f2) ((rd_T35 l0_4 x4_1).f3) _ _ ((rd_T35 l0_4 x4_1).f4) t9150 _ ?side1 ?side2 ?side3 ?side4 A22.out).mono ?_); (case side1 => repeat (first | exact (Kd.C_below HR9149_2.out HB.out) | (with_reducible refine Kd.C_alloc ?_ _) | (with_reducible refine Kd.C_drewN ?_ _) | (with_reducible refine Kd.C_drew ?_))); (case side2 => exact HC9149_2.out); (case side3 => repeat (first | exact (Kd.C_below HR9149_4.out HB.out) | (with_reducible refine Kd.C_alloc ?_ _) | (with_reducible refine Kd.C_drewN ?_ _) | (with_reducible refine Kd.C_drew ?_))); (case side4 => exact HC9149_4.out); rintro e w25 ⟨rfl, hb⟩; refine ⟨_, rfl, ?_⟩; have n0_ := Aq (blk_below (g := gb9146) (o := .cells #[.int .i64 a0_0, .string a0_1, .slice A0_2 l0_2.length c0_2, .int .i64 a0_3, .slice (some ad9149) l0_4.length c0_4] 35 (0, 0)) (by (with_reducible repeat (first | refine zN ?_ _ | refine zD ?_ | refine zA ?_ _)); exact BK9146.out) hb); have n1_ := Aq (below_step (by repeat (first | (with_reducible first | exact HB.out | apply zB | apply zC | apply zE | refine below_set ?_ GE9146.out) | exact HB.out)) hb); clear BK9146 HB; have BK9146 := n0_; have HB := n1_; clear n0_ n1_; (try clear hb); (try clear hb2); (try clear hk); (try clear hi)))
            go_roundg k1
            case measure => have := HK1.out; omega
            case rel => exact ⟨((x3_1 ++ (⟨#[32]⟩ : ByteArray)) ++ t9150), (wrap64 (x4_1 + 1)), (by first | rfl | (simp; done) | (simp [*]; done)), (by first | rfl | (simp; done) | (simp [*]; done)), H', ⟨by have := HK1.out; omega⟩, ⟨by (with_reducible repeat (first | refine zN ?_ _ | refine zD ?_ | refine zA ?_ _)); exact BK9146.out⟩, ⟨by repeat (first | (with_reducible first | exact HB.out | apply zB | apply zC | apply zE | refine below_set ?_ GE9146.out) | exact HB.out)⟩⟩
           ·rw [if_neg c23] at H
            exact absurd H (by simp)
          ·rw [if_neg c21] at H
           exact absurd H (by simp)
        ·rw [if_neg c13] at H
         have c13b0 : (a0_0 == 4) = false := beq_eq_false_iff_ne.mpr c13
         have c13b1 : (a0_0 != 4) = true := bne_iff_ne.mpr c13
         by_cases c26 : 0 ≤ x4_1
         ·rw [if_pos c26] at H
          have c26b0 : decide (0 ≤ x4_1) = true := decide_eq_true c26
          clear c26
          replace H := Option.bind_eq_some_iff.mp H
          obtain ⟨t9152, A270, H⟩ := H
          replace H : (if (x3_1 ++ (⟨#[32]⟩ : ByteArray)).size + t9152.size ≤ 9223372036854775807 then (spec_l1Show.l0 k1 ((x3_1 ++ (⟨#[32]⟩ : ByteArray)) ++ t9152) (wrap64 (x4_1 + 1)) a0_0 a0_1 l0_2 a0_3 l0_4) else (none)) = some r := H
          have A27 := Aq A270
          clear A270
          by_cases c28 : (x3_1 ++ (⟨#[32]⟩ : ByteArray)).size + t9152.size ≤ 9223372036854775807
          ·rw [if_pos c28] at H
           have c28b0 := eq_true c28
           have c28b1 : decide ((x3_1 ++ (⟨#[32]⟩ : ByteArray)).size + t9152.size ≤ 9223372036854775807) = true := decide_eq_true c28
           try have c28b2 : (9223372036854775807 < (x3_1 ++ (⟨#[32]⟩ : ByteArray)).size + t9152.size) = False := eq_false (Nat.not_lt.2 c28)
           try have c28b3 : (9223372036854775807 < x3_1.size + 1 + t9152.size) = False := eq_false (by have h_ := c28; simp only [ByteArray.size_append] at h_; have : (⟨#[32]⟩ : ByteArray).size = 1 := rfl; omega)
           have H' := Aq H
           clear H
           have hcz29_0 : wr.cell? ⟨gb9146, 0, none⟩ = some (.int .i64 a0_0) := (blk_cell BK9146.out 0).trans rfl
           have hcz29_1 : wr.cell? ⟨gb9146, 1, none⟩ = some (.string a0_1) := (blk_cell BK9146.out 1).trans rfl
           have hcz29_2 : wr.cell? ⟨gb9146, 2, none⟩ = some (.slice A0_2 l0_2.length c0_2) := (blk_cell BK9146.out 2).trans rfl
           have hcz29_3 : wr.cell? ⟨gb9146, 3, none⟩ = some (.int .i64 a0_3) := (blk_cell BK9146.out 3).trans rfl
           have hcz29_4 : wr.cell? ⟨gb9146, 4, none⟩ = some (.slice A0_4 l0_4.length c0_4) := (blk_cell BK9146.out 4).trans rfl
           have hfz29_0 := blk_frozen BK9146.out 0
           have hfz29_1 := blk_frozen BK9146.out 1
           have hfz29_2 := blk_frozen BK9146.out 2
           have hfz29_3 := blk_frozen BK9146.out 3
           have hfz29_4 := blk_frozen BK9146.out 4
           have p9151 : 0 ≤ (x4_1 : Int) := of_decide_eq_true (by first | (with_reducible assumption) | assumption)
           have q9151 : x4_1 < (l0_4.length : Int) := of_decide_eq_true (by first | (with_reducible assumption) | assumption)
           obtain ⟨ad9151, A9151_2, c9151_2, A9151_4, c9151_4, e9151, hx9151_0, hx9151_1, hx9151_2, hx9151_3, hx9151_4, hl9151_2, hi9151_2, hl9151_4, hi9151_4⟩ := at_T35 HR0_4.out x4_1 p9151 q9151
           cases e9151
           replace hx9151_0 := (HB.out.cell (World.block_lt_of_cell? w _ hx9151_0)).trans hx9151_0
           replace hx9151_1 := (HB.out.cell (World.block_lt_of_cell? w _ hx9151_1)).trans hx9151_1
           replace hx9151_2 := (HB.out.cell (World.block_lt_of_cell? w _ hx9151_2)).trans hx9151_2
           replace hx9151_3 := (HB.out.cell (World.block_lt_of_cell? w _ hx9151_3)).trans hx9151_3
           replace hx9151_4 := (HB.out.cell (World.block_lt_of_cell? w _ hx9151_4)).trans hx9151_4
           have HR9151_2 := Aq hi9151_2
           have HC9151_2 := Aq hl9151_2
           clear hi9151_2 hl9151_2
           have HR9151_4 := Aq hi9151_4
           have HC9151_4 := Aq hl9151_4
           clear hi9151_4 hl9151_4
           replace p9151 := eq_true p9151
           replace q9151 := eq_true q9151
           go_wp2_with (first | ((with_reducible refine gate_callee (f := 36) rfl ?_); refine goesL_ (some 42) rfl rfl Tryd.func36 (by kernel_rfl) rfl #[.agg #[.int .i64 ((rd_T35 l0_4 x4_1).f0), .string ((rd_T35 l0_4 x4_1).f1), .slice A9151_2 ((rd_T35 l0_4 x4_1).f2).length c9151_2, .int .i64 ((rd_T35 l0_4 x4_1).f3), .slice A9151_4 ((rd_T35 l0_4 x4_1).f4).length c9151_4]] rfl (by (try simp only [List.map_toArray, List.map_cons, List.map_nil]); first | done | rfl | (simp only [List.length_drop, List.length_take]; rfl)) ?_; (with_reducible refine (ih k1 (by have := HK1.out; omega) ((rd_T35 l0_4 x4_1).f0) ((rd_T35 l0_4 x4_1).f1) _ _ ((rd_T35 l0_4 x4_1).f2) ((rd_T35 l0_4 x4_1).f3) _ _ ((rd_T35 l0_4 x4_1).f4) t9152 _ ?side1 ?side2 ?side3 ?side4 A27.out).mono ?_); (case side1 => repeat (first | exact (Kd.C_below HR9151_2.out HB.out) | (with_reducible refine Kd.C_alloc ?_ _) | (with_reducible refine Kd.C_drewN ?_ _) | (with_reducible refine Kd.C_drew ?_))); (case side2 => exact HC9151_2.out); (case side3 => repeat (first | exact (Kd.C_below HR9151_4.out HB.out) | (with_reducible refine Kd.C_alloc ?_ _) | (with_reducible refine Kd.C_drewN ?_ _) | (with_reducible refine Kd.C_drew ?_))); (case side4 => exact HC9151_4.out); rintro e w30 ⟨rfl, hb⟩; refine ⟨_, rfl, ?_⟩; have n0_ := Aq (blk_below (g := gb9146) (o := .cells #[.int .i64 a0_0, .string a0_1, .slice A0_2 l0_2.length c0_2, .int .i64 a0_3, .slice (some ad9151) l0_4.length c0_4] 35 (0, 0)) (by (with_reducible repeat (first | refine zN ?_ _ | refine zD ?_ | refine zA ?_ _)); exact BK9146.out) hb); have n1_ := Aq (below_step (by repeat (first | (with_reducible first | exact HB.out | apply zB | apply zC | apply zE | refine below_set ?_ GE9146.out) | exact HB.out)) hb); clear BK9146 HB; have BK9146 := n0_; have HB := n1_; clear n0_ n1_; (try clear hb); (try clear hb2); (try clear hk); (try clear hi)))
           go_roundg k1
           case measure => have := HK1.out; omega
           case rel => exact ⟨((x3_1 ++ (⟨#[32]⟩ : ByteArray)) ++ t9152), (wrap64 (x4_1 + 1)), (by first | rfl | (simp; done) | (simp [*]; done)), (by first | rfl | (simp; done) | (simp [*]; done)), H', ⟨by have := HK1.out; omega⟩, ⟨by (with_reducible repeat (first | refine zN ?_ _ | refine zD ?_ | refine zA ?_ _)); exact BK9146.out⟩, ⟨by repeat (first | (with_reducible first | exact HB.out | apply zB | apply zC | apply zE | refine below_set ?_ GE9146.out) | exact HB.out)⟩⟩
          ·rw [if_neg c28] at H
           exact absurd H (by simp)
         ·rw [if_neg c26] at H
          exact absurd H (by simp)
       ·rw [if_neg c12] at H
        exact absurd H (by simp)
      ·rw [if_neg c11] at H
       have c11b0 : decide (0 < x4_1) = false := decide_eq_false c11
       clear c11
       by_cases c31 : a0_0 = 4
       ·rw [if_pos c31] at H
        have c31b0 : (a0_0 == 4) = true := beq_iff_eq.mpr c31
        have c31b1 : (a0_0 != 4) = false := bne_eq_false_iff_eq.mpr c31
        clear c31
        by_cases c32 : (wrap64 (x4_1 + 1)) = (l0_4.length : Int)
        ·rw [if_pos c32] at H
         have c32b0 : ((wrap64 (x4_1 + 1)) == (l0_4.length : Int)) = true := beq_iff_eq.mpr c32
         have c32b1 : ((wrap64 (x4_1 + 1)) != (l0_4.length : Int)) = false := bne_eq_false_iff_eq.mpr c32
         clear c32
         by_cases c33 : x3_1.size + 2 ≤ 9223372036854775807
         ·rw [if_pos c33] at H
          have c33b0 := eq_true c33
          have c33b1 : decide (x3_1.size + 2 ≤ 9223372036854775807) = true := decide_eq_true c33
          try have c33b2 : (9223372036854775807 < x3_1.size + 2) = False := eq_false (Nat.not_lt.2 c33)
          by_cases c34 : 0 ≤ x4_1
          ·rw [if_pos c34] at H
           have c34b0 : decide (0 ≤ x4_1) = true := decide_eq_true c34
           clear c34
           replace H := Option.bind_eq_some_iff.mp H
           obtain ⟨t9154, A350, H⟩ := H
           replace H : (if (x3_1 ++ (⟨#[46, 32]⟩ : ByteArray)).size + t9154.size ≤ 9223372036854775807 then (spec_l1Show.l0 k1 ((x3_1 ++ (⟨#[46, 32]⟩ : ByteArray)) ++ t9154) (wrap64 (x4_1 + 1)) a0_0 a0_1 l0_2 a0_3 l0_4) else (none)) = some r := H
           have A35 := Aq A350
           clear A350
           by_cases c36 : (x3_1 ++ (⟨#[46, 32]⟩ : ByteArray)).size + t9154.size ≤ 9223372036854775807
           ·rw [if_pos c36] at H
            have c36b0 := eq_true c36
            have c36b1 : decide ((x3_1 ++ (⟨#[46, 32]⟩ : ByteArray)).size + t9154.size ≤ 9223372036854775807) = true := decide_eq_true c36
            try have c36b2 : (9223372036854775807 < (x3_1 ++ (⟨#[46, 32]⟩ : ByteArray)).size + t9154.size) = False := eq_false (Nat.not_lt.2 c36)
            try have c36b3 : (9223372036854775807 < x3_1.size + 2 + t9154.size) = False := eq_false (by have h_ := c36; simp only [ByteArray.size_append] at h_; have : (⟨#[46, 32]⟩ : ByteArray).size = 2 := rfl; omega)
            have H' := Aq H
            clear H
            have hcz37_0 : wr.cell? ⟨gb9146, 0, none⟩ = some (.int .i64 a0_0) := (blk_cell BK9146.out 0).trans rfl
            have hcz37_1 : wr.cell? ⟨gb9146, 1, none⟩ = some (.string a0_1) := (blk_cell BK9146.out 1).trans rfl
            have hcz37_2 : wr.cell? ⟨gb9146, 2, none⟩ = some (.slice A0_2 l0_2.length c0_2) := (blk_cell BK9146.out 2).trans rfl
            have hcz37_3 : wr.cell? ⟨gb9146, 3, none⟩ = some (.int .i64 a0_3) := (blk_cell BK9146.out 3).trans rfl
            have hcz37_4 : wr.cell? ⟨gb9146, 4, none⟩ = some (.slice A0_4 l0_4.length c0_4) := (blk_cell BK9146.out 4).trans rfl
            have hfz37_0 := blk_frozen BK9146.out 0
            have hfz37_1 := blk_frozen BK9146.out 1
            have hfz37_2 := blk_frozen BK9146.out 2
            have hfz37_3 := blk_frozen BK9146.out 3
            have hfz37_4 := blk_frozen BK9146.out 4
            have p9153 : 0 ≤ (x4_1 : Int) := of_decide_eq_true (by first | (with_reducible assumption) | assumption)
            have q9153 : x4_1 < (l0_4.length : Int) := of_decide_eq_true (by first | (with_reducible assumption) | assumption)
            obtain ⟨ad9153, A9153_2, c9153_2, A9153_4, c9153_4, e9153, hx9153_0, hx9153_1, hx9153_2, hx9153_3, hx9153_4, hl9153_2, hi9153_2, hl9153_4, hi9153_4⟩ := at_T35 HR0_4.out x4_1 p9153 q9153
            cases e9153
            replace hx9153_0 := (HB.out.cell (World.block_lt_of_cell? w _ hx9153_0)).trans hx9153_0
            replace hx9153_1 := (HB.out.cell (World.block_lt_of_cell? w _ hx9153_1)).trans hx9153_1
            replace hx9153_2 := (HB.out.cell (World.block_lt_of_cell? w _ hx9153_2)).trans hx9153_2
            replace hx9153_3 := (HB.out.cell (World.block_lt_of_cell? w _ hx9153_3)).trans hx9153_3
            replace hx9153_4 := (HB.out.cell (World.block_lt_of_cell? w _ hx9153_4)).trans hx9153_4
            have HR9153_2 := Aq hi9153_2
            have HC9153_2 := Aq hl9153_2
            clear hi9153_2 hl9153_2
            have HR9153_4 := Aq hi9153_4
            have HC9153_4 := Aq hl9153_4
            clear hi9153_4 hl9153_4
            replace p9153 := eq_true p9153
            replace q9153 := eq_true q9153
            go_wp2_with (first | ((with_reducible refine gate_callee (f := 36) rfl ?_); refine goesL_ (some 42) rfl rfl Tryd.func36 (by kernel_rfl) rfl #[.agg #[.int .i64 ((rd_T35 l0_4 x4_1).f0), .string ((rd_T35 l0_4 x4_1).f1), .slice A9153_2 ((rd_T35 l0_4 x4_1).f2).length c9153_2, .int .i64 ((rd_T35 l0_4 x4_1).f3), .slice A9153_4 ((rd_T35 l0_4 x4_1).f4).length c9153_4]] rfl (by (try simp only [List.map_toArray, List.map_cons, List.map_nil]); first | done | rfl | (simp only [List.length_drop, List.length_take]; rfl)) ?_; (with_reducible refine (ih k1 (by have := HK1.out; omega) ((rd_T35 l0_4 x4_1).f0) ((rd_T35 l0_4 x4_1).f1) _ _ ((rd_T35 l0_4 x4_1).f2) ((rd_T35 l0_4 x4_1).f3) _ _ ((rd_T35 l0_4 x4_1).f4) t9154 _ ?side1 ?side2 ?side3 ?side4 A35.out).mono ?_); (case side1 => repeat (first | exact (Kd.C_below HR9153_2.out HB.out) | (with_reducible refine Kd.C_alloc ?_ _) | (with_reducible refine Kd.C_drewN ?_ _) | (with_reducible refine Kd.C_drew ?_))); (case side2 => exact HC9153_2.out); (case side3 => repeat (first | exact (Kd.C_below HR9153_4.out HB.out) | (with_reducible refine Kd.C_alloc ?_ _) | (with_reducible refine Kd.C_drewN ?_ _) | (with_reducible refine Kd.C_drew ?_))); (case side4 => exact HC9153_4.out); rintro e w38 ⟨rfl, hb⟩; refine ⟨_, rfl, ?_⟩; have n0_ := Aq (blk_below (g := gb9146) (o := .cells #[.int .i64 a0_0, .string a0_1, .slice A0_2 l0_2.length c0_2, .int .i64 a0_3, .slice (some ad9153) l0_4.length c0_4] 35 (0, 0)) (by (with_reducible repeat (first | refine zN ?_ _ | refine zD ?_ | refine zA ?_ _)); exact BK9146.out) hb); have n1_ := Aq (below_step (by repeat (first | (with_reducible first | exact HB.out | apply zB | apply zC | apply zE | refine below_set ?_ GE9146.out) | exact HB.out)) hb); clear BK9146 HB; have BK9146 := n0_; have HB := n1_; clear n0_ n1_; (try clear hb); (try clear hb2); (try clear hk); (try clear hi)))
            go_roundg k1
            case measure => have := HK1.out; omega
            case rel => exact ⟨((x3_1 ++ (⟨#[46, 32]⟩ : ByteArray)) ++ t9154), (wrap64 (x4_1 + 1)), (by first | rfl | (simp; done) | (simp [*]; done)), (by first | rfl | (simp; done) | (simp [*]; done)), H', ⟨by have := HK1.out; omega⟩, ⟨by (with_reducible repeat (first | refine zN ?_ _ | refine zD ?_ | refine zA ?_ _)); exact BK9146.out⟩, ⟨by repeat (first | (with_reducible first | exact HB.out | apply zB | apply zC | apply zE | refine below_set ?_ GE9146.out) | exact HB.out)⟩⟩
           ·rw [if_neg c36] at H
            exact absurd H (by simp)
          ·rw [if_neg c34] at H
           exact absurd H (by simp)
         ·rw [if_neg c33] at H
          exact absurd H (by simp)
        ·rw [if_neg c32] at H
         have c32b0 : ((wrap64 (x4_1 + 1)) == (l0_4.length : Int)) = false := beq_eq_false_iff_ne.mpr c32
         have c32b1 : ((wrap64 (x4_1 + 1)) != (l0_4.length : Int)) = true := bne_iff_ne.mpr c32
         by_cases c39 : 0 ≤ x4_1
         ·rw [if_pos c39] at H
          have c39b0 : decide (0 ≤ x4_1) = true := decide_eq_true c39
          clear c39
          replace H := Option.bind_eq_some_iff.mp H
          obtain ⟨t9156, A400, H⟩ := H
          replace H : (if x3_1.size + t9156.size ≤ 9223372036854775807 then (spec_l1Show.l0 k1 (x3_1 ++ t9156) (wrap64 (x4_1 + 1)) a0_0 a0_1 l0_2 a0_3 l0_4) else (none)) = some r := H
          have A40 := Aq A400
          clear A400
          by_cases c41 : x3_1.size + t9156.size ≤ 9223372036854775807
          ·rw [if_pos c41] at H
           have c41b0 := eq_true c41
           have c41b1 : decide (x3_1.size + t9156.size ≤ 9223372036854775807) = true := decide_eq_true c41
           try have c41b2 : (9223372036854775807 < x3_1.size + t9156.size) = False := eq_false (Nat.not_lt.2 c41)
           have H' := Aq H
           clear H
           have hcz42_0 : wr.cell? ⟨gb9146, 0, none⟩ = some (.int .i64 a0_0) := (blk_cell BK9146.out 0).trans rfl
           have hcz42_1 : wr.cell? ⟨gb9146, 1, none⟩ = some (.string a0_1) := (blk_cell BK9146.out 1).trans rfl
           have hcz42_2 : wr.cell? ⟨gb9146, 2, none⟩ = some (.slice A0_2 l0_2.length c0_2) := (blk_cell BK9146.out 2).trans rfl
           have hcz42_3 : wr.cell? ⟨gb9146, 3, none⟩ = some (.int .i64 a0_3) := (blk_cell BK9146.out 3).trans rfl
           have hcz42_4 : wr.cell? ⟨gb9146, 4, none⟩ = some (.slice A0_4 l0_4.length c0_4) := (blk_cell BK9146.out 4).trans rfl
           have hfz42_0 := blk_frozen BK9146.out 0
           have hfz42_1 := blk_frozen BK9146.out 1
           have hfz42_2 := blk_frozen BK9146.out 2
           have hfz42_3 := blk_frozen BK9146.out 3
           have hfz42_4 := blk_frozen BK9146.out 4
           have p9155 : 0 ≤ (x4_1 : Int) := of_decide_eq_true (by first | (with_reducible assumption) | assumption)
           have q9155 : x4_1 < (l0_4.length : Int) := of_decide_eq_true (by first | (with_reducible assumption) | assumption)
           obtain ⟨ad9155, A9155_2, c9155_2, A9155_4, c9155_4, e9155, hx9155_0, hx9155_1, hx9155_2, hx9155_3, hx9155_4, hl9155_2, hi9155_2, hl9155_4, hi9155_4⟩ := at_T35 HR0_4.out x4_1 p9155 q9155
           cases e9155
           replace hx9155_0 := (HB.out.cell (World.block_lt_of_cell? w _ hx9155_0)).trans hx9155_0
           replace hx9155_1 := (HB.out.cell (World.block_lt_of_cell? w _ hx9155_1)).trans hx9155_1
           replace hx9155_2 := (HB.out.cell (World.block_lt_of_cell? w _ hx9155_2)).trans hx9155_2
           replace hx9155_3 := (HB.out.cell (World.block_lt_of_cell? w _ hx9155_3)).trans hx9155_3
           replace hx9155_4 := (HB.out.cell (World.block_lt_of_cell? w _ hx9155_4)).trans hx9155_4
           have HR9155_2 := Aq hi9155_2
           have HC9155_2 := Aq hl9155_2
           clear hi9155_2 hl9155_2
           have HR9155_4 := Aq hi9155_4
           have HC9155_4 := Aq hl9155_4
           clear hi9155_4 hl9155_4
           replace p9155 := eq_true p9155
           replace q9155 := eq_true q9155
           go_wp2_with (first | ((with_reducible refine gate_callee (f := 36) rfl ?_); refine goesL_ (some 42) rfl rfl Tryd.func36 (by kernel_rfl) rfl #[.agg #[.int .i64 ((rd_T35 l0_4 x4_1).f0), .string ((rd_T35 l0_4 x4_1).f1), .slice A9155_2 ((rd_T35 l0_4 x4_1).f2).length c9155_2, .int .i64 ((rd_T35 l0_4 x4_1).f3), .slice A9155_4 ((rd_T35 l0_4 x4_1).f4).length c9155_4]] rfl (by (try simp only [List.map_toArray, List.map_cons, List.map_nil]); first | done | rfl | (simp only [List.length_drop, List.length_take]; rfl)) ?_; (with_reducible refine (ih k1 (by have := HK1.out; omega) ((rd_T35 l0_4 x4_1).f0) ((rd_T35 l0_4 x4_1).f1) _ _ ((rd_T35 l0_4 x4_1).f2) ((rd_T35 l0_4 x4_1).f3) _ _ ((rd_T35 l0_4 x4_1).f4) t9156 _ ?side1 ?side2 ?side3 ?side4 A40.out).mono ?_); (case side1 => repeat (first | exact (Kd.C_below HR9155_2.out HB.out) | (with_reducible refine Kd.C_alloc ?_ _) | (with_reducible refine Kd.C_drewN ?_ _) | (with_reducible refine Kd.C_drew ?_))); (case side2 => exact HC9155_2.out); (case side3 => repeat (first | exact (Kd.C_below HR9155_4.out HB.out) | (with_reducible refine Kd.C_alloc ?_ _) | (with_reducible refine Kd.C_drewN ?_ _) | (with_reducible refine Kd.C_drew ?_))); (case side4 => exact HC9155_4.out); rintro e w43 ⟨rfl, hb⟩; refine ⟨_, rfl, ?_⟩; have n0_ := Aq (blk_below (g := gb9146) (o := .cells #[.int .i64 a0_0, .string a0_1, .slice A0_2 l0_2.length c0_2, .int .i64 a0_3, .slice (some ad9155) l0_4.length c0_4] 35 (0, 0)) (by (with_reducible repeat (first | refine zN ?_ _ | refine zD ?_ | refine zA ?_ _)); exact BK9146.out) hb); have n1_ := Aq (below_step (by repeat (first | (with_reducible first | exact HB.out | apply zB | apply zC | apply zE | refine below_set ?_ GE9146.out) | exact HB.out)) hb); clear BK9146 HB; have BK9146 := n0_; have HB := n1_; clear n0_ n1_; (try clear hb); (try clear hb2); (try clear hk); (try clear hi)))
           go_roundg k1
           case measure => have := HK1.out; omega
           case rel => exact ⟨(x3_1 ++ t9156), (wrap64 (x4_1 + 1)), (by first | rfl | (simp; done) | (simp [*]; done)), (by first | rfl | (simp; done) | (simp [*]; done)), H', ⟨by have := HK1.out; omega⟩, ⟨by (with_reducible repeat (first | refine zN ?_ _ | refine zD ?_ | refine zA ?_ _)); exact BK9146.out⟩, ⟨by repeat (first | (with_reducible first | exact HB.out | apply zB | apply zC | apply zE | refine below_set ?_ GE9146.out) | exact HB.out)⟩⟩
          ·rw [if_neg c41] at H
           exact absurd H (by simp)
         ·rw [if_neg c39] at H
          exact absurd H (by simp)
       ·rw [if_neg c31] at H
        have c31b0 : (a0_0 == 4) = false := beq_eq_false_iff_ne.mpr c31
        have c31b1 : (a0_0 != 4) = true := bne_iff_ne.mpr c31
        by_cases c44 : 0 ≤ x4_1
        ·rw [if_pos c44] at H
         have c44b0 : decide (0 ≤ x4_1) = true := decide_eq_true c44
         clear c44
         replace H := Option.bind_eq_some_iff.mp H
         obtain ⟨t9158, A450, H⟩ := H
         replace H : (if x3_1.size + t9158.size ≤ 9223372036854775807 then (spec_l1Show.l0 k1 (x3_1 ++ t9158) (wrap64 (x4_1 + 1)) a0_0 a0_1 l0_2 a0_3 l0_4) else (none)) = some r := H
         have A45 := Aq A450
         clear A450
         by_cases c46 : x3_1.size + t9158.size ≤ 9223372036854775807
         ·rw [if_pos c46] at H
          have c46b0 := eq_true c46
          have c46b1 : decide (x3_1.size + t9158.size ≤ 9223372036854775807) = true := decide_eq_true c46
          try have c46b2 : (9223372036854775807 < x3_1.size + t9158.size) = False := eq_false (Nat.not_lt.2 c46)
          have H' := Aq H
          clear H
          have hcz47_0 : wr.cell? ⟨gb9146, 0, none⟩ = some (.int .i64 a0_0) := (blk_cell BK9146.out 0).trans rfl
          have hcz47_1 : wr.cell? ⟨gb9146, 1, none⟩ = some (.string a0_1) := (blk_cell BK9146.out 1).trans rfl
          have hcz47_2 : wr.cell? ⟨gb9146, 2, none⟩ = some (.slice A0_2 l0_2.length c0_2) := (blk_cell BK9146.out 2).trans rfl
          have hcz47_3 : wr.cell? ⟨gb9146, 3, none⟩ = some (.int .i64 a0_3) := (blk_cell BK9146.out 3).trans rfl
          have hcz47_4 : wr.cell? ⟨gb9146, 4, none⟩ = some (.slice A0_4 l0_4.length c0_4) := (blk_cell BK9146.out 4).trans rfl
          have hfz47_0 := blk_frozen BK9146.out 0
          have hfz47_1 := blk_frozen BK9146.out 1
          have hfz47_2 := blk_frozen BK9146.out 2
          have hfz47_3 := blk_frozen BK9146.out 3
          have hfz47_4 := blk_frozen BK9146.out 4
          have p9157 : 0 ≤ (x4_1 : Int) := of_decide_eq_true (by first | (with_reducible assumption) | assumption)
          have q9157 : x4_1 < (l0_4.length : Int) := of_decide_eq_true (by first | (with_reducible assumption) | assumption)
          obtain ⟨ad9157, A9157_2, c9157_2, A9157_4, c9157_4, e9157, hx9157_0, hx9157_1, hx9157_2, hx9157_3, hx9157_4, hl9157_2, hi9157_2, hl9157_4, hi9157_4⟩ := at_T35 HR0_4.out x4_1 p9157 q9157
          cases e9157
          replace hx9157_0 := (HB.out.cell (World.block_lt_of_cell? w _ hx9157_0)).trans hx9157_0
          replace hx9157_1 := (HB.out.cell (World.block_lt_of_cell? w _ hx9157_1)).trans hx9157_1
          replace hx9157_2 := (HB.out.cell (World.block_lt_of_cell? w _ hx9157_2)).trans hx9157_2
          replace hx9157_3 := (HB.out.cell (World.block_lt_of_cell? w _ hx9157_3)).trans hx9157_3
          replace hx9157_4 := (HB.out.cell (World.block_lt_of_cell? w _ hx9157_4)).trans hx9157_4
          have HR9157_2 := Aq hi9157_2
          have HC9157_2 := Aq hl9157_2
          clear hi9157_2 hl9157_2
          have HR9157_4 := Aq hi9157_4
          have HC9157_4 := Aq hl9157_4
          clear hi9157_4 hl9157_4
          replace p9157 := eq_true p9157
          replace q9157 := eq_true q9157
          go_wp2_with (first | ((with_reducible refine gate_callee (f := 36) rfl ?_); refine goesL_ (some 42) rfl rfl Tryd.func36 (by kernel_rfl) rfl #[.agg #[.int .i64 ((rd_T35 l0_4 x4_1).f0), .string ((rd_T35 l0_4 x4_1).f1), .slice A9157_2 ((rd_T35 l0_4 x4_1).f2).length c9157_2, .int .i64 ((rd_T35 l0_4 x4_1).f3), .slice A9157_4 ((rd_T35 l0_4 x4_1).f4).length c9157_4]] rfl (by (try simp only [List.map_toArray, List.map_cons, List.map_nil]); first | done | rfl | (simp only [List.length_drop, List.length_take]; rfl)) ?_; (with_reducible refine (ih k1 (by have := HK1.out; omega) ((rd_T35 l0_4 x4_1).f0) ((rd_T35 l0_4 x4_1).f1) _ _ ((rd_T35 l0_4 x4_1).f2) ((rd_T35 l0_4 x4_1).f3) _ _ ((rd_T35 l0_4 x4_1).f4) t9158 _ ?side1 ?side2 ?side3 ?side4 A45.out).mono ?_); (case side1 => repeat (first | exact (Kd.C_below HR9157_2.out HB.out) | (with_reducible refine Kd.C_alloc ?_ _) | (with_reducible refine Kd.C_drewN ?_ _) | (with_reducible refine Kd.C_drew ?_))); (case side2 => exact HC9157_2.out); (case side3 => repeat (first | exact (Kd.C_below HR9157_4.out HB.out) | (with_reducible refine Kd.C_alloc ?_ _) | (with_reducible refine Kd.C_drewN ?_ _) | (with_reducible refine Kd.C_drew ?_))); (case side4 => exact HC9157_4.out); rintro e w48 ⟨rfl, hb⟩; refine ⟨_, rfl, ?_⟩; have n0_ := Aq (blk_below (g := gb9146) (o := .cells #[.int .i64 a0_0, .string a0_1, .slice A0_2 l0_2.length c0_2, .int .i64 a0_3, .slice (some ad9157) l0_4.length c0_4] 35 (0, 0)) (by (with_reducible repeat (first | refine zN ?_ _ | refine zD ?_ | refine zA ?_ _)); exact BK9146.out) hb); have n1_ := Aq (below_step (by repeat (first | (with_reducible first | exact HB.out | apply zB | apply zC | apply zE | refine below_set ?_ GE9146.out) | exact HB.out)) hb); clear BK9146 HB; have BK9146 := n0_; have HB := n1_; clear n0_ n1_; (try clear hb); (try clear hb2); (try clear hk); (try clear hi)))
          go_roundg k1
          case measure => have := HK1.out; omega
          case rel => exact ⟨(x3_1 ++ t9158), (wrap64 (x4_1 + 1)), (by first | rfl | (simp; done) | (simp [*]; done)), (by first | rfl | (simp; done) | (simp [*]; done)), H', ⟨by have := HK1.out; omega⟩, ⟨by (with_reducible repeat (first | refine zN ?_ _ | refine zD ?_ | refine zA ?_ _)); exact BK9146.out⟩, ⟨by repeat (first | (with_reducible first | exact HB.out | apply zB | apply zC | apply zE | refine below_set ?_ GE9146.out) | exact HB.out)⟩⟩
         ·rw [if_neg c46] at H
          exact absurd H (by simp)
        ·rw [if_neg c44] at H
         exact absurd H (by simp)
     ·rw [if_neg c10] at H
      have c10b0 : decide (x4_1 < (l0_4.length : Int)) = false := decide_eq_false c10
      clear c10
      by_cases c49 : x3_1.size + 1 ≤ 9223372036854775807
      ·rw [if_pos c49] at H
       have c49b0 := eq_true c49
       have c49b1 : decide (x3_1.size + 1 ≤ 9223372036854775807) = true := decide_eq_true c49
       try have c49b2 : (9223372036854775807 < x3_1.size + 1) = False := eq_false (Nat.not_lt.2 c49)
       obtain rfl := Option.some.inj H
       have hcz50_0 : wr.cell? ⟨gb9146, 0, none⟩ = some (.int .i64 a0_0) := (blk_cell BK9146.out 0).trans rfl
       have hcz50_1 : wr.cell? ⟨gb9146, 1, none⟩ = some (.string a0_1) := (blk_cell BK9146.out 1).trans rfl
       have hcz50_2 : wr.cell? ⟨gb9146, 2, none⟩ = some (.slice A0_2 l0_2.length c0_2) := (blk_cell BK9146.out 2).trans rfl
       have hcz50_3 : wr.cell? ⟨gb9146, 3, none⟩ = some (.int .i64 a0_3) := (blk_cell BK9146.out 3).trans rfl
       have hcz50_4 : wr.cell? ⟨gb9146, 4, none⟩ = some (.slice A0_4 l0_4.length c0_4) := (blk_cell BK9146.out 4).trans rfl
       have hfz50_0 := blk_frozen BK9146.out 0
       have hfz50_1 := blk_frozen BK9146.out 1
       have hfz50_2 := blk_frozen BK9146.out 2
       have hfz50_3 := blk_frozen BK9146.out 3
       have hfz50_4 := blk_frozen BK9146.out 4
       go_wp2
       go_ret
       exact ⟨by first | rfl | (simp [errW_none, errW_some] <;> rfl) | (simp [*, errW_none, errW_some] <;> rfl), by repeat (first | (with_reducible first | exact HB.out | apply zB | apply zC | apply zE | refine below_set ?_ GE9146.out) | exact HB.out)⟩
      ·rw [if_neg c49] at H
       exact absurd H (by simp)
def spec_ExpShow.f (k : Nat) (a0_0 : Int) (a0_1 : ByteArray) (l0_2 : List Int) (a0_3 : Int) (l0_4 : List (S35)) : Option (ByteArray) := (spec_ExpFormOk.f k a0_0 a0_1 l0_2 a0_3 l0_4).bind fun t9160 => (if t9160 = true then ((spec_l1Show.f k a0_0 a0_1 l0_2 a0_3 l0_4).bind fun t9161 => (some t9161)) else (some (⟨#[]⟩ : ByteArray)))
theorem spec_ExpShow.mono : ∀ a0 a1 a2 a3 a4 k, LeO (spec_ExpShow.f k a0 a1 a2 a3 a4) (spec_ExpShow.f (k + 1) a0 a1 a2 a3 a4) := by
 intro a0 a1 a2 a3 a4 k
 unfold spec_ExpShow.f
 repeat' first
   | (with_reducible exact spec_ExpFormOk.mono _ _ _ _ _ _)
   | (with_reducible exact spec_l1Show.mono _ _ _ _ _ _)
   | (with_reducible exact LeO.refl _)
   | (with_reducible exact LeO.none _)
   | (with_reducible refine LeO.ite ?_ ?_)
   | (with_reducible refine LeO.bind ?_ (fun _ => ?_))
   | exact spec_ExpFormOk.mono _ _ _ _ _ _
   | exact spec_l1Show.mono _ _ _ _ _ _
   | exact LeO.none _
   | refine LeO.ite ?_ ?_
   | refine LeO.bind ?_ (fun _ => ?_)
set_option maxHeartbeats 8000000 in
set_option maxRecDepth 100000 in
theorem spec_ExpShow.calls (k : Nat) (a0_0 : Int) (a0_1 : ByteArray) (A0_2 : Option Addr) (c0_2 : Nat) (l0_2 : List Int) (a0_3 : Int) (A0_4 : Option Addr) (c0_4 : Nat) (l0_4 : List (S35)) (r : ByteArray) (w : World) (hr0_2 : Kd.C (Kd.int .i64) w A0_2 l0_2.length l0_2) (hc0_2 : l0_2.length ≤ c0_2) (hr0_4 : Kd.C k35 w A0_4 l0_4.length l0_4) (hc0_4 : l0_4.length ≤ c0_4) (h : spec_ExpShow.f k a0_0 a0_1 l0_2 a0_3 l0_4 = some r) :
  Calls Tryd.prog 16 #[.agg #[.int .i64 a0_0, .string a0_1, .slice A0_2 l0_2.length c0_2, .int .i64 a0_3, .slice A0_4 l0_4.length c0_4]] w fun e w' => e = .returned (.string r) ∧ Below w.heap.size w w' := by
 have hu35 := Tryd.underlying35
 have HR0_2 := Aq hr0_2
 have HC0_2 := Aq hc0_2
 clear hr0_2 hc0_2
 have HR0_4 := Aq hr0_4
 have HC0_4 := Aq hc0_4
 clear hr0_4 hc0_4
 have HB := Aq (Below.refl w.heap.size w)
 have H : ((spec_ExpFormOk.f k a0_0 a0_1 l0_2 a0_3 l0_4).bind fun t9160 => (if t9160 = true then ((spec_l1Show.f k a0_0 a0_1 l0_2 a0_3 l0_4).bind fun t9161 => (some t9161)) else (some (⟨#[]⟩ : ByteArray)))) = some r := h
 clear h
 replace H := Option.bind_eq_some_iff.mp H
 obtain ⟨t9160, A20, H⟩ := H
 replace H : (if t9160 = true then ((spec_l1Show.f k a0_0 a0_1 l0_2 a0_3 l0_4).bind fun t9161 => (some t9161)) else (some (⟨#[]⟩ : ByteArray))) = some r := H
 have A2 := Aq A20
 clear A20
 by_cases c3 : t9160 = true
 ·subst c3
  have H1 : ((spec_l1Show.f k a0_0 a0_1 l0_2 a0_3 l0_4).bind fun t9161 => (some t9161)) = some r := by rw [if_pos rfl] at H; exact H
  clear H
  have H := H1
  clear H1
  replace H := Option.bind_eq_some_iff.mp H
  obtain ⟨t9161, A40, H⟩ := H
  replace H : (some t9161) = some r := H
  have A4 := Aq A40
  clear A40
  obtain rfl := Option.some.inj H
  go_enter Tryd.func16, Tryd.ntmps16
  go_wp2_with (first | ((with_reducible refine gate_dst (N := 1) rfl ?_); refine box_event ?hg (N := 1) ?hd (cs := #[.int .i64 a0_0, .string a0_1, .slice A0_2 l0_2.length c0_2, .int .i64 a0_3, .slice A0_4 l0_4.length c0_4]) (t := 35) ?hr ?_; (case hd => rfl); (case hg => rfl); (case hr => first | (go_simp; done) | (go_simp; rfl)); intro gb9159 hg w5 hbox hb; have n0_ := Aq (below_step (by repeat (first | (with_reducible first | exact HB.out | apply zB | apply zC | apply zE) | exact HB.out)) hb); have n1_ := Aq (hbox); have n2_ := Aq ((by rw [hg]; exact (below_size (by repeat (first | (with_reducible first | exact HB.out | apply zB | apply zC | apply zE) | exact HB.out))) : w.heap.size ≤ gb9159)); have n3_ := Aq ((by rw [hg]; exact (below_size (by repeat (first | (with_reducible first | exact HB.out | apply zB | apply zC | apply zE) | exact HB.out))) : w.heap.size ≤ gb9159)); clear HB; have HB := n0_; have BK9159 := n1_; have GW9159 := n2_; have GE9159 := n3_; clear n0_ n1_ n2_ n3_ hb hbox hg; have hcz6_0 : w5.cell? ⟨gb9159, 0, none⟩ = some (.int .i64 a0_0) := (blk_cell BK9159.out 0).trans rfl; have hcz6_1 : w5.cell? ⟨gb9159, 1, none⟩ = some (.string a0_1) := (blk_cell BK9159.out 1).trans rfl; have hcz6_2 : w5.cell? ⟨gb9159, 2, none⟩ = some (.slice A0_2 l0_2.length c0_2) := (blk_cell BK9159.out 2).trans rfl; have hcz6_3 : w5.cell? ⟨gb9159, 3, none⟩ = some (.int .i64 a0_3) := (blk_cell BK9159.out 3).trans rfl; have hcz6_4 : w5.cell? ⟨gb9159, 4, none⟩ = some (.slice A0_4 l0_4.length c0_4) := (blk_cell BK9159.out 4).trans rfl; have hfz6_0 := blk_frozen BK9159.out 0; have hfz6_1 := blk_frozen BK9159.out 1; have hfz6_2 := blk_frozen BK9159.out 2; have hfz6_3 := blk_frozen BK9159.out 3; have hfz6_4 := blk_frozen BK9159.out 4) | ((with_reducible refine gate_callee (f := 12) rfl ?_); refine goesL_ (some 4) rfl rfl Tryd.func12 (by kernel_rfl) rfl #[.agg #[.int .i64 a0_0, .string a0_1, .slice A0_2 l0_2.length c0_2, .int .i64 a0_3, .slice A0_4 l0_4.length c0_4]] rfl (by (try simp only [List.map_toArray, List.map_cons, List.map_nil]); first | done | rfl | (simp only [List.length_drop, List.length_take]; rfl)) ?_; (with_reducible refine (spec_ExpFormOk.calls k a0_0 a0_1 _ _ l0_2 a0_3 _ _ l0_4 true _ ?side1 ?side2 ?side3 ?side4 A2.out).mono ?_); (case side1 => repeat (first | exact (Kd.C_below HR0_2.out HB.out) | (with_reducible refine Kd.C_alloc ?_ _) | (with_reducible refine Kd.C_drewN ?_ _) | (with_reducible refine Kd.C_drew ?_))); (case side2 => exact HC0_2.out); (case side3 => repeat (first | exact (Kd.C_below HR0_4.out HB.out) | (with_reducible refine Kd.C_alloc ?_ _) | (with_reducible refine Kd.C_drewN ?_ _) | (with_reducible refine Kd.C_drew ?_))); (case side4 => exact HC0_4.out); rintro e w7 ⟨rfl, hb⟩; refine ⟨_, rfl, ?_⟩; have n0_ := Aq (blk_below (g := gb9159) (o := .cells #[.int .i64 a0_0, .string a0_1, .slice A0_2 l0_2.length c0_2, .int .i64 a0_3, .slice A0_4 l0_4.length c0_4] 35 (0, 0)) (by (with_reducible repeat (first | refine zN ?_ _ | refine zD ?_ | refine zA ?_ _)); exact BK9159.out) hb); have n1_ := Aq (below_step (by repeat (first | (with_reducible first | exact HB.out | apply zB | apply zC | apply zE | refine below_set ?_ GE9159.out) | exact HB.out)) hb); clear BK9159 HB; have BK9159 := n0_; have HB := n1_; clear n0_ n1_; (try clear hb); (try clear hb2); (try clear hk); (try clear hi); have hcz8_0 : w7.cell? ⟨gb9159, 0, none⟩ = some (.int .i64 a0_0) := (blk_cell BK9159.out 0).trans rfl; have hcz8_1 : w7.cell? ⟨gb9159, 1, none⟩ = some (.string a0_1) := (blk_cell BK9159.out 1).trans rfl; have hcz8_2 : w7.cell? ⟨gb9159, 2, none⟩ = some (.slice A0_2 l0_2.length c0_2) := (blk_cell BK9159.out 2).trans rfl; have hcz8_3 : w7.cell? ⟨gb9159, 3, none⟩ = some (.int .i64 a0_3) := (blk_cell BK9159.out 3).trans rfl; have hcz8_4 : w7.cell? ⟨gb9159, 4, none⟩ = some (.slice A0_4 l0_4.length c0_4) := (blk_cell BK9159.out 4).trans rfl; have hfz8_0 := blk_frozen BK9159.out 0; have hfz8_1 := blk_frozen BK9159.out 1; have hfz8_2 := blk_frozen BK9159.out 2; have hfz8_3 := blk_frozen BK9159.out 3; have hfz8_4 := blk_frozen BK9159.out 4) | ((with_reducible refine gate_callee (f := 36) rfl ?_); refine goesL_ (some 7) rfl rfl Tryd.func36 (by kernel_rfl) rfl #[.agg #[.int .i64 a0_0, .string a0_1, .slice A0_2 l0_2.length c0_2, .int .i64 a0_3, .slice A0_4 l0_4.length c0_4]] rfl (by (try simp only [List.map_toArray, List.map_cons, List.map_nil]); first | done | rfl | (simp only [List.length_drop, List.length_take]; rfl)) ?_; (with_reducible refine (spec_l1Show.calls k a0_0 a0_1 _ _ l0_2 a0_3 _ _ l0_4 t9161 _ ?side1 ?side2 ?side3 ?side4 A4.out).mono ?_); (case side1 => repeat (first | exact (Kd.C_below HR0_2.out HB.out) | (with_reducible refine Kd.C_alloc ?_ _) | (with_reducible refine Kd.C_drewN ?_ _) | (with_reducible refine Kd.C_drew ?_))); (case side2 => exact HC0_2.out); (case side3 => repeat (first | exact (Kd.C_below HR0_4.out HB.out) | (with_reducible refine Kd.C_alloc ?_ _) | (with_reducible refine Kd.C_drewN ?_ _) | (with_reducible refine Kd.C_drew ?_))); (case side4 => exact HC0_4.out); rintro e w9 ⟨rfl, hb⟩; refine ⟨_, rfl, ?_⟩; have n0_ := Aq (blk_below (g := gb9159) (o := .cells #[.int .i64 a0_0, .string a0_1, .slice A0_2 l0_2.length c0_2, .int .i64 a0_3, .slice A0_4 l0_4.length c0_4] 35 (0, 0)) (by (with_reducible repeat (first | refine zN ?_ _ | refine zD ?_ | refine zA ?_ _)); exact BK9159.out) hb); have n1_ := Aq (below_step (by repeat (first | (with_reducible first | exact HB.out | apply zB | apply zC | apply zE | refine below_set ?_ GE9159.out) | exact HB.out)) hb); clear BK9159 HB; have BK9159 := n0_; have HB := n1_; clear n0_ n1_; (try clear hb); (try clear hb2); (try clear hk); (try clear hi)))
  go_ret
  exact ⟨by first | rfl | (simp [errW_none, errW_some] <;> rfl) | (simp [*, errW_none, errW_some] <;> rfl), by repeat (first | (with_reducible first | exact HB.out | apply zB | apply zC | apply zE | refine below_set ?_ GE9159.out) | exact HB.out)⟩
 ·replace c3 := Bool.eq_false_iff.mpr c3
  subst c3
  have H1 : (some (⟨#[]⟩ : ByteArray)) = some r := by rw [if_neg (show ¬ (false = true) by decide)] at H; exact H
  clear H
  have H := H1
  clear H1
  obtain rfl := Option.some.inj H
  go_enter Tryd.func16, Tryd.ntmps16
  go_wp2_with (first | ((with_reducible refine gate_dst (N := 1) rfl ?_); refine box_event ?hg (N := 1) ?hd (cs := #[.int .i64 a0_0, .string a0_1, .slice A0_2 l0_2.length c0_2, .int .i64 a0_3, .slice A0_4 l0_4.length c0_4]) (t := 35) ?hr ?_; (case hd => rfl); (case hg => rfl); (case hr => first | (go_simp; done) | (go_simp; rfl)); intro gb9159 hg w10 hbox hb; have n0_ := Aq (below_step (by repeat (first | (with_reducible first | exact HB.out | apply zB | apply zC | apply zE) | exact HB.out)) hb); have n1_ := Aq (hbox); have n2_ := Aq ((by rw [hg]; exact (below_size (by repeat (first | (with_reducible first | exact HB.out | apply zB | apply zC | apply zE) | exact HB.out))) : w.heap.size ≤ gb9159)); have n3_ := Aq ((by rw [hg]; exact (below_size (by repeat (first | (with_reducible first | exact HB.out | apply zB | apply zC | apply zE) | exact HB.out))) : w.heap.size ≤ gb9159)); clear HB; have HB := n0_; have BK9159 := n1_; have GW9159 := n2_; have GE9159 := n3_; clear n0_ n1_ n2_ n3_ hb hbox hg; have hcz11_0 : w10.cell? ⟨gb9159, 0, none⟩ = some (.int .i64 a0_0) := (blk_cell BK9159.out 0).trans rfl; have hcz11_1 : w10.cell? ⟨gb9159, 1, none⟩ = some (.string a0_1) := (blk_cell BK9159.out 1).trans rfl; have hcz11_2 : w10.cell? ⟨gb9159, 2, none⟩ = some (.slice A0_2 l0_2.length c0_2) := (blk_cell BK9159.out 2).trans rfl; have hcz11_3 : w10.cell? ⟨gb9159, 3, none⟩ = some (.int .i64 a0_3) := (blk_cell BK9159.out 3).trans rfl; have hcz11_4 : w10.cell? ⟨gb9159, 4, none⟩ = some (.slice A0_4 l0_4.length c0_4) := (blk_cell BK9159.out 4).trans rfl; have hfz11_0 := blk_frozen BK9159.out 0; have hfz11_1 := blk_frozen BK9159.out 1; have hfz11_2 := blk_frozen BK9159.out 2; have hfz11_3 := blk_frozen BK9159.out 3; have hfz11_4 := blk_frozen BK9159.out 4) | ((with_reducible refine gate_callee (f := 12) rfl ?_); refine goesL_ (some 4) rfl rfl Tryd.func12 (by kernel_rfl) rfl #[.agg #[.int .i64 a0_0, .string a0_1, .slice A0_2 l0_2.length c0_2, .int .i64 a0_3, .slice A0_4 l0_4.length c0_4]] rfl (by (try simp only [List.map_toArray, List.map_cons, List.map_nil]); first | done | rfl | (simp only [List.length_drop, List.length_take]; rfl)) ?_; (with_reducible refine (spec_ExpFormOk.calls k a0_0 a0_1 _ _ l0_2 a0_3 _ _ l0_4 false _ ?side1 ?side2 ?side3 ?side4 A2.out).mono ?_); (case side1 => repeat (first | exact (Kd.C_below HR0_2.out HB.out) | (with_reducible refine Kd.C_alloc ?_ _) | (with_reducible refine Kd.C_drewN ?_ _) | (with_reducible refine Kd.C_drew ?_))); (case side2 => exact HC0_2.out); (case side3 => repeat (first | exact (Kd.C_below HR0_4.out HB.out) | (with_reducible refine Kd.C_alloc ?_ _) | (with_reducible refine Kd.C_drewN ?_ _) | (with_reducible refine Kd.C_drew ?_))); (case side4 => exact HC0_4.out); rintro e w12 ⟨rfl, hb⟩; refine ⟨_, rfl, ?_⟩; have n0_ := Aq (blk_below (g := gb9159) (o := .cells #[.int .i64 a0_0, .string a0_1, .slice A0_2 l0_2.length c0_2, .int .i64 a0_3, .slice A0_4 l0_4.length c0_4] 35 (0, 0)) (by (with_reducible repeat (first | refine zN ?_ _ | refine zD ?_ | refine zA ?_ _)); exact BK9159.out) hb); have n1_ := Aq (below_step (by repeat (first | (with_reducible first | exact HB.out | apply zB | apply zC | apply zE | refine below_set ?_ GE9159.out) | exact HB.out)) hb); clear BK9159 HB; have BK9159 := n0_; have HB := n1_; clear n0_ n1_; (try clear hb); (try clear hb2); (try clear hk); (try clear hi)))
  go_ret
  exact ⟨by first | rfl | (simp [errW_none, errW_some] <;> rfl) | (simp [*, errW_none, errW_some] <;> rfl), by repeat (first | (with_reducible first | exact HB.out | apply zB | apply zC | apply zE | refine below_set ?_ GE9159.out) | exact HB.out)⟩
def stringslite_HasPrefix.f (a0 : ByteArray) (a1 : ByteArray) : Option (Bool) := if (a0.size : Int) ≥ (a1.size : Int) then (if 0 ≤ (a1.size : Int) then (if (a1.size : Int) ≤ (a0.size : Int) then (some ((a0.extract 0 ((a1.size : Int) : Int).toNat).toList == a1.toList)) else (none)) else (none)) else (some false)
set_option maxHeartbeats 8000000 in
set_option maxRecDepth 100000 in
theorem stringslite_HasPrefix.calls (a0 : ByteArray) (a1 : ByteArray) (r : Bool) (w : World) (h : stringslite_HasPrefix.f a0 a1 = some r) :
  Calls Tryd.prog 109 #[.string a0, .string a1] w fun e w' => e = .returned (.bool r) ∧ Drawn0 w w' := by
 have H : (if (a0.size : Int) ≥ (a1.size : Int) then (if 0 ≤ (a1.size : Int) then (if (a1.size : Int) ≤ (a0.size : Int) then (some ((a0.extract 0 ((a1.size : Int) : Int).toNat).toList == a1.toList)) else (none)) else (none)) else (some false)) = some r := h
 clear h
 by_cases c3 : (a0.size : Int) ≥ (a1.size : Int)
 ·rw [if_pos c3] at H
  have c3b0 : decide ((a1.size : Int) ≤ (a0.size : Int)) = true := decide_eq_true c3
  have c3b1 : decide (a1.size ≤ a0.size) = true := decide_eq_true (Int.ofNat_le.mp c3)
  clear c3
  by_cases c4 : 0 ≤ (a1.size : Int)
  ·rw [if_pos c4] at H
   have c4b0 := eq_true c4
   have c4b1 : decide (0 ≤ (a1.size : Int)) = true := decide_eq_true c4
   clear c4
   by_cases c5 : (a1.size : Int) ≤ (a0.size : Int)
   ·rw [if_pos c5] at H
    have c5b0 := eq_true c5
    have c5b1 : decide ((a1.size : Int) ≤ (a0.size : Int)) = true := decide_eq_true c5
    clear c5
    obtain rfl := Option.some.inj H
    go_enter Tryd.func109, Tryd.ntmps109
    go_wp2
    go_ret
    exact ⟨by first | rfl | (simp; done) | (simp [*]; done), by repeat (first | exact Drawn0.refl _ | apply Drawn0.step)⟩
   ·rw [if_neg c5] at H
    exact absurd H (by simp)
  ·rw [if_neg c4] at H
   exact absurd H (by simp)
 ·rw [if_neg c3] at H
  have c3b0 : decide ((a1.size : Int) ≤ (a0.size : Int)) = false := decide_eq_false c3
  have c3b1 : decide (a1.size ≤ a0.size) = false := decide_eq_false (fun h => c3 (Int.ofNat_le.mpr h))
  clear c3
  obtain rfl := Option.some.inj H
  go_enter Tryd.func109, Tryd.ntmps109
  go_wp2
  go_ret
  exact ⟨by first | rfl | (simp; done) | (simp [*]; done), by repeat (first | exact Drawn0.refl _ | apply Drawn0.step)⟩
end Go.Proofs.YtmdhanegafclmaaDoor.PFnExactExpShow
