-- Laid by a program of this session (wip/tools/mkprint2.py, which turns a copy of the print); not the kit print itself.
import Derived.Test.YtmdhanegafclmaaPFnExactExpAlphax0
namespace Go.Proofs.Ytmdhanegafclmaa.PFnExactExpAlpha
open Go.RowKit Go.Proofs.YtmdhanegafclmaaW.PrintWords Go.Proofs.YtmdhanegafclmaaW.PrintLast Go.Proofs.YtmdhanegafclmaaW.PrintMore
attribute [local go_sem] max2_int min2_int max_two min_two max_three min_three max_four min_four   -- for this text's walks alone
set_option linter.unusedVariables false
set_option linter.unusedSimpArgs false

/-! ### impl_coreStands: function 78 -/
def impl_coreStands.l0 : Nat → List (S113) → ByteArray → ByteArray → Int → Option (Bool)
  | 0, _, _, _, _ => none
  | k + 1, x0, x1, x2, x7 => if x7 ≥ 0 then (if 0 ≤ x7 then (if x7 < (x0.length : Int) then (if ((rd_T113 x0 x7).f0).toList = x1.toList then (some (((rd_T113 x0 x7).f1).toList == x2.toList)) else (if ((rd_T113 x0 x7).f1).toList = x2.toList then (some false) else (impl_coreStands.l0 k x0 x1 x2 (wrap64 (x7 - 1))))) else (none)) else (none)) else (some (x1.toList == x2.toList))
def impl_coreStands.f (k : Nat) (l0 : List (S113)) (a1 : ByteArray) (a2 : ByteArray) : Option (Bool) := impl_coreStands.l0 k l0 a1 a2 (wrap64 ((l0.length : Int) - 1))
theorem impl_coreStands.mono_l : ∀ k, (∀ y0 y1 y2 y3, LeO (impl_coreStands.l0 k y0 y1 y2 y3) (impl_coreStands.l0 (k + 1) y0 y1 y2 y3))
  | 0 => fun _ _ _ _ r h => by simp [impl_coreStands.l0] at h
  | k + 1 => by
    have ih0 := impl_coreStands.mono_l k
    · intro y0 y1 y2 y3
      unfold impl_coreStands.l0
      repeat' first
      | (with_reducible exact ih0 _ _ _ _)
      | (with_reducible exact LeO.refl _)
      | (with_reducible exact LeO.none _)
      | (with_reducible refine LeO.ite ?_ ?_)
      | (with_reducible refine LeO.bind ?_ (fun _ => ?_))
      | exact ih0 _ _ _ _
      | exact LeO.none _
      | refine LeO.ite ?_ ?_
      | refine LeO.bind ?_ (fun _ => ?_)
theorem impl_coreStands.mono : ∀ a0 a1 a2 k, LeO (impl_coreStands.f k a0 a1 a2) (impl_coreStands.f (k + 1) a0 a1 a2) := by
  intro a0 a1 a2 k
  have ih0 := impl_coreStands.mono_l k
  unfold impl_coreStands.f
  repeat' first
      | (with_reducible exact ih0 _ _ _ _)
      | (with_reducible exact LeO.refl _)
      | (with_reducible exact LeO.none _)
      | (with_reducible refine LeO.ite ?_ ?_)
      | (with_reducible refine LeO.bind ?_ (fun _ => ?_))
      | exact ih0 _ _ _ _
      | exact LeO.none _
      | refine LeO.ite ?_ ?_
      | refine LeO.bind ?_ (fun _ => ?_)
set_option maxHeartbeats 8000000 in
set_option maxRecDepth 100000 in
theorem impl_coreStands.calls (k : Nat) (A0 : Option Addr) (c0 : Nat) (l0 : List (S113)) (a1 : ByteArray) (a2 : ByteArray) (r : Bool) (w : World) (hr0 : Kd.C k113 w A0 l0.length l0) (hc0 : l0.length ≤ c0) (h : impl_coreStands.f k l0 a1 a2 = some r) :
    Calls Try.prog 78 #[.slice A0 l0.length c0, .string a1, .string a2] w fun e w' => e = .returned (.bool r) ∧ Below w.heap.size w w' := by
  have hu113 := Try.underlying113
  have HR0 := Aside0.mk hr0
  have HC0 := Aside0.mk hc0
  clear hr0 hc0
  have HB := Aside0.mk (Below.refl w.heap.size w)
  have H : (impl_coreStands.l0 k l0 a1 a2 (wrap64 ((l0.length : Int) - 1))) = some r := h
  clear h
  have H' := Aside0.mk H
  clear H
  go_enter Try.func78, Try.ntmps78
  go_wp2
  go_loopg [7] k (fun kq v7 w' => ∃ (x7_1 : Int), v7 = .int .i64 x7_1 ∧ Aside0 (impl_coreStands.l0 kq l0 a1 a2 x7_1 = some r) ∧ Aside0 (kq ≤ k) ∧ Aside0 (Below w.heap.size w w'))
  case atStart => exact ⟨(wrap64 ((l0.length : Int) - 1)), (by first | rfl | (simp; done) | (simp [*]; done)), H', ⟨Nat.le_refl _⟩, ⟨by repeat (first | (with_reducible first | exact HB.out | apply below_alloc | apply pw_below_drewN | apply below_drew1) | exact HB.out)⟩⟩
  case round =>
    clear H'
    try clear p2
    obtain ⟨x7_1, rfl, HA, HK1, HB⟩ := hrel
    cases gk with
    | zero => exact absurd HA.out (by simp [impl_coreStands.l0])
    | succ k1 =>
      have H := HA.out
      clear HA
      simp only [impl_coreStands.l0] at H
      by_cases c4 : x7_1 ≥ 0
      · rw [if_pos c4] at H
        have c4b0 : decide (0 ≤ x7_1) = true := decide_eq_true c4
        clear c4
        by_cases c5 : 0 ≤ x7_1
        · rw [if_pos c5] at H
          have c5b0 : decide (0 ≤ x7_1) = true := decide_eq_true c5
          clear c5
          by_cases c6 : x7_1 < (l0.length : Int)
          · rw [if_pos c6] at H
            have c6b0 : decide (x7_1 < (l0.length : Int)) = true := decide_eq_true c6
            clear c6
            by_cases c7 : ((rd_T113 l0 x7_1).f0).toList = a1.toList
            · rw [if_pos c7] at H
              have c7b0 : (((rd_T113 l0 x7_1).f0).toList == a1.toList) = true := beq_iff_eq.mpr c7
              have c7b1 : (((rd_T113 l0 x7_1).f0).toList != a1.toList) = false := bne_eq_false_iff_eq.mpr c7
              clear c7
              obtain rfl := Option.some.inj H
              have p6154 : 0 ≤ (x7_1 : Int) := of_decide_eq_true (by first | (with_reducible assumption) | assumption)
              have q6154 : x7_1 < (l0.length : Int) := of_decide_eq_true (by first | (with_reducible assumption) | assumption)
              obtain ⟨ad6154, e6154, hx6154_0, hx6154_1⟩ := at_T113 HR0.out x7_1 p6154 q6154
              cases e6154
              replace hx6154_0 := (HB.out.cell (World.block_lt_of_cell? w _ hx6154_0)).trans hx6154_0
              replace hx6154_1 := (HB.out.cell (World.block_lt_of_cell? w _ hx6154_1)).trans hx6154_1
              replace p6154 := eq_true p6154
              replace q6154 := eq_true q6154
              go_wp2_with (first | ((with_reducible refine gate_dst (N := 8) rfl ?_); refine box_event ?hg (N := 8) ?hd (cs := #[.string (⟨#[]⟩ : ByteArray), .string (⟨#[]⟩ : ByteArray)]) (t := 113) ?hr ?_; (case hd => rfl); (case hg => rfl); (case hr => first | (go_simp; done) | (go_simp; rfl)); intro gb6155 hg w8 hbox hb; have n0_ := Aside0.mk (below_step (by repeat (first | (with_reducible first | exact HB.out | apply below_alloc | apply pw_below_drewN | apply below_drew1) | exact HB.out)) hb); have n1_ := Aside0.mk (hbox); have n2_ := Aside0.mk ((by rw [hg]; exact (below_size (by repeat (first | (with_reducible first | exact HB.out | apply below_alloc | apply pw_below_drewN | apply below_drew1) | exact HB.out))) : w.heap.size ≤ gb6155)); have n3_ := Aside0.mk ((by rw [hg]; exact (below_size (by repeat (first | (with_reducible first | exact HB.out | apply below_alloc | apply pw_below_drewN | apply below_drew1) | exact HB.out))) : w.heap.size ≤ gb6155)); clear HB; have HB := n0_; have BK6155 := n1_; have GW6155 := n2_; have GE6155 := n3_; clear n0_ n1_ n2_ n3_; clear hb hbox hg; have hcz9_0 : w8.cell? ⟨gb6155, 0, none⟩ = some (.string (⟨#[]⟩ : ByteArray)) := (blk_cell BK6155.out 0).trans rfl; have hcz9_1 : w8.cell? ⟨gb6155, 1, none⟩ = some (.string (⟨#[]⟩ : ByteArray)) := (blk_cell BK6155.out 1).trans rfl; have hfz9_0 := blk_frozen BK6155.out 0; have hfz9_1 := blk_frozen BK6155.out 1))
              go_ret
              exact ⟨by first | rfl | (simp [errW_none, errW_some] <;> rfl) | (simp [*, errW_none, errW_some] <;> rfl), by repeat (first | (with_reducible first | exact HB.out | apply below_alloc | apply pw_below_drewN | apply below_drew1 | refine below_set ?_ GE6155.out) | exact HB.out)⟩
            · rw [if_neg c7] at H
              have c7b0 : (((rd_T113 l0 x7_1).f0).toList == a1.toList) = false := beq_eq_false_iff_ne.mpr c7
              have c7b1 : (((rd_T113 l0 x7_1).f0).toList != a1.toList) = true := bne_iff_ne.mpr c7
              by_cases c10 : ((rd_T113 l0 x7_1).f1).toList = a2.toList
              · rw [if_pos c10] at H
                have c10b0 : (((rd_T113 l0 x7_1).f1).toList == a2.toList) = true := beq_iff_eq.mpr c10
                have c10b1 : (((rd_T113 l0 x7_1).f1).toList != a2.toList) = false := bne_eq_false_iff_eq.mpr c10
                clear c10
                obtain rfl := Option.some.inj H
                have p6154 : 0 ≤ (x7_1 : Int) := of_decide_eq_true (by first | (with_reducible assumption) | assumption)
                have q6154 : x7_1 < (l0.length : Int) := of_decide_eq_true (by first | (with_reducible assumption) | assumption)
                obtain ⟨ad6154, e6154, hx6154_0, hx6154_1⟩ := at_T113 HR0.out x7_1 p6154 q6154
                cases e6154
                replace hx6154_0 := (HB.out.cell (World.block_lt_of_cell? w _ hx6154_0)).trans hx6154_0
                replace hx6154_1 := (HB.out.cell (World.block_lt_of_cell? w _ hx6154_1)).trans hx6154_1
                replace p6154 := eq_true p6154
                replace q6154 := eq_true q6154
                go_wp2_with (first | ((with_reducible refine gate_dst (N := 8) rfl ?_); refine box_event ?hg (N := 8) ?hd (cs := #[.string (⟨#[]⟩ : ByteArray), .string (⟨#[]⟩ : ByteArray)]) (t := 113) ?hr ?_; (case hd => rfl); (case hg => rfl); (case hr => first | (go_simp; done) | (go_simp; rfl)); intro gb6155 hg w11 hbox hb; have n0_ := Aside0.mk (below_step (by repeat (first | (with_reducible first | exact HB.out | apply below_alloc | apply pw_below_drewN | apply below_drew1) | exact HB.out)) hb); have n1_ := Aside0.mk (hbox); have n2_ := Aside0.mk ((by rw [hg]; exact (below_size (by repeat (first | (with_reducible first | exact HB.out | apply below_alloc | apply pw_below_drewN | apply below_drew1) | exact HB.out))) : w.heap.size ≤ gb6155)); have n3_ := Aside0.mk ((by rw [hg]; exact (below_size (by repeat (first | (with_reducible first | exact HB.out | apply below_alloc | apply pw_below_drewN | apply below_drew1) | exact HB.out))) : w.heap.size ≤ gb6155)); clear HB; have HB := n0_; have BK6155 := n1_; have GW6155 := n2_; have GE6155 := n3_; clear n0_ n1_ n2_ n3_; clear hb hbox hg; have hcz12_0 : w11.cell? ⟨gb6155, 0, none⟩ = some (.string (⟨#[]⟩ : ByteArray)) := (blk_cell BK6155.out 0).trans rfl; have hcz12_1 : w11.cell? ⟨gb6155, 1, none⟩ = some (.string (⟨#[]⟩ : ByteArray)) := (blk_cell BK6155.out 1).trans rfl; have hfz12_0 := blk_frozen BK6155.out 0; have hfz12_1 := blk_frozen BK6155.out 1))
                go_ret
                exact ⟨by first | rfl | (simp [errW_none, errW_some] <;> rfl) | (simp [*, errW_none, errW_some] <;> rfl), by repeat (first | (with_reducible first | exact HB.out | apply below_alloc | apply pw_below_drewN | apply below_drew1 | refine below_set ?_ GE6155.out) | exact HB.out)⟩
              · rw [if_neg c10] at H
                have c10b0 : (((rd_T113 l0 x7_1).f1).toList == a2.toList) = false := beq_eq_false_iff_ne.mpr c10
                have c10b1 : (((rd_T113 l0 x7_1).f1).toList != a2.toList) = true := bne_iff_ne.mpr c10
                have H' := Aside0.mk H
                clear H
                have p6154 : 0 ≤ (x7_1 : Int) := of_decide_eq_true (by first | (with_reducible assumption) | assumption)
                have q6154 : x7_1 < (l0.length : Int) := of_decide_eq_true (by first | (with_reducible assumption) | assumption)
                obtain ⟨ad6154, e6154, hx6154_0, hx6154_1⟩ := at_T113 HR0.out x7_1 p6154 q6154
                cases e6154
                replace hx6154_0 := (HB.out.cell (World.block_lt_of_cell? w _ hx6154_0)).trans hx6154_0
                replace hx6154_1 := (HB.out.cell (World.block_lt_of_cell? w _ hx6154_1)).trans hx6154_1
                replace p6154 := eq_true p6154
                replace q6154 := eq_true q6154
                go_wp2_with (first | ((with_reducible refine gate_dst (N := 8) rfl ?_); refine box_event ?hg (N := 8) ?hd (cs := #[.string (⟨#[]⟩ : ByteArray), .string (⟨#[]⟩ : ByteArray)]) (t := 113) ?hr ?_; (case hd => rfl); (case hg => rfl); (case hr => first | (go_simp; done) | (go_simp; rfl)); intro gb6155 hg w13 hbox hb; have n0_ := Aside0.mk (below_step (by repeat (first | (with_reducible first | exact HB.out | apply below_alloc | apply pw_below_drewN | apply below_drew1) | exact HB.out)) hb); have n1_ := Aside0.mk (hbox); have n2_ := Aside0.mk ((by rw [hg]; exact (below_size (by repeat (first | (with_reducible first | exact HB.out | apply below_alloc | apply pw_below_drewN | apply below_drew1) | exact HB.out))) : w.heap.size ≤ gb6155)); have n3_ := Aside0.mk ((by rw [hg]; exact (below_size (by repeat (first | (with_reducible first | exact HB.out | apply below_alloc | apply pw_below_drewN | apply below_drew1) | exact HB.out))) : w.heap.size ≤ gb6155)); clear HB; have HB := n0_; have BK6155 := n1_; have GW6155 := n2_; have GE6155 := n3_; clear n0_ n1_ n2_ n3_; clear hb hbox hg; have hcz14_0 : w13.cell? ⟨gb6155, 0, none⟩ = some (.string (⟨#[]⟩ : ByteArray)) := (blk_cell BK6155.out 0).trans rfl; have hcz14_1 : w13.cell? ⟨gb6155, 1, none⟩ = some (.string (⟨#[]⟩ : ByteArray)) := (blk_cell BK6155.out 1).trans rfl; have hfz14_0 := blk_frozen BK6155.out 0; have hfz14_1 := blk_frozen BK6155.out 1))
                go_roundg k1
                case measure => have := HK1.out; omega
                case rel => exact ⟨(wrap64 (x7_1 - 1)), (by first | rfl | (simp; done) | (simp [*]; done)), H', ⟨by have := HK1.out; omega⟩, ⟨by repeat (first | (with_reducible first | exact HB.out | apply below_alloc | apply pw_below_drewN | apply below_drew1 | refine below_set ?_ GE6155.out) | exact HB.out)⟩⟩
          · rw [if_neg c6] at H
            exact absurd H (by simp)
        · rw [if_neg c5] at H
          exact absurd H (by simp)
      · rw [if_neg c4] at H
        have c4b0 : decide (0 ≤ x7_1) = false := decide_eq_false c4
        clear c4
        obtain rfl := Option.some.inj H
        go_wp2
        go_ret
        exact ⟨by first | rfl | (simp [errW_none, errW_some] <;> rfl) | (simp [*, errW_none, errW_some] <;> rfl), by repeat (first | (with_reducible first | exact HB.out | apply below_alloc | apply pw_below_drewN | apply below_drew1) | exact HB.out)⟩

end Go.Proofs.Ytmdhanegafclmaa.PFnExactExpAlpha
