-- Laid by a program of this session (wip/tools/mkprint2.py, which turns a copy of the print); not the kit print itself.
import Derived.Test.YtmdhanegafclmaaPFnExactExpCoreShowx0
import Derived.Test.YtmdhanegafclmaaPFnExactExpCoreShowx1
namespace Go.Proofs.Ytmdhanegafclmaa.PFnExactExpCoreShow
open Go.RowKit Go.Proofs.YtmdhanegafclmaaW.PrintWords Go.Proofs.YtmdhanegafclmaaW.PrintLast Go.Proofs.YtmdhanegafclmaaW.PrintMore
attribute [local go_sem] max2_int min2_int max_two min_two max_three min_three max_four min_four   -- for this text's walks alone
set_option linter.unusedVariables false
set_option linter.unusedSimpArgs false

/-! ### spec_ExpCoreShow: function 23 -/
mutual
def spec_ExpCoreShow.j0 : Nat → ByteArray → Int → ByteArray → Bool → List ByteArray → List (S51) → Option (ByteArray)
  | 0, _, _, _, _, _, _ => none
  | k + 1, x3, x3112000, x3112001, x3112002, x3112003, x3112004 => spec_ExpCoreShow.l0 k x3 0 x3112000 x3112001 x3112002 x3112003 x3112004
def spec_ExpCoreShow.l0 : Nat → ByteArray → Int → Int → ByteArray → Bool → List ByteArray → List (S51) → Option (ByteArray)
  | 0, _, _, _, _, _, _, _ => none
  | k + 1, x3, x4, x3112000, x3112001, x3112002, x3112003, x3112004 => if x4 < (x3112004.length : Int) then (if x4 > 0 then (if x3.size + 1 ≤ 9223372036854775807 then (if 0 ≤ x4 then ((spec_ExpCoreShow.f k ((rd_T51 x3112004 x4).f0) ((rd_T51 x3112004 x4).f1) ((rd_T51 x3112004 x4).f2) ((rd_T51 x3112004 x4).f3) ((rd_T51 x3112004 x4).f4)).bind fun t3116 => (if (x3 ++ (⟨#[32]⟩ : ByteArray)).size + t3116.size ≤ 9223372036854775807 then (spec_ExpCoreShow.l0 k ((x3 ++ (⟨#[32]⟩ : ByteArray)) ++ t3116) (wrap64 (x4 + 1)) x3112000 x3112001 x3112002 x3112003 x3112004) else (none))) else (none)) else (none)) else (if x3112000 = 4 then (if 0 ≤ x4 then ((spec_ExpCoreShow.f k ((rd_T51 x3112004 x4).f0) ((rd_T51 x3112004 x4).f1) ((rd_T51 x3112004 x4).f2) ((rd_T51 x3112004 x4).f3) ((rd_T51 x3112004 x4).f4)).bind fun t3118 => (if x3.size + t3118.size ≤ 9223372036854775807 then (spec_ExpCoreShow.l0 k (x3 ++ t3118) (wrap64 (x4 + 1)) x3112000 x3112001 x3112002 x3112003 x3112004) else (none))) else (none)) else (if x3.size + 1 ≤ 9223372036854775807 then (if 0 ≤ x4 then ((spec_ExpCoreShow.f k ((rd_T51 x3112004 x4).f0) ((rd_T51 x3112004 x4).f1) ((rd_T51 x3112004 x4).f2) ((rd_T51 x3112004 x4).f3) ((rd_T51 x3112004 x4).f4)).bind fun t3120 => (if (x3 ++ (⟨#[32]⟩ : ByteArray)).size + t3120.size ≤ 9223372036854775807 then (spec_ExpCoreShow.l0 k ((x3 ++ (⟨#[32]⟩ : ByteArray)) ++ t3120) (wrap64 (x4 + 1)) x3112000 x3112001 x3112002 x3112003 x3112004) else (none))) else (none)) else (none)))) else (if x3.size + 1 ≤ 9223372036854775807 then (some (x3 ++ (⟨#[41]⟩ : ByteArray))) else (none))
def spec_ExpCoreShow.f : Nat → Int → ByteArray → Bool → List ByteArray → List (S51) → Option (ByteArray)
  | 0, _, _, _, _, _ => none
  | k + 1, a0_0, a0_1, a0_2, l0_3, l0_4 => if a0_0 = 1 then (some a0_1) else (if a0_0 = 2 then (some a0_1) else ((spec_l5Head.f a0_0).bind fun t3112 => (if 1 + t3112.size ≤ 9223372036854775807 then (if a0_0 = 3 then ((spec_l5Params.f k l0_3 a0_2).bind fun t3113 => (if 8 + t3113.size ≤ 9223372036854775807 then (spec_ExpCoreShow.j0 k ((⟨#[40, 108, 97, 109, 98, 100, 97, 32]⟩ : ByteArray) ++ t3113) a0_0 a0_1 a0_2 l0_3 l0_4) else (none))) else (if a0_0 = 8 then ((spec_l5Params.f k l0_3 false).bind fun t3114 => (if 5 + t3114.size ≤ 9223372036854775807 then (spec_ExpCoreShow.j0 k ((⟨#[40, 114, 101, 99, 32]⟩ : ByteArray) ++ t3114) a0_0 a0_1 a0_2 l0_3 l0_4) else (none))) else (if a0_0 = 6 then (if ((⟨#[40]⟩ : ByteArray) ++ t3112).size + 1 ≤ 9223372036854775807 then (if (((⟨#[40]⟩ : ByteArray) ++ t3112) ++ (⟨#[32]⟩ : ByteArray)).size + a0_1.size ≤ 9223372036854775807 then (spec_ExpCoreShow.j0 k ((((⟨#[40]⟩ : ByteArray) ++ t3112) ++ (⟨#[32]⟩ : ByteArray)) ++ a0_1) a0_0 a0_1 a0_2 l0_3 l0_4) else (none)) else (none)) else (if a0_0 = 9 then (if ((⟨#[40]⟩ : ByteArray) ++ t3112).size + 1 ≤ 9223372036854775807 then (if (((⟨#[40]⟩ : ByteArray) ++ t3112) ++ (⟨#[32]⟩ : ByteArray)).size + a0_1.size ≤ 9223372036854775807 then (spec_ExpCoreShow.j0 k ((((⟨#[40]⟩ : ByteArray) ++ t3112) ++ (⟨#[32]⟩ : ByteArray)) ++ a0_1) a0_0 a0_1 a0_2 l0_3 l0_4) else (none)) else (none)) else (spec_ExpCoreShow.j0 k ((⟨#[40]⟩ : ByteArray) ++ t3112) a0_0 a0_1 a0_2 l0_3 l0_4))))) else (none))))
end
theorem spec_ExpCoreShow.mono_l : ∀ k, (∀ y0 y1 y2 y3 y4, LeO (spec_ExpCoreShow.f k y0 y1 y2 y3 y4) (spec_ExpCoreShow.f (k + 1) y0 y1 y2 y3 y4)) ∧ (∀ y0 y1 y2 y3 y4 y5, LeO (spec_ExpCoreShow.j0 k y0 y1 y2 y3 y4 y5) (spec_ExpCoreShow.j0 (k + 1) y0 y1 y2 y3 y4 y5)) ∧ (∀ y0 y1 y2 y3 y4 y5 y6, LeO (spec_ExpCoreShow.l0 k y0 y1 y2 y3 y4 y5 y6) (spec_ExpCoreShow.l0 (k + 1) y0 y1 y2 y3 y4 y5 y6))
  | 0 => ⟨fun _ _ _ _ _ r h => by simp [spec_ExpCoreShow.f] at h, fun _ _ _ _ _ _ r h => by simp [spec_ExpCoreShow.j0] at h, fun _ _ _ _ _ _ _ r h => by simp [spec_ExpCoreShow.l0] at h⟩
  | k + 1 => by
    obtain ⟨ih0, ih1, ih2⟩ := spec_ExpCoreShow.mono_l k
    refine ⟨?_, ?_, ?_⟩
    · intro y0 y1 y2 y3 y4
      unfold spec_ExpCoreShow.f
      repeat' first
      | (with_reducible exact ih0 _ _ _ _ _)
      | (with_reducible exact ih1 _ _ _ _ _ _)
      | (with_reducible exact ih2 _ _ _ _ _ _ _)
      | (with_reducible exact spec_l5Params.mono _ _ _)
      | (with_reducible exact LeO.refl _)
      | (with_reducible exact LeO.none _)
      | (with_reducible refine LeO.ite ?_ ?_)
      | (with_reducible refine LeO.bind ?_ (fun _ => ?_))
      | exact ih0 _ _ _ _ _
      | exact ih1 _ _ _ _ _ _
      | exact ih2 _ _ _ _ _ _ _
      | exact spec_l5Params.mono _ _ _
      | exact LeO.none _
      | refine LeO.ite ?_ ?_
      | refine LeO.bind ?_ (fun _ => ?_)
    · intro y0 y1 y2 y3 y4 y5
      unfold spec_ExpCoreShow.j0
      repeat' first
      | (with_reducible exact ih0 _ _ _ _ _)
      | (with_reducible exact ih1 _ _ _ _ _ _)
      | (with_reducible exact ih2 _ _ _ _ _ _ _)
      | (with_reducible exact spec_l5Params.mono _ _ _)
      | (with_reducible exact LeO.refl _)
      | (with_reducible exact LeO.none _)
      | (with_reducible refine LeO.ite ?_ ?_)
      | (with_reducible refine LeO.bind ?_ (fun _ => ?_))
      | exact ih0 _ _ _ _ _
      | exact ih1 _ _ _ _ _ _
      | exact ih2 _ _ _ _ _ _ _
      | exact spec_l5Params.mono _ _ _
      | exact LeO.none _
      | refine LeO.ite ?_ ?_
      | refine LeO.bind ?_ (fun _ => ?_)
    · intro y0 y1 y2 y3 y4 y5 y6
      unfold spec_ExpCoreShow.l0
      repeat' first
      | (with_reducible exact ih0 _ _ _ _ _)
      | (with_reducible exact ih1 _ _ _ _ _ _)
      | (with_reducible exact ih2 _ _ _ _ _ _ _)
      | (with_reducible exact spec_l5Params.mono _ _ _)
      | (with_reducible exact LeO.refl _)
      | (with_reducible exact LeO.none _)
      | (with_reducible refine LeO.ite ?_ ?_)
      | (with_reducible refine LeO.bind ?_ (fun _ => ?_))
      | exact ih0 _ _ _ _ _
      | exact ih1 _ _ _ _ _ _
      | exact ih2 _ _ _ _ _ _ _
      | exact spec_l5Params.mono _ _ _
      | exact LeO.none _
      | refine LeO.ite ?_ ?_
      | refine LeO.bind ?_ (fun _ => ?_)
theorem spec_ExpCoreShow.mono : ∀ a0 a1 a2 a3 a4 k, LeO (spec_ExpCoreShow.f k a0 a1 a2 a3 a4) (spec_ExpCoreShow.f (k + 1) a0 a1 a2 a3 a4) := by
  intro a0 a1 a2 a3 a4 k
  obtain ⟨ih0, ih1, ih2⟩ := spec_ExpCoreShow.mono_l k
  exact ih0 a0 a1 a2 a3 a4
set_option maxHeartbeats 8000000 in
set_option maxRecDepth 100000 in
theorem spec_ExpCoreShow.calls (k : Nat) : ∀ (a0_0 : Int) (a0_1 : ByteArray) (a0_2 : Bool) (A0_3 : Option Addr) (c0_3 : Nat) (l0_3 : List ByteArray) (A0_4 : Option Addr) (c0_4 : Nat) (l0_4 : List (S51)) (r : ByteArray) (w : World) (hr0_3 : Kd.C Kd.string w A0_3 l0_3.length l0_3) (hc0_3 : l0_3.length ≤ c0_3) (hr0_4 : Kd.C k51 w A0_4 l0_4.length l0_4) (hc0_4 : l0_4.length ≤ c0_4) (h : spec_ExpCoreShow.f k a0_0 a0_1 a0_2 l0_3 l0_4 = some r),
    Calls Try.prog 23 #[.agg #[.int .i64 a0_0, .string a0_1, .bool a0_2, .slice A0_3 l0_3.length c0_3, .slice A0_4 l0_4.length c0_4]] w fun e w' => e = .returned (.string r) ∧ Below w.heap.size w w' := by
  induction k using Nat.strongRecOn with
  | _ k ih =>
  intro a0_0 a0_1 a0_2 A0_3 c0_3 l0_3 A0_4 c0_4 l0_4 r w hr0_3 hc0_3 hr0_4 hc0_4 h
  cases k with
  | zero => exact absurd h (by simp [spec_ExpCoreShow.f])
  | succ k =>
  simp only [spec_ExpCoreShow.f] at h
  have hu51 := Try.underlying51
  have HR0_3 := Aside0.mk hr0_3
  have HC0_3 := Aside0.mk hc0_3
  clear hr0_3 hc0_3
  have HR0_4 := Aside0.mk hr0_4
  have HC0_4 := Aside0.mk hc0_4
  clear hr0_4 hc0_4
  have HB := Aside0.mk (Below.refl w.heap.size w)
  have H : (if a0_0 = 1 then (some a0_1) else (if a0_0 = 2 then (some a0_1) else ((spec_l5Head.f a0_0).bind fun t3112 => (if 1 + t3112.size ≤ 9223372036854775807 then (if a0_0 = 3 then ((spec_l5Params.f k l0_3 a0_2).bind fun t3113 => (if 8 + t3113.size ≤ 9223372036854775807 then (spec_ExpCoreShow.j0 k ((⟨#[40, 108, 97, 109, 98, 100, 97, 32]⟩ : ByteArray) ++ t3113) a0_0 a0_1 a0_2 l0_3 l0_4) else (none))) else (if a0_0 = 8 then ((spec_l5Params.f k l0_3 false).bind fun t3114 => (if 5 + t3114.size ≤ 9223372036854775807 then (spec_ExpCoreShow.j0 k ((⟨#[40, 114, 101, 99, 32]⟩ : ByteArray) ++ t3114) a0_0 a0_1 a0_2 l0_3 l0_4) else (none))) else (if a0_0 = 6 then (if ((⟨#[40]⟩ : ByteArray) ++ t3112).size + 1 ≤ 9223372036854775807 then (if (((⟨#[40]⟩ : ByteArray) ++ t3112) ++ (⟨#[32]⟩ : ByteArray)).size + a0_1.size ≤ 9223372036854775807 then (spec_ExpCoreShow.j0 k ((((⟨#[40]⟩ : ByteArray) ++ t3112) ++ (⟨#[32]⟩ : ByteArray)) ++ a0_1) a0_0 a0_1 a0_2 l0_3 l0_4) else (none)) else (none)) else (if a0_0 = 9 then (if ((⟨#[40]⟩ : ByteArray) ++ t3112).size + 1 ≤ 9223372036854775807 then (if (((⟨#[40]⟩ : ByteArray) ++ t3112) ++ (⟨#[32]⟩ : ByteArray)).size + a0_1.size ≤ 9223372036854775807 then (spec_ExpCoreShow.j0 k ((((⟨#[40]⟩ : ByteArray) ++ t3112) ++ (⟨#[32]⟩ : ByteArray)) ++ a0_1) a0_0 a0_1 a0_2 l0_3 l0_4) else (none)) else (none)) else (spec_ExpCoreShow.j0 k ((⟨#[40]⟩ : ByteArray) ++ t3112) a0_0 a0_1 a0_2 l0_3 l0_4))))) else (none))))) = some r := h
  clear h
  by_cases c2 : a0_0 = 1
  · rw [if_pos c2] at H
    have c2b0 : (a0_0 == 1) = true := beq_iff_eq.mpr c2
    have c2b1 : (a0_0 != 1) = false := bne_eq_false_iff_eq.mpr c2
    clear c2
    obtain rfl := Option.some.inj H
    go_enter Try.func23, Try.ntmps23
    go_wp2_with (first | ((with_reducible refine gate_dst (N := 1) rfl ?_); refine box_event ?hg (N := 1) ?hd (cs := #[.int .i64 a0_0, .string a0_1, .bool a0_2, .slice A0_3 l0_3.length c0_3, .slice A0_4 l0_4.length c0_4]) (t := 51) ?hr ?_; (case hd => rfl); (case hg => rfl); (case hr => first | (go_simp; done) | (go_simp; rfl)); intro gb3111 hg w3 hbox hb; have n0_ := Aside0.mk (below_step (by repeat (first | (with_reducible first | exact HB.out | apply below_alloc | apply pw_below_drewN | apply below_drew1) | exact HB.out)) hb); have n1_ := Aside0.mk (hbox); have n2_ := Aside0.mk ((by rw [hg]; exact (below_size (by repeat (first | (with_reducible first | exact HB.out | apply below_alloc | apply pw_below_drewN | apply below_drew1) | exact HB.out))) : w.heap.size ≤ gb3111)); have n3_ := Aside0.mk ((by rw [hg]; exact (below_size (by repeat (first | (with_reducible first | exact HB.out | apply below_alloc | apply pw_below_drewN | apply below_drew1) | exact HB.out))) : w.heap.size ≤ gb3111)); clear HB; have HB := n0_; have BK3111 := n1_; have GW3111 := n2_; have GE3111 := n3_; clear n0_ n1_ n2_ n3_; clear hb hbox hg; have hcz4_0 : w3.cell? ⟨gb3111, 0, none⟩ = some (.int .i64 a0_0) := (blk_cell BK3111.out 0).trans rfl; have hcz4_1 : w3.cell? ⟨gb3111, 1, none⟩ = some (.string a0_1) := (blk_cell BK3111.out 1).trans rfl; have hcz4_2 : w3.cell? ⟨gb3111, 2, none⟩ = some (.bool a0_2) := (blk_cell BK3111.out 2).trans rfl; have hcz4_3 : w3.cell? ⟨gb3111, 3, none⟩ = some (.slice A0_3 l0_3.length c0_3) := (blk_cell BK3111.out 3).trans rfl; have hcz4_4 : w3.cell? ⟨gb3111, 4, none⟩ = some (.slice A0_4 l0_4.length c0_4) := (blk_cell BK3111.out 4).trans rfl; have hfz4_0 := blk_frozen BK3111.out 0; have hfz4_1 := blk_frozen BK3111.out 1; have hfz4_2 := blk_frozen BK3111.out 2; have hfz4_3 := blk_frozen BK3111.out 3; have hfz4_4 := blk_frozen BK3111.out 4))
    go_ret
    exact ⟨by first | rfl | (simp [errW_none, errW_some] <;> rfl) | (simp [*, errW_none, errW_some] <;> rfl), by repeat (first | (with_reducible first | exact HB.out | apply below_alloc | apply pw_below_drewN | apply below_drew1 | refine below_set ?_ GE3111.out) | exact HB.out)⟩
  · rw [if_neg c2] at H
    have c2b0 : (a0_0 == 1) = false := beq_eq_false_iff_ne.mpr c2
    have c2b1 : (a0_0 != 1) = true := bne_iff_ne.mpr c2
    by_cases c5 : a0_0 = 2
    · rw [if_pos c5] at H
      have c5b0 : (a0_0 == 2) = true := beq_iff_eq.mpr c5
      have c5b1 : (a0_0 != 2) = false := bne_eq_false_iff_eq.mpr c5
      clear c5
      obtain rfl := Option.some.inj H
      go_enter Try.func23, Try.ntmps23
      go_wp2_with (first | ((with_reducible refine gate_dst (N := 1) rfl ?_); refine box_event ?hg (N := 1) ?hd (cs := #[.int .i64 a0_0, .string a0_1, .bool a0_2, .slice A0_3 l0_3.length c0_3, .slice A0_4 l0_4.length c0_4]) (t := 51) ?hr ?_; (case hd => rfl); (case hg => rfl); (case hr => first | (go_simp; done) | (go_simp; rfl)); intro gb3111 hg w6 hbox hb; have n0_ := Aside0.mk (below_step (by repeat (first | (with_reducible first | exact HB.out | apply below_alloc | apply pw_below_drewN | apply below_drew1) | exact HB.out)) hb); have n1_ := Aside0.mk (hbox); have n2_ := Aside0.mk ((by rw [hg]; exact (below_size (by repeat (first | (with_reducible first | exact HB.out | apply below_alloc | apply pw_below_drewN | apply below_drew1) | exact HB.out))) : w.heap.size ≤ gb3111)); have n3_ := Aside0.mk ((by rw [hg]; exact (below_size (by repeat (first | (with_reducible first | exact HB.out | apply below_alloc | apply pw_below_drewN | apply below_drew1) | exact HB.out))) : w.heap.size ≤ gb3111)); clear HB; have HB := n0_; have BK3111 := n1_; have GW3111 := n2_; have GE3111 := n3_; clear n0_ n1_ n2_ n3_; clear hb hbox hg; have hcz7_0 : w6.cell? ⟨gb3111, 0, none⟩ = some (.int .i64 a0_0) := (blk_cell BK3111.out 0).trans rfl; have hcz7_1 : w6.cell? ⟨gb3111, 1, none⟩ = some (.string a0_1) := (blk_cell BK3111.out 1).trans rfl; have hcz7_2 : w6.cell? ⟨gb3111, 2, none⟩ = some (.bool a0_2) := (blk_cell BK3111.out 2).trans rfl; have hcz7_3 : w6.cell? ⟨gb3111, 3, none⟩ = some (.slice A0_3 l0_3.length c0_3) := (blk_cell BK3111.out 3).trans rfl; have hcz7_4 : w6.cell? ⟨gb3111, 4, none⟩ = some (.slice A0_4 l0_4.length c0_4) := (blk_cell BK3111.out 4).trans rfl; have hfz7_0 := blk_frozen BK3111.out 0; have hfz7_1 := blk_frozen BK3111.out 1; have hfz7_2 := blk_frozen BK3111.out 2; have hfz7_3 := blk_frozen BK3111.out 3; have hfz7_4 := blk_frozen BK3111.out 4))
      go_ret
      exact ⟨by first | rfl | (simp [errW_none, errW_some] <;> rfl) | (simp [*, errW_none, errW_some] <;> rfl), by repeat (first | (with_reducible first | exact HB.out | apply below_alloc | apply pw_below_drewN | apply below_drew1 | refine below_set ?_ GE3111.out) | exact HB.out)⟩
    · rw [if_neg c5] at H
      have c5b0 : (a0_0 == 2) = false := beq_eq_false_iff_ne.mpr c5
      have c5b1 : (a0_0 != 2) = true := bne_iff_ne.mpr c5
      replace H := Option.bind_eq_some_iff.mp H
      obtain ⟨t3112, A80, H⟩ := H
      replace H : (if 1 + t3112.size ≤ 9223372036854775807 then (if a0_0 = 3 then ((spec_l5Params.f k l0_3 a0_2).bind fun t3113 => (if 8 + t3113.size ≤ 9223372036854775807 then (spec_ExpCoreShow.j0 k ((⟨#[40, 108, 97, 109, 98, 100, 97, 32]⟩ : ByteArray) ++ t3113) a0_0 a0_1 a0_2 l0_3 l0_4) else (none))) else (if a0_0 = 8 then ((spec_l5Params.f k l0_3 false).bind fun t3114 => (if 5 + t3114.size ≤ 9223372036854775807 then (spec_ExpCoreShow.j0 k ((⟨#[40, 114, 101, 99, 32]⟩ : ByteArray) ++ t3114) a0_0 a0_1 a0_2 l0_3 l0_4) else (none))) else (if a0_0 = 6 then (if ((⟨#[40]⟩ : ByteArray) ++ t3112).size + 1 ≤ 9223372036854775807 then (if (((⟨#[40]⟩ : ByteArray) ++ t3112) ++ (⟨#[32]⟩ : ByteArray)).size + a0_1.size ≤ 9223372036854775807 then (spec_ExpCoreShow.j0 k ((((⟨#[40]⟩ : ByteArray) ++ t3112) ++ (⟨#[32]⟩ : ByteArray)) ++ a0_1) a0_0 a0_1 a0_2 l0_3 l0_4) else (none)) else (none)) else (if a0_0 = 9 then (if ((⟨#[40]⟩ : ByteArray) ++ t3112).size + 1 ≤ 9223372036854775807 then (if (((⟨#[40]⟩ : ByteArray) ++ t3112) ++ (⟨#[32]⟩ : ByteArray)).size + a0_1.size ≤ 9223372036854775807 then (spec_ExpCoreShow.j0 k ((((⟨#[40]⟩ : ByteArray) ++ t3112) ++ (⟨#[32]⟩ : ByteArray)) ++ a0_1) a0_0 a0_1 a0_2 l0_3 l0_4) else (none)) else (none)) else (spec_ExpCoreShow.j0 k ((⟨#[40]⟩ : ByteArray) ++ t3112) a0_0 a0_1 a0_2 l0_3 l0_4))))) else (none)) = some r := H
      have A8 := Aside0.mk A80
      clear A80
      by_cases c9 : 1 + t3112.size ≤ 9223372036854775807
      · rw [if_pos c9] at H
        have c9b0 := eq_true c9
        have c9b1 : decide (1 + t3112.size ≤ 9223372036854775807) = true := decide_eq_true c9
        try have c9b2 : (9223372036854775807 < 1 + t3112.size) = False := eq_false (Nat.not_lt.2 c9)
        have HC10 := Aside0.mk H
        clear H
        go_enter Try.func23, Try.ntmps23
        go_upto_block 1 with (first | ((with_reducible refine gate_dst (N := 1) rfl ?_); refine box_event ?hg (N := 1) ?hd (cs := #[.int .i64 a0_0, .string a0_1, .bool a0_2, .slice A0_3 l0_3.length c0_3, .slice A0_4 l0_4.length c0_4]) (t := 51) ?hr ?_; (case hd => rfl); (case hg => rfl); (case hr => first | (go_simp; done) | (go_simp; rfl)); intro gb3111 hg w11 hbox hb; have n0_ := Aside0.mk (below_step (by repeat (first | (with_reducible first | exact HB.out | apply below_alloc | apply pw_below_drewN | apply below_drew1) | exact HB.out)) hb); have n1_ := Aside0.mk (hbox); have n2_ := Aside0.mk ((by rw [hg]; exact (below_size (by repeat (first | (with_reducible first | exact HB.out | apply below_alloc | apply pw_below_drewN | apply below_drew1) | exact HB.out))) : w.heap.size ≤ gb3111)); have n3_ := Aside0.mk ((by rw [hg]; exact (below_size (by repeat (first | (with_reducible first | exact HB.out | apply below_alloc | apply pw_below_drewN | apply below_drew1) | exact HB.out))) : w.heap.size ≤ gb3111)); clear HB; have HB := n0_; have BK3111 := n1_; have GW3111 := n2_; have GE3111 := n3_; clear n0_ n1_ n2_ n3_; clear hb hbox hg; have hcz12_0 : w11.cell? ⟨gb3111, 0, none⟩ = some (.int .i64 a0_0) := (blk_cell BK3111.out 0).trans rfl; have hcz12_1 : w11.cell? ⟨gb3111, 1, none⟩ = some (.string a0_1) := (blk_cell BK3111.out 1).trans rfl; have hcz12_2 : w11.cell? ⟨gb3111, 2, none⟩ = some (.bool a0_2) := (blk_cell BK3111.out 2).trans rfl; have hcz12_3 : w11.cell? ⟨gb3111, 3, none⟩ = some (.slice A0_3 l0_3.length c0_3) := (blk_cell BK3111.out 3).trans rfl; have hcz12_4 : w11.cell? ⟨gb3111, 4, none⟩ = some (.slice A0_4 l0_4.length c0_4) := (blk_cell BK3111.out 4).trans rfl; have hfz12_0 := blk_frozen BK3111.out 0; have hfz12_1 := blk_frozen BK3111.out 1; have hfz12_2 := blk_frozen BK3111.out 2; have hfz12_3 := blk_frozen BK3111.out 3; have hfz12_4 := blk_frozen BK3111.out 4) | ((with_reducible refine gate_callee (f := 53) rfl ?_); refine goesL_ (some 14) rfl rfl Try.func53 (by kernel_rfl) rfl #[.int .i64 a0_0] rfl (by (try simp only [List.map_toArray, List.map_cons, List.map_nil]); first | done | rfl | (simp only [List.length_drop, List.length_take]; rfl)) ?_; (with_reducible refine (spec_l5Head.calls a0_0 t3112 _ A8.out).mono ?_); rintro e w' ⟨rfl, ⟨nd, rfl⟩⟩; refine ⟨_, rfl, ?_⟩))
        (try simp only [Act.put, List.setIfInBounds_toArray, List.set_cons_zero, List.set_cons_succ])
        go_cut [3] (fun v3 wc => ∃ (kq : Nat) (x3_9 : ByteArray), v3 = .string x3_9 ∧ Aside0 (spec_ExpCoreShow.j0 kq x3_9 a0_0 a0_1 a0_2 l0_3 l0_4 = some r) ∧ Aside0 (kq ≤ k) ∧ Aside0 (wc.heap[gb3111]? = some (.cells #[.int .i64 a0_0, .string a0_1, .bool a0_2, (.slice A0_3 l0_3.length c0_3), (.slice A0_4 l0_4.length c0_4)] 51 (0, 0))) ∧ Aside0 (Below w.heap.size w wc))
        case first =>
          have H := HC10.out
          clear HC10
          by_cases c13 : a0_0 = 3
          · rw [if_pos c13] at H
            have c13b0 : (a0_0 == 3) = true := beq_iff_eq.mpr c13
            have c13b1 : (a0_0 != 3) = false := bne_eq_false_iff_eq.mpr c13
            clear c13
            (first | rw [c13b0] | (simp only [i64_w, i32_w]; rw [c13b0]) | skip)
            replace H := Option.bind_eq_some_iff.mp H
            obtain ⟨t3113, A140, H⟩ := H
            replace H : (if 8 + t3113.size ≤ 9223372036854775807 then (spec_ExpCoreShow.j0 k ((⟨#[40, 108, 97, 109, 98, 100, 97, 32]⟩ : ByteArray) ++ t3113) a0_0 a0_1 a0_2 l0_3 l0_4) else (none)) = some r := H
            have A14 := Aside0.mk A140
            clear A140
            by_cases c15 : 8 + t3113.size ≤ 9223372036854775807
            · rw [if_pos c15] at H
              have c15b0 := eq_true c15
              have c15b1 : decide (8 + t3113.size ≤ 9223372036854775807) = true := decide_eq_true c15
              try have c15b2 : (9223372036854775807 < 8 + t3113.size) = False := eq_false (Nat.not_lt.2 c15)
              have H' := Aside0.mk H
              clear H
              have hcz16_0 : w11.cell? ⟨gb3111, 0, none⟩ = some (.int .i64 a0_0) := (blk_cell BK3111.out 0).trans rfl
              have hcz16_1 : w11.cell? ⟨gb3111, 1, none⟩ = some (.string a0_1) := (blk_cell BK3111.out 1).trans rfl
              have hcz16_2 : w11.cell? ⟨gb3111, 2, none⟩ = some (.bool a0_2) := (blk_cell BK3111.out 2).trans rfl
              have hcz16_3 : w11.cell? ⟨gb3111, 3, none⟩ = some (.slice A0_3 l0_3.length c0_3) := (blk_cell BK3111.out 3).trans rfl
              have hcz16_4 : w11.cell? ⟨gb3111, 4, none⟩ = some (.slice A0_4 l0_4.length c0_4) := (blk_cell BK3111.out 4).trans rfl
              have hfz16_0 := blk_frozen BK3111.out 0
              have hfz16_1 := blk_frozen BK3111.out 1
              have hfz16_2 := blk_frozen BK3111.out 2
              have hfz16_3 := blk_frozen BK3111.out 3
              have hfz16_4 := blk_frozen BK3111.out 4
              go_wp2_with (first | ((with_reducible refine gate_callee (f := 54) rfl ?_); refine goesL_ (some 24) rfl rfl Try.func54 (by kernel_rfl) rfl #[.slice A0_3 l0_3.length c0_3, .bool a0_2] rfl (by (try simp only [List.map_toArray, List.map_cons, List.map_nil]); first | done | rfl | (simp only [List.length_drop, List.length_take]; rfl)) ?_; (with_reducible refine (spec_l5Params.calls k _ _ l0_3 a0_2 t3113 _ ?side1 ?side2 A14.out).mono ?_); (case side1 => repeat (first | exact (Kd.C_below HR0_3.out HB.out) | (with_reducible refine Kd.C_alloc ?_ _) | (with_reducible refine Kd.C_drewN ?_ _) | (with_reducible refine Kd.C_drew ?_))); (case side2 => exact HC0_3.out); rintro e w' ⟨rfl, ⟨nd, rfl⟩⟩; refine ⟨_, rfl, ?_⟩))
              go_meet
              case rel => exact ⟨_, ((⟨#[40, 108, 97, 109, 98, 100, 97, 32]⟩ : ByteArray) ++ t3113), (by first | rfl | (simp; done) | (simp [*]; done)), H', ⟨by first | omega | exact Nat.le_refl _⟩, ⟨by (with_reducible repeat (first | refine blk_drewN ?_ _ | refine blk_drew ?_ | refine blk_alloc ?_ _)); exact BK3111.out⟩, ⟨by repeat (first | (with_reducible first | exact HB.out | apply below_alloc | apply pw_below_drewN | apply below_drew1 | refine below_set ?_ GE3111.out) | exact HB.out)⟩⟩
            · rw [if_neg c15] at H
              exact absurd H (by simp)
          · rw [if_neg c13] at H
            have c13b0 : (a0_0 == 3) = false := beq_eq_false_iff_ne.mpr c13
            have c13b1 : (a0_0 != 3) = true := bne_iff_ne.mpr c13
            (first | rw [c13b0] | (simp only [i64_w, i32_w]; rw [c13b0]) | skip)
            by_cases c17 : a0_0 = 8
            · rw [if_pos c17] at H
              have c17b0 : (a0_0 == 8) = true := beq_iff_eq.mpr c17
              have c17b1 : (a0_0 != 8) = false := bne_eq_false_iff_eq.mpr c17
              clear c17
              replace H := Option.bind_eq_some_iff.mp H
              obtain ⟨t3114, A180, H⟩ := H
              replace H : (if 5 + t3114.size ≤ 9223372036854775807 then (spec_ExpCoreShow.j0 k ((⟨#[40, 114, 101, 99, 32]⟩ : ByteArray) ++ t3114) a0_0 a0_1 a0_2 l0_3 l0_4) else (none)) = some r := H
              have A18 := Aside0.mk A180
              clear A180
              by_cases c19 : 5 + t3114.size ≤ 9223372036854775807
              · rw [if_pos c19] at H
                have c19b0 := eq_true c19
                have c19b1 : decide (5 + t3114.size ≤ 9223372036854775807) = true := decide_eq_true c19
                try have c19b2 : (9223372036854775807 < 5 + t3114.size) = False := eq_false (Nat.not_lt.2 c19)
                have H' := Aside0.mk H
                clear H
                have hcz20_0 : w11.cell? ⟨gb3111, 0, none⟩ = some (.int .i64 a0_0) := (blk_cell BK3111.out 0).trans rfl
                have hcz20_1 : w11.cell? ⟨gb3111, 1, none⟩ = some (.string a0_1) := (blk_cell BK3111.out 1).trans rfl
                have hcz20_2 : w11.cell? ⟨gb3111, 2, none⟩ = some (.bool a0_2) := (blk_cell BK3111.out 2).trans rfl
                have hcz20_3 : w11.cell? ⟨gb3111, 3, none⟩ = some (.slice A0_3 l0_3.length c0_3) := (blk_cell BK3111.out 3).trans rfl
                have hcz20_4 : w11.cell? ⟨gb3111, 4, none⟩ = some (.slice A0_4 l0_4.length c0_4) := (blk_cell BK3111.out 4).trans rfl
                have hfz20_0 := blk_frozen BK3111.out 0
                have hfz20_1 := blk_frozen BK3111.out 1
                have hfz20_2 := blk_frozen BK3111.out 2
                have hfz20_3 := blk_frozen BK3111.out 3
                have hfz20_4 := blk_frozen BK3111.out 4
                go_wp2_with (first | ((with_reducible refine gate_callee (f := 54) rfl ?_); refine goesL_ (some 30) rfl rfl Try.func54 (by kernel_rfl) rfl #[.slice A0_3 l0_3.length c0_3, .bool false] rfl (by (try simp only [List.map_toArray, List.map_cons, List.map_nil]); first | done | rfl | (simp only [List.length_drop, List.length_take]; rfl)) ?_; (with_reducible refine (spec_l5Params.calls k _ _ l0_3 false t3114 _ ?side1 ?side2 A18.out).mono ?_); (case side1 => repeat (first | exact (Kd.C_below HR0_3.out HB.out) | (with_reducible refine Kd.C_alloc ?_ _) | (with_reducible refine Kd.C_drewN ?_ _) | (with_reducible refine Kd.C_drew ?_))); (case side2 => exact HC0_3.out); rintro e w' ⟨rfl, ⟨nd, rfl⟩⟩; refine ⟨_, rfl, ?_⟩))
                go_meet
                case rel => exact ⟨_, ((⟨#[40, 114, 101, 99, 32]⟩ : ByteArray) ++ t3114), (by first | rfl | (simp; done) | (simp [*]; done)), H', ⟨by first | omega | exact Nat.le_refl _⟩, ⟨by (with_reducible repeat (first | refine blk_drewN ?_ _ | refine blk_drew ?_ | refine blk_alloc ?_ _)); exact BK3111.out⟩, ⟨by repeat (first | (with_reducible first | exact HB.out | apply below_alloc | apply pw_below_drewN | apply below_drew1 | refine below_set ?_ GE3111.out) | exact HB.out)⟩⟩
              · rw [if_neg c19] at H
                exact absurd H (by simp)
            · rw [if_neg c17] at H
              have c17b0 : (a0_0 == 8) = false := beq_eq_false_iff_ne.mpr c17
              have c17b1 : (a0_0 != 8) = true := bne_iff_ne.mpr c17
              by_cases c21 : a0_0 = 6
              · rw [if_pos c21] at H
                have c21b0 : (a0_0 == 6) = true := beq_iff_eq.mpr c21
                have c21b1 : (a0_0 != 6) = false := bne_eq_false_iff_eq.mpr c21
                clear c21
                by_cases c22 : ((⟨#[40]⟩ : ByteArray) ++ t3112).size + 1 ≤ 9223372036854775807
                · rw [if_pos c22] at H
                  have c22b0 := eq_true c22
                  have c22b1 : decide (((⟨#[40]⟩ : ByteArray) ++ t3112).size + 1 ≤ 9223372036854775807) = true := decide_eq_true c22
                  try have c22b2 : (9223372036854775807 < ((⟨#[40]⟩ : ByteArray) ++ t3112).size + 1) = False := eq_false (Nat.not_lt.2 c22)
                  try have c22b3 : (9223372036854775807 < 1 + t3112.size + 1) = False := eq_false (by have h_ := c22; simp only [ByteArray.size_append] at h_; have : (⟨#[40]⟩ : ByteArray).size = 1 := rfl; omega)
                  by_cases c23 : (((⟨#[40]⟩ : ByteArray) ++ t3112) ++ (⟨#[32]⟩ : ByteArray)).size + a0_1.size ≤ 9223372036854775807
                  · rw [if_pos c23] at H
                    have c23b0 := eq_true c23
                    have c23b1 : decide ((((⟨#[40]⟩ : ByteArray) ++ t3112) ++ (⟨#[32]⟩ : ByteArray)).size + a0_1.size ≤ 9223372036854775807) = true := decide_eq_true c23
                    try have c23b2 : (9223372036854775807 < (((⟨#[40]⟩ : ByteArray) ++ t3112) ++ (⟨#[32]⟩ : ByteArray)).size + a0_1.size) = False := eq_false (Nat.not_lt.2 c23)
                    try have c23b3 : (9223372036854775807 < 1 + t3112.size + 1 + a0_1.size) = False := eq_false (by have h_ := c23; simp only [ByteArray.size_append] at h_; have : (⟨#[32]⟩ : ByteArray).size = 1 := rfl; have : (⟨#[40]⟩ : ByteArray).size = 1 := rfl; omega)
                    have H' := Aside0.mk H
                    clear H
                    have hcz24_0 : w11.cell? ⟨gb3111, 0, none⟩ = some (.int .i64 a0_0) := (blk_cell BK3111.out 0).trans rfl
                    have hcz24_1 : w11.cell? ⟨gb3111, 1, none⟩ = some (.string a0_1) := (blk_cell BK3111.out 1).trans rfl
                    have hcz24_2 : w11.cell? ⟨gb3111, 2, none⟩ = some (.bool a0_2) := (blk_cell BK3111.out 2).trans rfl
                    have hcz24_3 : w11.cell? ⟨gb3111, 3, none⟩ = some (.slice A0_3 l0_3.length c0_3) := (blk_cell BK3111.out 3).trans rfl
                    have hcz24_4 : w11.cell? ⟨gb3111, 4, none⟩ = some (.slice A0_4 l0_4.length c0_4) := (blk_cell BK3111.out 4).trans rfl
                    have hfz24_0 := blk_frozen BK3111.out 0
                    have hfz24_1 := blk_frozen BK3111.out 1
                    have hfz24_2 := blk_frozen BK3111.out 2
                    have hfz24_3 := blk_frozen BK3111.out 3
                    have hfz24_4 := blk_frozen BK3111.out 4
                    go_wp2
                    go_meet
                    case rel => exact ⟨_, ((((⟨#[40]⟩ : ByteArray) ++ t3112) ++ (⟨#[32]⟩ : ByteArray)) ++ a0_1), (by first | rfl | (simp; done) | (simp [*]; done)), H', ⟨by first | omega | exact Nat.le_refl _⟩, ⟨by (with_reducible repeat (first | refine blk_drewN ?_ _ | refine blk_drew ?_ | refine blk_alloc ?_ _)); exact BK3111.out⟩, ⟨by repeat (first | (with_reducible first | exact HB.out | apply below_alloc | apply pw_below_drewN | apply below_drew1 | refine below_set ?_ GE3111.out) | exact HB.out)⟩⟩
                  · rw [if_neg c23] at H
                    exact absurd H (by simp)
                · rw [if_neg c22] at H
                  exact absurd H (by simp)
              · rw [if_neg c21] at H
                have c21b0 : (a0_0 == 6) = false := beq_eq_false_iff_ne.mpr c21
                have c21b1 : (a0_0 != 6) = true := bne_iff_ne.mpr c21
                by_cases c25 : a0_0 = 9
                · rw [if_pos c25] at H
                  have c25b0 : (a0_0 == 9) = true := beq_iff_eq.mpr c25
                  have c25b1 : (a0_0 != 9) = false := bne_eq_false_iff_eq.mpr c25
                  clear c25
                  by_cases c26 : ((⟨#[40]⟩ : ByteArray) ++ t3112).size + 1 ≤ 9223372036854775807
                  · rw [if_pos c26] at H
                    have c26b0 := eq_true c26
                    have c26b1 : decide (((⟨#[40]⟩ : ByteArray) ++ t3112).size + 1 ≤ 9223372036854775807) = true := decide_eq_true c26
                    try have c26b2 : (9223372036854775807 < ((⟨#[40]⟩ : ByteArray) ++ t3112).size + 1) = False := eq_false (Nat.not_lt.2 c26)
                    try have c26b3 : (9223372036854775807 < 1 + t3112.size + 1) = False := eq_false (by have h_ := c26; simp only [ByteArray.size_append] at h_; have : (⟨#[40]⟩ : ByteArray).size = 1 := rfl; omega)
                    by_cases c27 : (((⟨#[40]⟩ : ByteArray) ++ t3112) ++ (⟨#[32]⟩ : ByteArray)).size + a0_1.size ≤ 9223372036854775807
                    · rw [if_pos c27] at H
                      have c27b0 := eq_true c27
                      have c27b1 : decide ((((⟨#[40]⟩ : ByteArray) ++ t3112) ++ (⟨#[32]⟩ : ByteArray)).size + a0_1.size ≤ 9223372036854775807) = true := decide_eq_true c27
                      try have c27b2 : (9223372036854775807 < (((⟨#[40]⟩ : ByteArray) ++ t3112) ++ (⟨#[32]⟩ : ByteArray)).size + a0_1.size) = False := eq_false (Nat.not_lt.2 c27)
                      try have c27b3 : (9223372036854775807 < 1 + t3112.size + 1 + a0_1.size) = False := eq_false (by have h_ := c27; simp only [ByteArray.size_append] at h_; have : (⟨#[32]⟩ : ByteArray).size = 1 := rfl; have : (⟨#[40]⟩ : ByteArray).size = 1 := rfl; omega)
                      have H' := Aside0.mk H
                      clear H
                      have hcz28_0 : w11.cell? ⟨gb3111, 0, none⟩ = some (.int .i64 a0_0) := (blk_cell BK3111.out 0).trans rfl
                      have hcz28_1 : w11.cell? ⟨gb3111, 1, none⟩ = some (.string a0_1) := (blk_cell BK3111.out 1).trans rfl
                      have hcz28_2 : w11.cell? ⟨gb3111, 2, none⟩ = some (.bool a0_2) := (blk_cell BK3111.out 2).trans rfl
                      have hcz28_3 : w11.cell? ⟨gb3111, 3, none⟩ = some (.slice A0_3 l0_3.length c0_3) := (blk_cell BK3111.out 3).trans rfl
                      have hcz28_4 : w11.cell? ⟨gb3111, 4, none⟩ = some (.slice A0_4 l0_4.length c0_4) := (blk_cell BK3111.out 4).trans rfl
                      have hfz28_0 := blk_frozen BK3111.out 0
                      have hfz28_1 := blk_frozen BK3111.out 1
                      have hfz28_2 := blk_frozen BK3111.out 2
                      have hfz28_3 := blk_frozen BK3111.out 3
                      have hfz28_4 := blk_frozen BK3111.out 4
                      go_wp2
                      go_meet
                      case rel => exact ⟨_, ((((⟨#[40]⟩ : ByteArray) ++ t3112) ++ (⟨#[32]⟩ : ByteArray)) ++ a0_1), (by first | rfl | (simp; done) | (simp [*]; done)), H', ⟨by first | omega | exact Nat.le_refl _⟩, ⟨by (with_reducible repeat (first | refine blk_drewN ?_ _ | refine blk_drew ?_ | refine blk_alloc ?_ _)); exact BK3111.out⟩, ⟨by repeat (first | (with_reducible first | exact HB.out | apply below_alloc | apply pw_below_drewN | apply below_drew1 | refine below_set ?_ GE3111.out) | exact HB.out)⟩⟩
                    · rw [if_neg c27] at H
                      exact absurd H (by simp)
                  · rw [if_neg c26] at H
                    exact absurd H (by simp)
                · rw [if_neg c25] at H
                  have c25b0 : (a0_0 == 9) = false := beq_eq_false_iff_ne.mpr c25
                  have c25b1 : (a0_0 != 9) = true := bne_iff_ne.mpr c25
                  have H' := Aside0.mk H
                  clear H
                  go_wp2
                  go_meet
                  case rel => exact ⟨_, ((⟨#[40]⟩ : ByteArray) ++ t3112), (by first | rfl | (simp; done) | (simp [*]; done)), H', ⟨by first | omega | exact Nat.le_refl _⟩, ⟨by (with_reducible repeat (first | refine blk_drewN ?_ _ | refine blk_drew ?_ | refine blk_alloc ?_ _)); exact BK3111.out⟩, ⟨by repeat (first | (with_reducible first | exact HB.out | apply below_alloc | apply pw_below_drewN | apply below_drew1 | refine below_set ?_ GE3111.out) | exact HB.out)⟩⟩
        case rest =>
          clear HC10
          try clear c1
          try clear c2
          try clear c2b0
          try clear c2b1
          try clear p2
          try clear c5
          try clear c5b0
          try clear c5b1
          try clear c9
          try clear c9b0
          try clear c9b1
          try clear c9b2
          try clear c13
          try clear c13b0
          try clear c13b1
          try clear c15
          try clear c15b0
          try clear c15b1
          try clear c15b2
          try clear c17
          try clear c17b0
          try clear c17b1
          try clear c19
          try clear c19b0
          try clear c19b1
          try clear c19b2
          try clear c21
          try clear c21b0
          try clear c21b1
          try clear c22
          try clear c22b0
          try clear c22b1
          try clear c22b2
          try clear c23
          try clear c23b0
          try clear c23b1
          try clear c23b2
          try clear c25
          try clear c25b0
          try clear c25b1
          try clear c26
          try clear c26b0
          try clear c26b1
          try clear c26b2
          try clear c27
          try clear c27b0
          try clear c27b1
          try clear c27b2
          try clear hcz12_0
          try clear hcz12_1
          try clear hcz12_2
          try clear hcz12_3
          try clear hcz12_4
          try clear hcz16_0
          try clear hcz16_1
          try clear hcz16_2
          try clear hcz16_3
          try clear hcz16_4
          try clear hcz20_0
          try clear hcz20_1
          try clear hcz20_2
          try clear hcz20_3
          try clear hcz20_4
          try clear hcz24_0
          try clear hcz24_1
          try clear hcz24_2
          try clear hcz24_3
          try clear hcz24_4
          try clear hcz28_0
          try clear hcz28_1
          try clear hcz28_2
          try clear hcz28_3
          try clear hcz28_4
          try clear hcz4_0
          try clear hcz4_1
          try clear hcz4_2
          try clear hcz4_3
          try clear hcz4_4
          try clear hcz7_0
          try clear hcz7_1
          try clear hcz7_2
          try clear hcz7_3
          try clear hcz7_4
          try clear hfz12_0
          try clear hfz12_1
          try clear hfz12_2
          try clear hfz12_3
          try clear hfz12_4
          try clear hfz16_0
          try clear hfz16_1
          try clear hfz16_2
          try clear hfz16_3
          try clear hfz16_4
          try clear hfz20_0
          try clear hfz20_1
          try clear hfz20_2
          try clear hfz20_3
          try clear hfz20_4
          try clear hfz24_0
          try clear hfz24_1
          try clear hfz24_2
          try clear hfz24_3
          try clear hfz24_4
          try clear hfz28_0
          try clear hfz28_1
          try clear hfz28_2
          try clear hfz28_3
          try clear hfz28_4
          try clear hfz4_0
          try clear hfz4_1
          try clear hfz4_2
          try clear hfz4_3
          try clear hfz4_4
          try clear hfz7_0
          try clear hfz7_1
          try clear hfz7_2
          try clear hfz7_3
          try clear hfz7_4
          obtain ⟨kq, x3_9, rfl, HA, HJ9, BK3111, HB⟩ := hcut
          cases kq with
          | zero => exact absurd HA.out (by simp [spec_ExpCoreShow.j0])
          | succ kj9 =>
            have H := HA.out
            clear HA
            simp only [spec_ExpCoreShow.j0] at H
            have H' := Aside0.mk H
            clear H
            go_wp2
            go_loopg [3, 4] kj9 (fun kq v3 v4 w' => ∃ (x3_2 : ByteArray) (x4_2 : Int), v3 = .string x3_2 ∧ v4 = .int .i64 x4_2 ∧ Aside0 (spec_ExpCoreShow.l0 kq x3_2 x4_2 a0_0 a0_1 a0_2 l0_3 l0_4 = some r) ∧ Aside0 (kq ≤ kj9) ∧ Aside0 (w'.heap[gb3111]? = some (.cells #[.int .i64 a0_0, .string a0_1, .bool a0_2, (.slice A0_3 l0_3.length c0_3), (.slice A0_4 l0_4.length c0_4)] 51 (0, 0))) ∧ Aside0 (Below w.heap.size w w'))
            case atStart => exact ⟨(x3_9), (0), (by first | rfl | (simp; done) | (simp [*]; done)), (by first | rfl | (simp; done) | (simp [*]; done)), H', ⟨Nat.le_refl _⟩, ⟨by (with_reducible repeat (first | refine blk_drewN ?_ _ | refine blk_drew ?_ | refine blk_alloc ?_ _)); exact BK3111.out⟩, ⟨by repeat (first | (with_reducible first | exact HB.out | apply below_alloc | apply pw_below_drewN | apply below_drew1 | refine below_set ?_ GE3111.out) | exact HB.out)⟩⟩
            case round =>
              clear H'
              try clear c1
              try clear c2
              try clear c2b0
              try clear c2b1
              try clear p2
              try clear c5
              try clear c5b0
              try clear c5b1
              try clear c9
              try clear c9b0
              try clear c9b1
              try clear c9b2
              try clear c13
              try clear c13b0
              try clear c13b1
              try clear c15
              try clear c15b0
              try clear c15b1
              try clear c15b2
              try clear c17
              try clear c17b0
              try clear c17b1
              try clear c19
              try clear c19b0
              try clear c19b1
              try clear c19b2
              try clear c21
              try clear c21b0
              try clear c21b1
              try clear c22
              try clear c22b0
              try clear c22b1
              try clear c22b2
              try clear c23
              try clear c23b0
              try clear c23b1
              try clear c23b2
              try clear c25
              try clear c25b0
              try clear c25b1
              try clear c26
              try clear c26b0
              try clear c26b1
              try clear c26b2
              try clear c27
              try clear c27b0
              try clear c27b1
              try clear c27b2
              try clear hcz12_0
              try clear hcz12_1
              try clear hcz12_2
              try clear hcz12_3
              try clear hcz12_4
              try clear hcz16_0
              try clear hcz16_1
              try clear hcz16_2
              try clear hcz16_3
              try clear hcz16_4
              try clear hcz20_0
              try clear hcz20_1
              try clear hcz20_2
              try clear hcz20_3
              try clear hcz20_4
              try clear hcz24_0
              try clear hcz24_1
              try clear hcz24_2
              try clear hcz24_3
              try clear hcz24_4
              try clear hcz28_0
              try clear hcz28_1
              try clear hcz28_2
              try clear hcz28_3
              try clear hcz28_4
              try clear hcz4_0
              try clear hcz4_1
              try clear hcz4_2
              try clear hcz4_3
              try clear hcz4_4
              try clear hcz7_0
              try clear hcz7_1
              try clear hcz7_2
              try clear hcz7_3
              try clear hcz7_4
              try clear hfz12_0
              try clear hfz12_1
              try clear hfz12_2
              try clear hfz12_3
              try clear hfz12_4
              try clear hfz16_0
              try clear hfz16_1
              try clear hfz16_2
              try clear hfz16_3
              try clear hfz16_4
              try clear hfz20_0
              try clear hfz20_1
              try clear hfz20_2
              try clear hfz20_3
              try clear hfz20_4
              try clear hfz24_0
              try clear hfz24_1
              try clear hfz24_2
              try clear hfz24_3
              try clear hfz24_4
              try clear hfz28_0
              try clear hfz28_1
              try clear hfz28_2
              try clear hfz28_3
              try clear hfz28_4
              try clear hfz4_0
              try clear hfz4_1
              try clear hfz4_2
              try clear hfz4_3
              try clear hfz4_4
              try clear hfz7_0
              try clear hfz7_1
              try clear hfz7_2
              try clear hfz7_3
              try clear hfz7_4
              try clear p2
              obtain ⟨x3_2, x4_2, rfl, rfl, HA, HK2, BK3111, HB⟩ := hrel
              cases gk with
              | zero => exact absurd HA.out (by simp [spec_ExpCoreShow.l0])
              | succ k2 =>
                have H := HA.out
                clear HA
                simp only [spec_ExpCoreShow.l0] at H
                by_cases c29 : x4_2 < (l0_4.length : Int)
                · rw [if_pos c29] at H
                  have c29b0 : decide (x4_2 < (l0_4.length : Int)) = true := decide_eq_true c29
                  clear c29
                  by_cases c30 : x4_2 > 0
                  · rw [if_pos c30] at H
                    have c30b0 : decide (0 < x4_2) = true := decide_eq_true c30
                    clear c30
                    by_cases c31 : x3_2.size + 1 ≤ 9223372036854775807
                    · rw [if_pos c31] at H
                      have c31b0 := eq_true c31
                      have c31b1 : decide (x3_2.size + 1 ≤ 9223372036854775807) = true := decide_eq_true c31
                      try have c31b2 : (9223372036854775807 < x3_2.size + 1) = False := eq_false (Nat.not_lt.2 c31)
                      by_cases c32 : 0 ≤ x4_2
                      · rw [if_pos c32] at H
                        have c32b0 : decide (0 ≤ x4_2) = true := decide_eq_true c32
                        clear c32
                        replace H := Option.bind_eq_some_iff.mp H
                        obtain ⟨t3116, A330, H⟩ := H
                        replace H : (if (x3_2 ++ (⟨#[32]⟩ : ByteArray)).size + t3116.size ≤ 9223372036854775807 then (spec_ExpCoreShow.l0 k2 ((x3_2 ++ (⟨#[32]⟩ : ByteArray)) ++ t3116) (wrap64 (x4_2 + 1)) a0_0 a0_1 a0_2 l0_3 l0_4) else (none)) = some r := H
                        have A33 := Aside0.mk A330
                        clear A330
                        by_cases c34 : (x3_2 ++ (⟨#[32]⟩ : ByteArray)).size + t3116.size ≤ 9223372036854775807
                        · rw [if_pos c34] at H
                          have c34b0 := eq_true c34
                          have c34b1 : decide ((x3_2 ++ (⟨#[32]⟩ : ByteArray)).size + t3116.size ≤ 9223372036854775807) = true := decide_eq_true c34
                          try have c34b2 : (9223372036854775807 < (x3_2 ++ (⟨#[32]⟩ : ByteArray)).size + t3116.size) = False := eq_false (Nat.not_lt.2 c34)
                          try have c34b3 : (9223372036854775807 < x3_2.size + 1 + t3116.size) = False := eq_false (by have h_ := c34; simp only [ByteArray.size_append] at h_; have : (⟨#[32]⟩ : ByteArray).size = 1 := rfl; omega)
                          have H' := Aside0.mk H
                          clear H
                          have hcz35_0 : wr.cell? ⟨gb3111, 0, none⟩ = some (.int .i64 a0_0) := (blk_cell BK3111.out 0).trans rfl
                          have hcz35_1 : wr.cell? ⟨gb3111, 1, none⟩ = some (.string a0_1) := (blk_cell BK3111.out 1).trans rfl
                          have hcz35_2 : wr.cell? ⟨gb3111, 2, none⟩ = some (.bool a0_2) := (blk_cell BK3111.out 2).trans rfl
                          have hcz35_3 : wr.cell? ⟨gb3111, 3, none⟩ = some (.slice A0_3 l0_3.length c0_3) := (blk_cell BK3111.out 3).trans rfl
                          have hcz35_4 : wr.cell? ⟨gb3111, 4, none⟩ = some (.slice A0_4 l0_4.length c0_4) := (blk_cell BK3111.out 4).trans rfl
                          have hfz35_0 := blk_frozen BK3111.out 0
                          have hfz35_1 := blk_frozen BK3111.out 1
                          have hfz35_2 := blk_frozen BK3111.out 2
                          have hfz35_3 := blk_frozen BK3111.out 3
                          have hfz35_4 := blk_frozen BK3111.out 4
                          have p3115 : 0 ≤ (x4_2 : Int) := of_decide_eq_true (by first | (with_reducible assumption) | assumption)
                          have q3115 : x4_2 < (l0_4.length : Int) := of_decide_eq_true (by first | (with_reducible assumption) | assumption)
                          obtain ⟨ad3115, A3115_3, c3115_3, A3115_4, c3115_4, e3115, hx3115_0, hx3115_1, hx3115_2, hx3115_3, hx3115_4, hl3115_3, hi3115_3, hl3115_4, hi3115_4⟩ := at_T51 HR0_4.out x4_2 p3115 q3115
                          cases e3115
                          replace hx3115_0 := (HB.out.cell (World.block_lt_of_cell? w _ hx3115_0)).trans hx3115_0
                          replace hx3115_1 := (HB.out.cell (World.block_lt_of_cell? w _ hx3115_1)).trans hx3115_1
                          replace hx3115_2 := (HB.out.cell (World.block_lt_of_cell? w _ hx3115_2)).trans hx3115_2
                          replace hx3115_3 := (HB.out.cell (World.block_lt_of_cell? w _ hx3115_3)).trans hx3115_3
                          replace hx3115_4 := (HB.out.cell (World.block_lt_of_cell? w _ hx3115_4)).trans hx3115_4
                          have HR3115_3 := Aside0.mk hi3115_3
                          have HC3115_3 := Aside0.mk hl3115_3
                          clear hi3115_3 hl3115_3
                          have HR3115_4 := Aside0.mk hi3115_4
                          have HC3115_4 := Aside0.mk hl3115_4
                          clear hi3115_4 hl3115_4
                          replace p3115 := eq_true p3115
                          replace q3115 := eq_true q3115
                          go_wp2_with (first | ((with_reducible refine gate_callee (f := 23) rfl ?_); refine goesL_ (some 62) rfl rfl Try.func23 (by kernel_rfl) rfl #[.agg #[.int .i64 ((rd_T51 l0_4 x4_2).f0), .string ((rd_T51 l0_4 x4_2).f1), .bool ((rd_T51 l0_4 x4_2).f2), .slice A3115_3 ((rd_T51 l0_4 x4_2).f3).length c3115_3, .slice A3115_4 ((rd_T51 l0_4 x4_2).f4).length c3115_4]] rfl (by (try simp only [List.map_toArray, List.map_cons, List.map_nil]); first | done | rfl | (simp only [List.length_drop, List.length_take]; rfl)) ?_; (with_reducible refine (ih k2 (by have := HJ9.out; have := HK2.out; omega) ((rd_T51 l0_4 x4_2).f0) ((rd_T51 l0_4 x4_2).f1) ((rd_T51 l0_4 x4_2).f2) _ _ ((rd_T51 l0_4 x4_2).f3) _ _ ((rd_T51 l0_4 x4_2).f4) t3116 _ ?side1 ?side2 ?side3 ?side4 A33.out).mono ?_); (case side1 => repeat (first | exact (Kd.C_below HR3115_3.out HB.out) | (with_reducible refine Kd.C_alloc ?_ _) | (with_reducible refine Kd.C_drewN ?_ _) | (with_reducible refine Kd.C_drew ?_))); (case side2 => exact HC3115_3.out); (case side3 => repeat (first | exact (Kd.C_below HR3115_4.out HB.out) | (with_reducible refine Kd.C_alloc ?_ _) | (with_reducible refine Kd.C_drewN ?_ _) | (with_reducible refine Kd.C_drew ?_))); (case side4 => exact HC3115_4.out); rintro e w36 ⟨rfl, hb⟩; refine ⟨_, rfl, ?_⟩; have n0_ := Aside0.mk (blk_below (g := gb3111) (o := .cells #[.int .i64 a0_0, .string a0_1, .bool a0_2, .slice A0_3 l0_3.length c0_3, .slice (some ad3115) l0_4.length c0_4] 51 (0, 0)) (by (with_reducible repeat (first | refine blk_drewN ?_ _ | refine blk_drew ?_ | refine blk_alloc ?_ _)); exact BK3111.out) hb); have n1_ := Aside0.mk (below_step (by repeat (first | (with_reducible first | exact HB.out | apply below_alloc | apply pw_below_drewN | apply below_drew1 | refine below_set ?_ GE3111.out) | exact HB.out)) hb); clear BK3111; clear HB; have BK3111 := n0_; have HB := n1_; clear n0_ n1_; (try clear hb); (try clear hb2); (try clear hk); (try clear hi)))
                          go_roundg k2
                          case measure => have := HJ9.out; have := HK2.out; omega
                          case rel => exact ⟨((x3_2 ++ (⟨#[32]⟩ : ByteArray)) ++ t3116), (wrap64 (x4_2 + 1)), (by first | rfl | (simp; done) | (simp [*]; done)), (by first | rfl | (simp; done) | (simp [*]; done)), H', ⟨by have := HJ9.out; have := HK2.out; omega⟩, ⟨by (with_reducible repeat (first | refine blk_drewN ?_ _ | refine blk_drew ?_ | refine blk_alloc ?_ _)); exact BK3111.out⟩, ⟨by repeat (first | (with_reducible first | exact HB.out | apply below_alloc | apply pw_below_drewN | apply below_drew1 | refine below_set ?_ GE3111.out) | exact HB.out)⟩⟩
                        · rw [if_neg c34] at H
                          exact absurd H (by simp)
                      · rw [if_neg c32] at H
                        exact absurd H (by simp)
                    · rw [if_neg c31] at H
                      exact absurd H (by simp)
                  · rw [if_neg c30] at H
                    have c30b0 : decide (0 < x4_2) = false := decide_eq_false c30
                    clear c30
                    by_cases c37 : a0_0 = 4
                    · rw [if_pos c37] at H
                      have c37b0 : (a0_0 == 4) = true := beq_iff_eq.mpr c37
                      have c37b1 : (a0_0 != 4) = false := bne_eq_false_iff_eq.mpr c37
                      clear c37
                      by_cases c38 : 0 ≤ x4_2
                      · rw [if_pos c38] at H
                        have c38b0 : decide (0 ≤ x4_2) = true := decide_eq_true c38
                        clear c38
                        replace H := Option.bind_eq_some_iff.mp H
                        obtain ⟨t3118, A390, H⟩ := H
                        replace H : (if x3_2.size + t3118.size ≤ 9223372036854775807 then (spec_ExpCoreShow.l0 k2 (x3_2 ++ t3118) (wrap64 (x4_2 + 1)) a0_0 a0_1 a0_2 l0_3 l0_4) else (none)) = some r := H
                        have A39 := Aside0.mk A390
                        clear A390
                        by_cases c40 : x3_2.size + t3118.size ≤ 9223372036854775807
                        · rw [if_pos c40] at H
                          have c40b0 := eq_true c40
                          have c40b1 : decide (x3_2.size + t3118.size ≤ 9223372036854775807) = true := decide_eq_true c40
                          try have c40b2 : (9223372036854775807 < x3_2.size + t3118.size) = False := eq_false (Nat.not_lt.2 c40)
                          have H' := Aside0.mk H
                          clear H
                          have hcz41_0 : wr.cell? ⟨gb3111, 0, none⟩ = some (.int .i64 a0_0) := (blk_cell BK3111.out 0).trans rfl
                          have hcz41_1 : wr.cell? ⟨gb3111, 1, none⟩ = some (.string a0_1) := (blk_cell BK3111.out 1).trans rfl
                          have hcz41_2 : wr.cell? ⟨gb3111, 2, none⟩ = some (.bool a0_2) := (blk_cell BK3111.out 2).trans rfl
                          have hcz41_3 : wr.cell? ⟨gb3111, 3, none⟩ = some (.slice A0_3 l0_3.length c0_3) := (blk_cell BK3111.out 3).trans rfl
                          have hcz41_4 : wr.cell? ⟨gb3111, 4, none⟩ = some (.slice A0_4 l0_4.length c0_4) := (blk_cell BK3111.out 4).trans rfl
                          have hfz41_0 := blk_frozen BK3111.out 0
                          have hfz41_1 := blk_frozen BK3111.out 1
                          have hfz41_2 := blk_frozen BK3111.out 2
                          have hfz41_3 := blk_frozen BK3111.out 3
                          have hfz41_4 := blk_frozen BK3111.out 4
                          have p3117 : 0 ≤ (x4_2 : Int) := of_decide_eq_true (by first | (with_reducible assumption) | assumption)
                          have q3117 : x4_2 < (l0_4.length : Int) := of_decide_eq_true (by first | (with_reducible assumption) | assumption)
                          obtain ⟨ad3117, A3117_3, c3117_3, A3117_4, c3117_4, e3117, hx3117_0, hx3117_1, hx3117_2, hx3117_3, hx3117_4, hl3117_3, hi3117_3, hl3117_4, hi3117_4⟩ := at_T51 HR0_4.out x4_2 p3117 q3117
                          cases e3117
                          replace hx3117_0 := (HB.out.cell (World.block_lt_of_cell? w _ hx3117_0)).trans hx3117_0
                          replace hx3117_1 := (HB.out.cell (World.block_lt_of_cell? w _ hx3117_1)).trans hx3117_1
                          replace hx3117_2 := (HB.out.cell (World.block_lt_of_cell? w _ hx3117_2)).trans hx3117_2
                          replace hx3117_3 := (HB.out.cell (World.block_lt_of_cell? w _ hx3117_3)).trans hx3117_3
                          replace hx3117_4 := (HB.out.cell (World.block_lt_of_cell? w _ hx3117_4)).trans hx3117_4
                          have HR3117_3 := Aside0.mk hi3117_3
                          have HC3117_3 := Aside0.mk hl3117_3
                          clear hi3117_3 hl3117_3
                          have HR3117_4 := Aside0.mk hi3117_4
                          have HC3117_4 := Aside0.mk hl3117_4
                          clear hi3117_4 hl3117_4
                          replace p3117 := eq_true p3117
                          replace q3117 := eq_true q3117
                          go_wp2_with (first | ((with_reducible refine gate_callee (f := 23) rfl ?_); refine goesL_ (some 62) rfl rfl Try.func23 (by kernel_rfl) rfl #[.agg #[.int .i64 ((rd_T51 l0_4 x4_2).f0), .string ((rd_T51 l0_4 x4_2).f1), .bool ((rd_T51 l0_4 x4_2).f2), .slice A3117_3 ((rd_T51 l0_4 x4_2).f3).length c3117_3, .slice A3117_4 ((rd_T51 l0_4 x4_2).f4).length c3117_4]] rfl (by (try simp only [List.map_toArray, List.map_cons, List.map_nil]); first | done | rfl | (simp only [List.length_drop, List.length_take]; rfl)) ?_; (with_reducible refine (ih k2 (by have := HJ9.out; have := HK2.out; omega) ((rd_T51 l0_4 x4_2).f0) ((rd_T51 l0_4 x4_2).f1) ((rd_T51 l0_4 x4_2).f2) _ _ ((rd_T51 l0_4 x4_2).f3) _ _ ((rd_T51 l0_4 x4_2).f4) t3118 _ ?side1 ?side2 ?side3 ?side4 A39.out).mono ?_); (case side1 => repeat (first | exact (Kd.C_below HR3117_3.out HB.out) | (with_reducible refine Kd.C_alloc ?_ _) | (with_reducible refine Kd.C_drewN ?_ _) | (with_reducible refine Kd.C_drew ?_))); (case side2 => exact HC3117_3.out); (case side3 => repeat (first | exact (Kd.C_below HR3117_4.out HB.out) | (with_reducible refine Kd.C_alloc ?_ _) | (with_reducible refine Kd.C_drewN ?_ _) | (with_reducible refine Kd.C_drew ?_))); (case side4 => exact HC3117_4.out); rintro e w42 ⟨rfl, hb⟩; refine ⟨_, rfl, ?_⟩; have n0_ := Aside0.mk (blk_below (g := gb3111) (o := .cells #[.int .i64 a0_0, .string a0_1, .bool a0_2, .slice A0_3 l0_3.length c0_3, .slice (some ad3117) l0_4.length c0_4] 51 (0, 0)) (by (with_reducible repeat (first | refine blk_drewN ?_ _ | refine blk_drew ?_ | refine blk_alloc ?_ _)); exact BK3111.out) hb); have n1_ := Aside0.mk (below_step (by repeat (first | (with_reducible first | exact HB.out | apply below_alloc | apply pw_below_drewN | apply below_drew1 | refine below_set ?_ GE3111.out) | exact HB.out)) hb); clear BK3111; clear HB; have BK3111 := n0_; have HB := n1_; clear n0_ n1_; (try clear hb); (try clear hb2); (try clear hk); (try clear hi)))
                          go_roundg k2
                          case measure => have := HJ9.out; have := HK2.out; omega
                          case rel => exact ⟨(x3_2 ++ t3118), (wrap64 (x4_2 + 1)), (by first | rfl | (simp; done) | (simp [*]; done)), (by first | rfl | (simp; done) | (simp [*]; done)), H', ⟨by have := HJ9.out; have := HK2.out; omega⟩, ⟨by (with_reducible repeat (first | refine blk_drewN ?_ _ | refine blk_drew ?_ | refine blk_alloc ?_ _)); exact BK3111.out⟩, ⟨by repeat (first | (with_reducible first | exact HB.out | apply below_alloc | apply pw_below_drewN | apply below_drew1 | refine below_set ?_ GE3111.out) | exact HB.out)⟩⟩
                        · rw [if_neg c40] at H
                          exact absurd H (by simp)
                      · rw [if_neg c38] at H
                        exact absurd H (by simp)
                    · rw [if_neg c37] at H
                      have c37b0 : (a0_0 == 4) = false := beq_eq_false_iff_ne.mpr c37
                      have c37b1 : (a0_0 != 4) = true := bne_iff_ne.mpr c37
                      by_cases c43 : x3_2.size + 1 ≤ 9223372036854775807
                      · rw [if_pos c43] at H
                        have c43b0 := eq_true c43
                        have c43b1 : decide (x3_2.size + 1 ≤ 9223372036854775807) = true := decide_eq_true c43
                        try have c43b2 : (9223372036854775807 < x3_2.size + 1) = False := eq_false (Nat.not_lt.2 c43)
                        by_cases c44 : 0 ≤ x4_2
                        · rw [if_pos c44] at H
                          have c44b0 : decide (0 ≤ x4_2) = true := decide_eq_true c44
                          clear c44
                          replace H := Option.bind_eq_some_iff.mp H
                          obtain ⟨t3120, A450, H⟩ := H
                          replace H : (if (x3_2 ++ (⟨#[32]⟩ : ByteArray)).size + t3120.size ≤ 9223372036854775807 then (spec_ExpCoreShow.l0 k2 ((x3_2 ++ (⟨#[32]⟩ : ByteArray)) ++ t3120) (wrap64 (x4_2 + 1)) a0_0 a0_1 a0_2 l0_3 l0_4) else (none)) = some r := H
                          have A45 := Aside0.mk A450
                          clear A450
                          by_cases c46 : (x3_2 ++ (⟨#[32]⟩ : ByteArray)).size + t3120.size ≤ 9223372036854775807
                          · rw [if_pos c46] at H
                            have c46b0 := eq_true c46
                            have c46b1 : decide ((x3_2 ++ (⟨#[32]⟩ : ByteArray)).size + t3120.size ≤ 9223372036854775807) = true := decide_eq_true c46
                            try have c46b2 : (9223372036854775807 < (x3_2 ++ (⟨#[32]⟩ : ByteArray)).size + t3120.size) = False := eq_false (Nat.not_lt.2 c46)
                            try have c46b3 : (9223372036854775807 < x3_2.size + 1 + t3120.size) = False := eq_false (by have h_ := c46; simp only [ByteArray.size_append] at h_; have : (⟨#[32]⟩ : ByteArray).size = 1 := rfl; omega)
                            have H' := Aside0.mk H
                            clear H
                            have hcz47_0 : wr.cell? ⟨gb3111, 0, none⟩ = some (.int .i64 a0_0) := (blk_cell BK3111.out 0).trans rfl
                            have hcz47_1 : wr.cell? ⟨gb3111, 1, none⟩ = some (.string a0_1) := (blk_cell BK3111.out 1).trans rfl
                            have hcz47_2 : wr.cell? ⟨gb3111, 2, none⟩ = some (.bool a0_2) := (blk_cell BK3111.out 2).trans rfl
                            have hcz47_3 : wr.cell? ⟨gb3111, 3, none⟩ = some (.slice A0_3 l0_3.length c0_3) := (blk_cell BK3111.out 3).trans rfl
                            have hcz47_4 : wr.cell? ⟨gb3111, 4, none⟩ = some (.slice A0_4 l0_4.length c0_4) := (blk_cell BK3111.out 4).trans rfl
                            have hfz47_0 := blk_frozen BK3111.out 0
                            have hfz47_1 := blk_frozen BK3111.out 1
                            have hfz47_2 := blk_frozen BK3111.out 2
                            have hfz47_3 := blk_frozen BK3111.out 3
                            have hfz47_4 := blk_frozen BK3111.out 4
                            have p3119 : 0 ≤ (x4_2 : Int) := of_decide_eq_true (by first | (with_reducible assumption) | assumption)
                            have q3119 : x4_2 < (l0_4.length : Int) := of_decide_eq_true (by first | (with_reducible assumption) | assumption)
                            obtain ⟨ad3119, A3119_3, c3119_3, A3119_4, c3119_4, e3119, hx3119_0, hx3119_1, hx3119_2, hx3119_3, hx3119_4, hl3119_3, hi3119_3, hl3119_4, hi3119_4⟩ := at_T51 HR0_4.out x4_2 p3119 q3119
                            cases e3119
                            replace hx3119_0 := (HB.out.cell (World.block_lt_of_cell? w _ hx3119_0)).trans hx3119_0
                            replace hx3119_1 := (HB.out.cell (World.block_lt_of_cell? w _ hx3119_1)).trans hx3119_1
                            replace hx3119_2 := (HB.out.cell (World.block_lt_of_cell? w _ hx3119_2)).trans hx3119_2
                            replace hx3119_3 := (HB.out.cell (World.block_lt_of_cell? w _ hx3119_3)).trans hx3119_3
                            replace hx3119_4 := (HB.out.cell (World.block_lt_of_cell? w _ hx3119_4)).trans hx3119_4
                            have HR3119_3 := Aside0.mk hi3119_3
                            have HC3119_3 := Aside0.mk hl3119_3
                            clear hi3119_3 hl3119_3
                            have HR3119_4 := Aside0.mk hi3119_4
                            have HC3119_4 := Aside0.mk hl3119_4
                            clear hi3119_4 hl3119_4
                            replace p3119 := eq_true p3119
                            replace q3119 := eq_true q3119
                            go_wp2_with (first | ((with_reducible refine gate_callee (f := 23) rfl ?_); refine goesL_ (some 62) rfl rfl Try.func23 (by kernel_rfl) rfl #[.agg #[.int .i64 ((rd_T51 l0_4 x4_2).f0), .string ((rd_T51 l0_4 x4_2).f1), .bool ((rd_T51 l0_4 x4_2).f2), .slice A3119_3 ((rd_T51 l0_4 x4_2).f3).length c3119_3, .slice A3119_4 ((rd_T51 l0_4 x4_2).f4).length c3119_4]] rfl (by (try simp only [List.map_toArray, List.map_cons, List.map_nil]); first | done | rfl | (simp only [List.length_drop, List.length_take]; rfl)) ?_; (with_reducible refine (ih k2 (by have := HJ9.out; have := HK2.out; omega) ((rd_T51 l0_4 x4_2).f0) ((rd_T51 l0_4 x4_2).f1) ((rd_T51 l0_4 x4_2).f2) _ _ ((rd_T51 l0_4 x4_2).f3) _ _ ((rd_T51 l0_4 x4_2).f4) t3120 _ ?side1 ?side2 ?side3 ?side4 A45.out).mono ?_); (case side1 => repeat (first | exact (Kd.C_below HR3119_3.out HB.out) | (with_reducible refine Kd.C_alloc ?_ _) | (with_reducible refine Kd.C_drewN ?_ _) | (with_reducible refine Kd.C_drew ?_))); (case side2 => exact HC3119_3.out); (case side3 => repeat (first | exact (Kd.C_below HR3119_4.out HB.out) | (with_reducible refine Kd.C_alloc ?_ _) | (with_reducible refine Kd.C_drewN ?_ _) | (with_reducible refine Kd.C_drew ?_))); (case side4 => exact HC3119_4.out); rintro e w48 ⟨rfl, hb⟩; refine ⟨_, rfl, ?_⟩; have n0_ := Aside0.mk (blk_below (g := gb3111) (o := .cells #[.int .i64 a0_0, .string a0_1, .bool a0_2, .slice A0_3 l0_3.length c0_3, .slice (some ad3119) l0_4.length c0_4] 51 (0, 0)) (by (with_reducible repeat (first | refine blk_drewN ?_ _ | refine blk_drew ?_ | refine blk_alloc ?_ _)); exact BK3111.out) hb); have n1_ := Aside0.mk (below_step (by repeat (first | (with_reducible first | exact HB.out | apply below_alloc | apply pw_below_drewN | apply below_drew1 | refine below_set ?_ GE3111.out) | exact HB.out)) hb); clear BK3111; clear HB; have BK3111 := n0_; have HB := n1_; clear n0_ n1_; (try clear hb); (try clear hb2); (try clear hk); (try clear hi)))
                            go_roundg k2
                            case measure => have := HJ9.out; have := HK2.out; omega
                            case rel => exact ⟨((x3_2 ++ (⟨#[32]⟩ : ByteArray)) ++ t3120), (wrap64 (x4_2 + 1)), (by first | rfl | (simp; done) | (simp [*]; done)), (by first | rfl | (simp; done) | (simp [*]; done)), H', ⟨by have := HJ9.out; have := HK2.out; omega⟩, ⟨by (with_reducible repeat (first | refine blk_drewN ?_ _ | refine blk_drew ?_ | refine blk_alloc ?_ _)); exact BK3111.out⟩, ⟨by repeat (first | (with_reducible first | exact HB.out | apply below_alloc | apply pw_below_drewN | apply below_drew1 | refine below_set ?_ GE3111.out) | exact HB.out)⟩⟩
                          · rw [if_neg c46] at H
                            exact absurd H (by simp)
                        · rw [if_neg c44] at H
                          exact absurd H (by simp)
                      · rw [if_neg c43] at H
                        exact absurd H (by simp)
                · rw [if_neg c29] at H
                  have c29b0 : decide (x4_2 < (l0_4.length : Int)) = false := decide_eq_false c29
                  clear c29
                  by_cases c49 : x3_2.size + 1 ≤ 9223372036854775807
                  · rw [if_pos c49] at H
                    have c49b0 := eq_true c49
                    have c49b1 : decide (x3_2.size + 1 ≤ 9223372036854775807) = true := decide_eq_true c49
                    try have c49b2 : (9223372036854775807 < x3_2.size + 1) = False := eq_false (Nat.not_lt.2 c49)
                    obtain rfl := Option.some.inj H
                    have hcz50_0 : wr.cell? ⟨gb3111, 0, none⟩ = some (.int .i64 a0_0) := (blk_cell BK3111.out 0).trans rfl
                    have hcz50_1 : wr.cell? ⟨gb3111, 1, none⟩ = some (.string a0_1) := (blk_cell BK3111.out 1).trans rfl
                    have hcz50_2 : wr.cell? ⟨gb3111, 2, none⟩ = some (.bool a0_2) := (blk_cell BK3111.out 2).trans rfl
                    have hcz50_3 : wr.cell? ⟨gb3111, 3, none⟩ = some (.slice A0_3 l0_3.length c0_3) := (blk_cell BK3111.out 3).trans rfl
                    have hcz50_4 : wr.cell? ⟨gb3111, 4, none⟩ = some (.slice A0_4 l0_4.length c0_4) := (blk_cell BK3111.out 4).trans rfl
                    have hfz50_0 := blk_frozen BK3111.out 0
                    have hfz50_1 := blk_frozen BK3111.out 1
                    have hfz50_2 := blk_frozen BK3111.out 2
                    have hfz50_3 := blk_frozen BK3111.out 3
                    have hfz50_4 := blk_frozen BK3111.out 4
                    go_wp2
                    go_ret
                    exact ⟨by first | rfl | (simp [errW_none, errW_some] <;> rfl) | (simp [*, errW_none, errW_some] <;> rfl), by repeat (first | (with_reducible first | exact HB.out | apply below_alloc | apply pw_below_drewN | apply below_drew1 | refine below_set ?_ GE3111.out) | exact HB.out)⟩
                  · rw [if_neg c49] at H
                    exact absurd H (by simp)
      · rw [if_neg c9] at H
        exact absurd H (by simp)

end Go.Proofs.Ytmdhanegafclmaa.PFnExactExpCoreShow
