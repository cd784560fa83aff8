-- Laid by a program of this session (wip/tools/mkprint2.py, which turns a copy of the print); not the kit print itself.
import Derived.Test.YtmdhanegafclmaaPFnExactExpCoreShowx0
import Derived.Test.YtmdhanegafclmaaPFnExactExpCoreShowx3
import Derived.Test.YtmdhanegafclmaaLib
namespace Go.Proofs.Ytmdhanegafclmaa.PFnExactExpCoreShow
open Go.RowKit Go.Proofs.YtmdhanegafclmaaW.PrintWords Go.Proofs.YtmdhanegafclmaaW.PrintLast Go.Proofs.YtmdhanegafclmaaW.PrintMore
attribute [local go_sem] max2_int min2_int max_two min_two max_three min_three max_four min_four   -- for this text's walks alone
set_option linter.unusedVariables false
set_option linter.unusedSimpArgs false

/-! ### impl_ExpCoreShow: function 25 -/
mutual
def impl_ExpCoreShow.j2 : Nat → ByteArray → Int → ByteArray → Bool → List ByteArray → List (S51) → Option (ByteArray)
  | 0, _, _, _, _, _, _ => none
  | k + 1, x3, x6138000, x6138001, x6138002, x6138003, x6138004 => if 1 + x3.size ≤ 9223372036854775807 then ((builder_Write.f (⟨#[]⟩ : ByteArray) ((⟨#[40]⟩ : ByteArray) ++ x3)).bind fun t6147 => (impl_ExpCoreShow.l1 k t6147 x6138004 (x6138004.length : Int) 0)) else (none)
def impl_ExpCoreShow.l1 : Nat → ByteArray → List (S51) → Int → Int → Option (ByteArray)
  | 0, _, _, _, _ => none
  | k + 1, x7, x64, x65, x66 => if x66 < x65 then (if 0 ≤ x66 then (if x66 < (x64.length : Int) then ((impl_ExpCoreShow.f k ((rd_T51 x64 x66).f0) ((rd_T51 x64 x66).f1) ((rd_T51 x64 x66).f2) ((rd_T51 x64 x66).f3) ((rd_T51 x64 x66).f4)).bind fun t6150 => (if 1 + t6150.size ≤ 9223372036854775807 then ((builder_Write.f x7 ((⟨#[32]⟩ : ByteArray) ++ t6150)).bind fun t6151 => (impl_ExpCoreShow.l1 k t6151 x64 x65 (wrap64 (x66 + 1)))) else (none))) else (none)) else (none)) else ((builder_String.f x7).bind fun t6152 => (if t6152.size + 1 ≤ 9223372036854775807 then (some (t6152 ++ (⟨#[41]⟩ : ByteArray))) else (none)))
def impl_ExpCoreShow.j0 : Nat → ByteArray → Int → Bool → Int → ByteArray → Bool → List ByteArray → List (S51) → Option (ByteArray)
  | 0, _, _, _, _, _, _, _, _ => none
  | k + 1, x3, x11, x12, x6138000, x6138001, x6138002, x6138003, x6138004 => if x12 = true then (some x6138001) else (if x11 = 3 then ((impl_coreNames.f k x6138000 x6138001 x6138002 x6138003 x6138004).bind fun t6138 => (if 7 + t6138.size ≤ 9223372036854775807 then (impl_ExpCoreShow.j2 k ((⟨#[108, 97, 109, 98, 100, 97, 32]⟩ : ByteArray) ++ t6138) x6138000 x6138001 x6138002 x6138003 x6138004) else (none))) else (if x11 = 4 then (impl_ExpCoreShow.l0 k ([] : List ByteArray) x6138004 (x6138004.length : Int) 0) else (if x11 = 5 then (impl_ExpCoreShow.j2 k (⟨#[105, 102]⟩ : ByteArray) x6138000 x6138001 x6138002 x6138003 x6138004) else (if x11 = 6 then (if 5 + x6138001.size ≤ 9223372036854775807 then (impl_ExpCoreShow.j2 k ((⟨#[115, 101, 116, 33, 32]⟩ : ByteArray) ++ x6138001) x6138000 x6138001 x6138002 x6138003 x6138004) else (none)) else (if x11 = 7 then (impl_ExpCoreShow.j2 k (⟨#[98, 101, 103, 105, 110]⟩ : ByteArray) x6138000 x6138001 x6138002 x6138003 x6138004) else (if x11 = 8 then ((impl_coreNames.f k x6138000 x6138001 x6138002 x6138003 x6138004).bind fun t6146 => (if 4 + t6146.size ≤ 9223372036854775807 then (impl_ExpCoreShow.j2 k ((⟨#[114, 101, 99, 32]⟩ : ByteArray) ++ t6146) x6138000 x6138001 x6138002 x6138003 x6138004) else (none))) else (if x11 = 9 then (if 7 + x6138001.size ≤ 9223372036854775807 then (impl_ExpCoreShow.j2 k ((⟨#[100, 101, 102, 105, 110, 101, 32]⟩ : ByteArray) ++ x6138001) x6138000 x6138001 x6138002 x6138003 x6138004) else (none)) else (impl_ExpCoreShow.j2 k x3 x6138000 x6138001 x6138002 x6138003 x6138004))))))))
def impl_ExpCoreShow.l0 : Nat → List ByteArray → List (S51) → Int → Int → Option (ByteArray)
  | 0, _, _, _, _ => none
  | k + 1, x4, x25, x26, x27 => if x27 < x26 then (if 0 ≤ x27 then (if x27 < (x25.length : Int) then ((impl_ExpCoreShow.f k ((rd_T51 x25 x27).f0) ((rd_T51 x25 x27).f1) ((rd_T51 x25 x27).f2) ((rd_T51 x25 x27).f3) ((rd_T51 x25 x27).f4)).bind fun t6141 => (if x4.length < 8796093022208 then (impl_ExpCoreShow.l0 k (x4 ++ [t6141]) x25 x26 (wrap64 (x27 + 1))) else (none))) else (none)) else (none)) else ((strings_Join.f x4 (⟨#[32]⟩ : ByteArray)).bind fun t6145 => (if 1 + t6145.size ≤ 9223372036854775807 then (if ((⟨#[40]⟩ : ByteArray) ++ t6145).size + 1 ≤ 9223372036854775807 then (some (((⟨#[40]⟩ : ByteArray) ++ t6145) ++ (⟨#[41]⟩ : ByteArray))) else (none)) else (none)))
def impl_ExpCoreShow.f : Nat → Int → ByteArray → Bool → List ByteArray → List (S51) → Option (ByteArray)
  | 0, _, _, _, _, _ => none
  | k + 1, a0_0, a0_1, a0_2, l0_3, l0_4 => if a0_0 = 1 then (impl_ExpCoreShow.j0 k (⟨#[]⟩ : ByteArray) a0_0 (a0_0 == 1) a0_0 a0_1 a0_2 l0_3 l0_4) else (impl_ExpCoreShow.j0 k (⟨#[]⟩ : ByteArray) a0_0 (a0_0 == 2) a0_0 a0_1 a0_2 l0_3 l0_4)
end
theorem impl_ExpCoreShow.mono_l : ∀ k, (∀ y0 y1 y2 y3 y4, LeO (impl_ExpCoreShow.f k y0 y1 y2 y3 y4) (impl_ExpCoreShow.f (k + 1) y0 y1 y2 y3 y4)) ∧ (∀ y0 y1 y2 y3 y4 y5, LeO (impl_ExpCoreShow.j2 k y0 y1 y2 y3 y4 y5) (impl_ExpCoreShow.j2 (k + 1) y0 y1 y2 y3 y4 y5)) ∧ (∀ y0 y1 y2 y3, LeO (impl_ExpCoreShow.l1 k y0 y1 y2 y3) (impl_ExpCoreShow.l1 (k + 1) y0 y1 y2 y3)) ∧ (∀ y0 y1 y2 y3 y4 y5 y6 y7, LeO (impl_ExpCoreShow.j0 k y0 y1 y2 y3 y4 y5 y6 y7) (impl_ExpCoreShow.j0 (k + 1) y0 y1 y2 y3 y4 y5 y6 y7)) ∧ (∀ y0 y1 y2 y3, LeO (impl_ExpCoreShow.l0 k y0 y1 y2 y3) (impl_ExpCoreShow.l0 (k + 1) y0 y1 y2 y3))
  | 0 => ⟨fun _ _ _ _ _ r h => by simp [impl_ExpCoreShow.f] at h, fun _ _ _ _ _ _ r h => by simp [impl_ExpCoreShow.j2] at h, fun _ _ _ _ r h => by simp [impl_ExpCoreShow.l1] at h, fun _ _ _ _ _ _ _ _ r h => by simp [impl_ExpCoreShow.j0] at h, fun _ _ _ _ r h => by simp [impl_ExpCoreShow.l0] at h⟩
  | k + 1 => by
    obtain ⟨ih0, ih1, ih2, ih3, ih4⟩ := impl_ExpCoreShow.mono_l k
    refine ⟨?_, ?_, ?_, ?_, ?_⟩
    · intro y0 y1 y2 y3 y4
      unfold impl_ExpCoreShow.f
      repeat' first
      | (with_reducible exact ih0 _ _ _ _ _)
      | (with_reducible exact ih1 _ _ _ _ _ _)
      | (with_reducible exact ih2 _ _ _ _)
      | (with_reducible exact ih3 _ _ _ _ _ _ _ _)
      | (with_reducible exact ih4 _ _ _ _)
      | (with_reducible exact impl_coreNames.mono _ _ _ _ _ _)
      | (with_reducible exact LeO.refl _)
      | (with_reducible exact LeO.none _)
      | (with_reducible refine LeO.ite ?_ ?_)
      | (with_reducible refine LeO.bind ?_ (fun _ => ?_))
      | exact ih0 _ _ _ _ _
      | exact ih1 _ _ _ _ _ _
      | exact ih2 _ _ _ _
      | exact ih3 _ _ _ _ _ _ _ _
      | exact ih4 _ _ _ _
      | exact impl_coreNames.mono _ _ _ _ _ _
      | exact LeO.none _
      | refine LeO.ite ?_ ?_
      | refine LeO.bind ?_ (fun _ => ?_)
    · intro y0 y1 y2 y3 y4 y5
      unfold impl_ExpCoreShow.j2
      repeat' first
      | (with_reducible exact ih0 _ _ _ _ _)
      | (with_reducible exact ih1 _ _ _ _ _ _)
      | (with_reducible exact ih2 _ _ _ _)
      | (with_reducible exact ih3 _ _ _ _ _ _ _ _)
      | (with_reducible exact ih4 _ _ _ _)
      | (with_reducible exact impl_coreNames.mono _ _ _ _ _ _)
      | (with_reducible exact LeO.refl _)
      | (with_reducible exact LeO.none _)
      | (with_reducible refine LeO.ite ?_ ?_)
      | (with_reducible refine LeO.bind ?_ (fun _ => ?_))
      | exact ih0 _ _ _ _ _
      | exact ih1 _ _ _ _ _ _
      | exact ih2 _ _ _ _
      | exact ih3 _ _ _ _ _ _ _ _
      | exact ih4 _ _ _ _
      | exact impl_coreNames.mono _ _ _ _ _ _
      | exact LeO.none _
      | refine LeO.ite ?_ ?_
      | refine LeO.bind ?_ (fun _ => ?_)
    · intro y0 y1 y2 y3
      unfold impl_ExpCoreShow.l1
      repeat' first
      | (with_reducible exact ih0 _ _ _ _ _)
      | (with_reducible exact ih1 _ _ _ _ _ _)
      | (with_reducible exact ih2 _ _ _ _)
      | (with_reducible exact ih3 _ _ _ _ _ _ _ _)
      | (with_reducible exact ih4 _ _ _ _)
      | (with_reducible exact impl_coreNames.mono _ _ _ _ _ _)
      | (with_reducible exact LeO.refl _)
      | (with_reducible exact LeO.none _)
      | (with_reducible refine LeO.ite ?_ ?_)
      | (with_reducible refine LeO.bind ?_ (fun _ => ?_))
      | exact ih0 _ _ _ _ _
      | exact ih1 _ _ _ _ _ _
      | exact ih2 _ _ _ _
      | exact ih3 _ _ _ _ _ _ _ _
      | exact ih4 _ _ _ _
      | exact impl_coreNames.mono _ _ _ _ _ _
      | exact LeO.none _
      | refine LeO.ite ?_ ?_
      | refine LeO.bind ?_ (fun _ => ?_)
    · intro y0 y1 y2 y3 y4 y5 y6 y7
      unfold impl_ExpCoreShow.j0
      repeat' first
      | (with_reducible exact ih0 _ _ _ _ _)
      | (with_reducible exact ih1 _ _ _ _ _ _)
      | (with_reducible exact ih2 _ _ _ _)
      | (with_reducible exact ih3 _ _ _ _ _ _ _ _)
      | (with_reducible exact ih4 _ _ _ _)
      | (with_reducible exact impl_coreNames.mono _ _ _ _ _ _)
      | (with_reducible exact LeO.refl _)
      | (with_reducible exact LeO.none _)
      | (with_reducible refine LeO.ite ?_ ?_)
      | (with_reducible refine LeO.bind ?_ (fun _ => ?_))
      | exact ih0 _ _ _ _ _
      | exact ih1 _ _ _ _ _ _
      | exact ih2 _ _ _ _
      | exact ih3 _ _ _ _ _ _ _ _
      | exact ih4 _ _ _ _
      | exact impl_coreNames.mono _ _ _ _ _ _
      | exact LeO.none _
      | refine LeO.ite ?_ ?_
      | refine LeO.bind ?_ (fun _ => ?_)
    · intro y0 y1 y2 y3
      unfold impl_ExpCoreShow.l0
      repeat' first
      | (with_reducible exact ih0 _ _ _ _ _)
      | (with_reducible exact ih1 _ _ _ _ _ _)
      | (with_reducible exact ih2 _ _ _ _)
      | (with_reducible exact ih3 _ _ _ _ _ _ _ _)
      | (with_reducible exact ih4 _ _ _ _)
      | (with_reducible exact impl_coreNames.mono _ _ _ _ _ _)
      | (with_reducible exact LeO.refl _)
      | (with_reducible exact LeO.none _)
      | (with_reducible refine LeO.ite ?_ ?_)
      | (with_reducible refine LeO.bind ?_ (fun _ => ?_))
      | exact ih0 _ _ _ _ _
      | exact ih1 _ _ _ _ _ _
      | exact ih2 _ _ _ _
      | exact ih3 _ _ _ _ _ _ _ _
      | exact ih4 _ _ _ _
      | exact impl_coreNames.mono _ _ _ _ _ _
      | exact LeO.none _
      | refine LeO.ite ?_ ?_
      | refine LeO.bind ?_ (fun _ => ?_)
theorem impl_ExpCoreShow.mono : ∀ a0 a1 a2 a3 a4 k, LeO (impl_ExpCoreShow.f k a0 a1 a2 a3 a4) (impl_ExpCoreShow.f (k + 1) a0 a1 a2 a3 a4) := by
  intro a0 a1 a2 a3 a4 k
  obtain ⟨ih0, ih1, ih2, ih3, ih4⟩ := impl_ExpCoreShow.mono_l k
  exact ih0 a0 a1 a2 a3 a4
set_option maxHeartbeats 8000000 in
set_option maxRecDepth 100000 in
theorem impl_ExpCoreShow.calls (k : Nat) : ∀ (a0_0 : Int) (a0_1 : ByteArray) (a0_2 : Bool) (A0_3 : Option Addr) (c0_3 : Nat) (l0_3 : List ByteArray) (A0_4 : Option Addr) (c0_4 : Nat) (l0_4 : List (S51)) (r : ByteArray) (w : World) (hr0_3 : Kd.C Kd.string w A0_3 l0_3.length l0_3) (hc0_3 : l0_3.length ≤ c0_3) (hr0_4 : Kd.C k51 w A0_4 l0_4.length l0_4) (hc0_4 : l0_4.length ≤ c0_4) (h : impl_ExpCoreShow.f k a0_0 a0_1 a0_2 l0_3 l0_4 = some r),
    Calls Try.prog 25 #[.agg #[.int .i64 a0_0, .string a0_1, .bool a0_2, .slice A0_3 l0_3.length c0_3, .slice A0_4 l0_4.length c0_4]] w fun e w' => e = .returned (.string r) ∧ Below w.heap.size w w' := by
  induction k using Nat.strongRecOn with
  | _ k ih =>
  intro a0_0 a0_1 a0_2 A0_3 c0_3 l0_3 A0_4 c0_4 l0_4 r w hr0_3 hc0_3 hr0_4 hc0_4 h
  cases k with
  | zero => exact absurd h (by simp [impl_ExpCoreShow.f])
  | succ k =>
  simp only [impl_ExpCoreShow.f] at h
  have hu51 := Try.underlying51
  have HR0_3 := Aside0.mk hr0_3
  have HC0_3 := Aside0.mk hc0_3
  clear hr0_3 hc0_3
  have HR0_4 := Aside0.mk hr0_4
  have HC0_4 := Aside0.mk hc0_4
  clear hr0_4 hc0_4
  have HB := Aside0.mk (Below.refl w.heap.size w)
  have H : (if a0_0 = 1 then (impl_ExpCoreShow.j0 k (⟨#[]⟩ : ByteArray) a0_0 (a0_0 == 1) a0_0 a0_1 a0_2 l0_3 l0_4) else (impl_ExpCoreShow.j0 k (⟨#[]⟩ : ByteArray) a0_0 (a0_0 == 2) a0_0 a0_1 a0_2 l0_3 l0_4)) = some r := h
  clear h
  have HC2 := Aside0.mk H
  clear H
  go_enter Try.func25, Try.ntmps25
  go_upto_block 0 with (first | ((with_reducible refine gate_dst (N := 1) rfl ?_); refine box_event ?hg (N := 1) ?hd (cs := #[.int .i64 a0_0, .string a0_1, .bool a0_2, .slice A0_3 l0_3.length c0_3, .slice A0_4 l0_4.length c0_4]) (t := 51) ?hr ?_; (case hd => rfl); (case hg => rfl); (case hr => first | (go_simp; done) | (go_simp; rfl)); intro gb6137 hg w3 hbox hb; have n0_ := Aside0.mk (below_step (by repeat (first | (with_reducible first | exact HB.out | apply below_alloc | apply pw_below_drewN | apply below_drew1) | exact HB.out)) hb); have n1_ := Aside0.mk (hbox); have n2_ := Aside0.mk ((by rw [hg]; exact (below_size (by repeat (first | (with_reducible first | exact HB.out | apply below_alloc | apply pw_below_drewN | apply below_drew1) | exact HB.out))) : w.heap.size ≤ gb6137)); have n3_ := Aside0.mk ((by rw [hg]; exact (below_size (by repeat (first | (with_reducible first | exact HB.out | apply below_alloc | apply pw_below_drewN | apply below_drew1) | exact HB.out))) : w.heap.size ≤ gb6137)); clear HB; have HB := n0_; have BK6137 := n1_; have GW6137 := n2_; have GE6137 := n3_; clear n0_ n1_ n2_ n3_; clear hb hbox hg; have hcz4_0 : w3.cell? ⟨gb6137, 0, none⟩ = some (.int .i64 a0_0) := (blk_cell BK6137.out 0).trans rfl; have hcz4_1 : w3.cell? ⟨gb6137, 1, none⟩ = some (.string a0_1) := (blk_cell BK6137.out 1).trans rfl; have hcz4_2 : w3.cell? ⟨gb6137, 2, none⟩ = some (.bool a0_2) := (blk_cell BK6137.out 2).trans rfl; have hcz4_3 : w3.cell? ⟨gb6137, 3, none⟩ = some (.slice A0_3 l0_3.length c0_3) := (blk_cell BK6137.out 3).trans rfl; have hcz4_4 : w3.cell? ⟨gb6137, 4, none⟩ = some (.slice A0_4 l0_4.length c0_4) := (blk_cell BK6137.out 4).trans rfl; have hfz4_0 := blk_frozen BK6137.out 0; have hfz4_1 := blk_frozen BK6137.out 1; have hfz4_2 := blk_frozen BK6137.out 2; have hfz4_3 := blk_frozen BK6137.out 3; have hfz4_4 := blk_frozen BK6137.out 4))
  (try simp only [Act.put, List.setIfInBounds_toArray, List.set_cons_zero, List.set_cons_succ])
  go_cut [3] (fun v3 wc => ∃ (kq : Nat) (x3_1 : ByteArray), v3 = .string x3_1 ∧ Aside0 (impl_ExpCoreShow.j2 kq x3_1 a0_0 a0_1 a0_2 l0_3 l0_4 = some r) ∧ Aside0 (kq ≤ k) ∧ Aside0 (wc.heap[gb6137]? = some (.cells #[.int .i64 a0_0, .string a0_1, .bool a0_2, (.slice A0_3 l0_3.length c0_3), (.slice A0_4 l0_4.length c0_4)] 51 (0, 0))) ∧ Aside0 (Below w.heap.size w wc))
  case first =>
    have H := HC2.out
    clear HC2
    have HC5 := Aside0.mk H
    clear H
    go_upto_if 12 with (fail)
    go_cut [12] (fun v12 wc => ∃ (kq : Nat) (x12_4 : Bool), v12 = .bool x12_4 ∧ Aside0 (impl_ExpCoreShow.j0 kq (⟨#[]⟩ : ByteArray) a0_0 x12_4 a0_0 a0_1 a0_2 l0_3 l0_4 = some r) ∧ Aside0 (kq ≤ k) ∧ Aside0 (wc.heap[gb6137]? = some (.cells #[.int .i64 a0_0, .string a0_1, .bool a0_2, (.slice A0_3 l0_3.length c0_3), (.slice A0_4 l0_4.length c0_4)] 51 (0, 0))) ∧ Aside0 (Below w.heap.size w wc))
    case first =>
      have H := HC5.out
      clear HC5
      by_cases c6 : a0_0 = 1
      · rw [if_pos c6] at H
        have c6b0 : (a0_0 == 1) = true := beq_iff_eq.mpr c6
        have c6b1 : (a0_0 != 1) = false := bne_eq_false_iff_eq.mpr c6
        clear c6
        (first | rw [c6b0] | (simp only [i64_w, i32_w]; rw [c6b0]) | skip)
        have H' := Aside0.mk H
        clear H
        go_wp2
        go_meet
        case rel => exact ⟨_, ((a0_0 == 1)), (by first | rfl | (simp; done) | (simp [*]; done)), H', ⟨by first | omega | exact Nat.le_refl _⟩, ⟨by (with_reducible repeat (first | refine blk_drewN ?_ _ | refine blk_drew ?_ | refine blk_alloc ?_ _)); exact BK6137.out⟩, ⟨by repeat (first | (with_reducible first | exact HB.out | apply below_alloc | apply pw_below_drewN | apply below_drew1 | refine below_set ?_ GE6137.out) | exact HB.out)⟩⟩
      · rw [if_neg c6] at H
        have c6b0 : (a0_0 == 1) = false := beq_eq_false_iff_ne.mpr c6
        have c6b1 : (a0_0 != 1) = true := bne_iff_ne.mpr c6
        (first | rw [c6b0] | (simp only [i64_w, i32_w]; rw [c6b0]) | skip)
        have H' := Aside0.mk H
        clear H
        go_wp2
        go_meet
        case rel => exact ⟨_, ((a0_0 == 2)), (by first | rfl | (simp; done) | (simp [*]; done)), H', ⟨by first | omega | exact Nat.le_refl _⟩, ⟨by (with_reducible repeat (first | refine blk_drewN ?_ _ | refine blk_drew ?_ | refine blk_alloc ?_ _)); exact BK6137.out⟩, ⟨by repeat (first | (with_reducible first | exact HB.out | apply below_alloc | apply pw_below_drewN | apply below_drew1 | refine below_set ?_ GE6137.out) | exact HB.out)⟩⟩
    case rest =>
      clear HC5
      try clear c2
      try clear p2
      try clear c6
      try clear c6b0
      try clear c6b1
      try clear hcz4_0
      try clear hcz4_1
      try clear hcz4_2
      try clear hcz4_3
      try clear hcz4_4
      try clear hfz4_0
      try clear hfz4_1
      try clear hfz4_2
      try clear hfz4_3
      try clear hfz4_4
      obtain ⟨kq, x12_4, rfl, HA, HJ4, BK6137, HB⟩ := hcut
      cases kq with
      | zero => exact absurd HA.out (by simp [impl_ExpCoreShow.j0])
      | succ kj4 =>
        have H := HA.out
        clear HA
        simp only [impl_ExpCoreShow.j0] at H
        by_cases c7 : x12_4 = true
        · subst c7
          have H1 : (some a0_1) = some r := by rw [if_pos rfl] at H; exact H
          clear H
          have H := H1
          clear H1
          obtain rfl := Option.some.inj H
          have hcz8_0 : wc.cell? ⟨gb6137, 0, none⟩ = some (.int .i64 a0_0) := (blk_cell BK6137.out 0).trans rfl
          have hcz8_1 : wc.cell? ⟨gb6137, 1, none⟩ = some (.string a0_1) := (blk_cell BK6137.out 1).trans rfl
          have hcz8_2 : wc.cell? ⟨gb6137, 2, none⟩ = some (.bool a0_2) := (blk_cell BK6137.out 2).trans rfl
          have hcz8_3 : wc.cell? ⟨gb6137, 3, none⟩ = some (.slice A0_3 l0_3.length c0_3) := (blk_cell BK6137.out 3).trans rfl
          have hcz8_4 : wc.cell? ⟨gb6137, 4, none⟩ = some (.slice A0_4 l0_4.length c0_4) := (blk_cell BK6137.out 4).trans rfl
          have hfz8_0 := blk_frozen BK6137.out 0
          have hfz8_1 := blk_frozen BK6137.out 1
          have hfz8_2 := blk_frozen BK6137.out 2
          have hfz8_3 := blk_frozen BK6137.out 3
          have hfz8_4 := blk_frozen BK6137.out 4
          go_wp2
          go_ret
          exact ⟨by first | rfl | (simp [errW_none, errW_some] <;> rfl) | (simp [*, errW_none, errW_some] <;> rfl), by repeat (first | (with_reducible first | exact HB.out | apply below_alloc | apply pw_below_drewN | apply below_drew1 | refine below_set ?_ GE6137.out) | exact HB.out)⟩
        · replace c7 := Bool.eq_false_iff.mpr c7
          subst c7
          have H1 : (if a0_0 = 3 then ((impl_coreNames.f kj4 a0_0 a0_1 a0_2 l0_3 l0_4).bind fun t6138 => (if 7 + t6138.size ≤ 9223372036854775807 then (impl_ExpCoreShow.j2 kj4 ((⟨#[108, 97, 109, 98, 100, 97, 32]⟩ : ByteArray) ++ t6138) a0_0 a0_1 a0_2 l0_3 l0_4) else (none))) else (if a0_0 = 4 then (impl_ExpCoreShow.l0 kj4 ([] : List ByteArray) l0_4 (l0_4.length : Int) 0) else (if a0_0 = 5 then (impl_ExpCoreShow.j2 kj4 (⟨#[105, 102]⟩ : ByteArray) a0_0 a0_1 a0_2 l0_3 l0_4) else (if a0_0 = 6 then (if 5 + a0_1.size ≤ 9223372036854775807 then (impl_ExpCoreShow.j2 kj4 ((⟨#[115, 101, 116, 33, 32]⟩ : ByteArray) ++ a0_1) a0_0 a0_1 a0_2 l0_3 l0_4) else (none)) else (if a0_0 = 7 then (impl_ExpCoreShow.j2 kj4 (⟨#[98, 101, 103, 105, 110]⟩ : ByteArray) a0_0 a0_1 a0_2 l0_3 l0_4) else (if a0_0 = 8 then ((impl_coreNames.f kj4 a0_0 a0_1 a0_2 l0_3 l0_4).bind fun t6146 => (if 4 + t6146.size ≤ 9223372036854775807 then (impl_ExpCoreShow.j2 kj4 ((⟨#[114, 101, 99, 32]⟩ : ByteArray) ++ t6146) a0_0 a0_1 a0_2 l0_3 l0_4) else (none))) else (if a0_0 = 9 then (if 7 + a0_1.size ≤ 9223372036854775807 then (impl_ExpCoreShow.j2 kj4 ((⟨#[100, 101, 102, 105, 110, 101, 32]⟩ : ByteArray) ++ a0_1) a0_0 a0_1 a0_2 l0_3 l0_4) else (none)) else (impl_ExpCoreShow.j2 kj4 (⟨#[]⟩ : ByteArray) a0_0 a0_1 a0_2 l0_3 l0_4)))))))) = some r := by rw [if_neg (show ¬ (false = true) by decide)] at H; exact H
          clear H
          have H := H1
          clear H1
          by_cases c9 : a0_0 = 3
          · rw [if_pos c9] at H
            have c9b0 : (a0_0 == 3) = true := beq_iff_eq.mpr c9
            have c9b1 : (a0_0 != 3) = false := bne_eq_false_iff_eq.mpr c9
            clear c9
            replace H := Option.bind_eq_some_iff.mp H
            obtain ⟨t6138, A100, H⟩ := H
            replace H : (if 7 + t6138.size ≤ 9223372036854775807 then (impl_ExpCoreShow.j2 kj4 ((⟨#[108, 97, 109, 98, 100, 97, 32]⟩ : ByteArray) ++ t6138) a0_0 a0_1 a0_2 l0_3 l0_4) else (none)) = some r := H
            have A10 := Aside0.mk A100
            clear A100
            by_cases c11 : 7 + t6138.size ≤ 9223372036854775807
            · rw [if_pos c11] at H
              have c11b0 := eq_true c11
              have c11b1 : decide (7 + t6138.size ≤ 9223372036854775807) = true := decide_eq_true c11
              try have c11b2 : (9223372036854775807 < 7 + t6138.size) = False := eq_false (Nat.not_lt.2 c11)
              have H' := Aside0.mk H
              clear H
              have hcz12_0 : wc.cell? ⟨gb6137, 0, none⟩ = some (.int .i64 a0_0) := (blk_cell BK6137.out 0).trans rfl
              have hcz12_1 : wc.cell? ⟨gb6137, 1, none⟩ = some (.string a0_1) := (blk_cell BK6137.out 1).trans rfl
              have hcz12_2 : wc.cell? ⟨gb6137, 2, none⟩ = some (.bool a0_2) := (blk_cell BK6137.out 2).trans rfl
              have hcz12_3 : wc.cell? ⟨gb6137, 3, none⟩ = some (.slice A0_3 l0_3.length c0_3) := (blk_cell BK6137.out 3).trans rfl
              have hcz12_4 : wc.cell? ⟨gb6137, 4, none⟩ = some (.slice A0_4 l0_4.length c0_4) := (blk_cell BK6137.out 4).trans rfl
              have hfz12_0 := blk_frozen BK6137.out 0
              have hfz12_1 := blk_frozen BK6137.out 1
              have hfz12_2 := blk_frozen BK6137.out 2
              have hfz12_3 := blk_frozen BK6137.out 3
              have hfz12_4 := blk_frozen BK6137.out 4
              go_wp2_with (first | ((with_reducible refine gate_callee (f := 56) rfl ?_); refine goesL_ (some 20) rfl rfl Try.func56 (by kernel_rfl) rfl #[.agg #[.int .i64 a0_0, .string a0_1, .bool a0_2, .slice A0_3 l0_3.length c0_3, .slice A0_4 l0_4.length c0_4]] rfl (by (try simp only [List.map_toArray, List.map_cons, List.map_nil]); first | done | rfl | (simp only [List.length_drop, List.length_take]; rfl)) ?_; (with_reducible refine (impl_coreNames.calls kj4 a0_0 a0_1 a0_2 _ _ l0_3 _ _ l0_4 t6138 _ ?side1 ?side2 ?side3 ?side4 A10.out).mono ?_); (case side1 => repeat (first | exact (Kd.C_below HR0_3.out HB.out) | (with_reducible refine Kd.C_alloc ?_ _) | (with_reducible refine Kd.C_drewN ?_ _) | (with_reducible refine Kd.C_drew ?_))); (case side2 => exact HC0_3.out); (case side3 => repeat (first | exact (Kd.C_below HR0_4.out HB.out) | (with_reducible refine Kd.C_alloc ?_ _) | (with_reducible refine Kd.C_drewN ?_ _) | (with_reducible refine Kd.C_drew ?_))); (case side4 => exact HC0_4.out); rintro e w13 ⟨rfl, hb⟩; refine ⟨_, rfl, ?_⟩; have n0_ := Aside0.mk (blk_below (g := gb6137) (o := .cells #[.int .i64 a0_0, .string a0_1, .bool a0_2, .slice A0_3 l0_3.length c0_3, .slice A0_4 l0_4.length c0_4] 51 (0, 0)) (by (with_reducible repeat (first | refine blk_drewN ?_ _ | refine blk_drew ?_ | refine blk_alloc ?_ _)); exact BK6137.out) hb); have n1_ := Aside0.mk (below_step (by repeat (first | (with_reducible first | exact HB.out | apply below_alloc | apply pw_below_drewN | apply below_drew1 | refine below_set ?_ GE6137.out) | exact HB.out)) hb); clear BK6137; clear HB; have BK6137 := n0_; have HB := n1_; clear n0_ n1_; (try clear hb); (try clear hb2); (try clear hk); (try clear hi)))
              go_meet
              case rel => exact ⟨_, ((⟨#[108, 97, 109, 98, 100, 97, 32]⟩ : ByteArray) ++ t6138), (by first | rfl | (simp; done) | (simp [*]; done)), H', ⟨by have := HJ4.out; first | omega | exact Nat.le_refl _⟩, ⟨by (with_reducible repeat (first | refine blk_drewN ?_ _ | refine blk_drew ?_ | refine blk_alloc ?_ _)); exact BK6137.out⟩, ⟨by repeat (first | (with_reducible first | exact HB.out | apply below_alloc | apply pw_below_drewN | apply below_drew1 | refine below_set ?_ GE6137.out) | exact HB.out)⟩⟩
            · rw [if_neg c11] at H
              exact absurd H (by simp)
          · rw [if_neg c9] at H
            have c9b0 : (a0_0 == 3) = false := beq_eq_false_iff_ne.mpr c9
            have c9b1 : (a0_0 != 3) = true := bne_iff_ne.mpr c9
            by_cases c14 : a0_0 = 4
            · rw [if_pos c14] at H
              have c14b0 : (a0_0 == 4) = true := beq_iff_eq.mpr c14
              have c14b1 : (a0_0 != 4) = false := bne_eq_false_iff_eq.mpr c14
              clear c14
              have H' := Aside0.mk H
              clear H
              have hcz15_0 : wc.cell? ⟨gb6137, 0, none⟩ = some (.int .i64 a0_0) := (blk_cell BK6137.out 0).trans rfl
              have hcz15_1 : wc.cell? ⟨gb6137, 1, none⟩ = some (.string a0_1) := (blk_cell BK6137.out 1).trans rfl
              have hcz15_2 : wc.cell? ⟨gb6137, 2, none⟩ = some (.bool a0_2) := (blk_cell BK6137.out 2).trans rfl
              have hcz15_3 : wc.cell? ⟨gb6137, 3, none⟩ = some (.slice A0_3 l0_3.length c0_3) := (blk_cell BK6137.out 3).trans rfl
              have hcz15_4 : wc.cell? ⟨gb6137, 4, none⟩ = some (.slice A0_4 l0_4.length c0_4) := (blk_cell BK6137.out 4).trans rfl
              have hfz15_0 := blk_frozen BK6137.out 0
              have hfz15_1 := blk_frozen BK6137.out 1
              have hfz15_2 := blk_frozen BK6137.out 2
              have hfz15_3 := blk_frozen BK6137.out 3
              have hfz15_4 := blk_frozen BK6137.out 4
              go_wp2
              go_loopg [4, 27] kj4 (fun kq v4 v27 w' => ∃ (x4_2 : List ByteArray) (x27_2 : Int), v27 = .int .i64 x27_2 ∧ Aside0 (impl_ExpCoreShow.l0 kq x4_2 l0_4 (l0_4.length : Int) x27_2 = some r) ∧ Aside0 (kq ≤ kj4) ∧ Aside0 (Kd.R Kd.string 9 w' w.heap.size (fun _ => True) v4 x4_2) ∧ Aside0 (w'.heap[gb6137]? = some (.cells #[.int .i64 a0_0, .string a0_1, .bool a0_2, (.slice A0_3 l0_3.length c0_3), (.slice A0_4 l0_4.length c0_4)] 51 (0, 0))) ∧ Aside0 (Below w.heap.size w w'))
              case atStart => exact ⟨(([] : List ByteArray)), (0), (by first | rfl | (simp; done) | (simp [*]; done)), H', ⟨Nat.le_refl _⟩, ⟨by first | exact Kd.R_nil _ _ _ _ _ | exact Kd.N_nil _ _ _ _ _ | exact Kd.V_nil _ _ _ _ _ | exact Kd.Q_nil _ _ _ _ _ | exact Kd.S_nil _ _ _ _ _⟩, ⟨by (with_reducible repeat (first | refine blk_drewN ?_ _ | refine blk_drew ?_ | refine blk_alloc ?_ _)); exact BK6137.out⟩, ⟨by repeat (first | (with_reducible first | exact HB.out | apply below_alloc | apply pw_below_drewN | apply below_drew1 | refine below_set ?_ GE6137.out) | exact HB.out)⟩⟩
              case round =>
                clear H'
                try clear c1
                try clear c2
                try clear p2
                try clear c5
                try clear c6
                try clear c6b0
                try clear c6b1
                try clear c7
                try clear c9
                try clear c9b0
                try clear c9b1
                try clear c11
                try clear c11b0
                try clear c11b1
                try clear c11b2
                try clear c14
                try clear c14b0
                try clear c14b1
                try clear hcz12_0
                try clear hcz12_1
                try clear hcz12_2
                try clear hcz12_3
                try clear hcz12_4
                try clear hcz15_0
                try clear hcz15_1
                try clear hcz15_2
                try clear hcz15_3
                try clear hcz15_4
                try clear hcz4_0
                try clear hcz4_1
                try clear hcz4_2
                try clear hcz4_3
                try clear hcz4_4
                try clear hcz8_0
                try clear hcz8_1
                try clear hcz8_2
                try clear hcz8_3
                try clear hcz8_4
                try clear hfz12_0
                try clear hfz12_1
                try clear hfz12_2
                try clear hfz12_3
                try clear hfz12_4
                try clear hfz15_0
                try clear hfz15_1
                try clear hfz15_2
                try clear hfz15_3
                try clear hfz15_4
                try clear hfz4_0
                try clear hfz4_1
                try clear hfz4_2
                try clear hfz4_3
                try clear hfz4_4
                try clear hfz8_0
                try clear hfz8_1
                try clear hfz8_2
                try clear hfz8_3
                try clear hfz8_4
                try clear p2
                obtain ⟨x4_2, x27_2, rfl, HA, HK2, HO_4, BK6137, HB⟩ := hrel
                cases gk with
                | zero => exact absurd HA.out (by simp [impl_ExpCoreShow.l0])
                | succ k2 =>
                  have H := HA.out
                  clear HA
                  simp only [impl_ExpCoreShow.l0] at H
                  by_cases c16 : x27_2 < (l0_4.length : Int)
                  · rw [if_pos c16] at H
                    have c16b0 : decide (x27_2 < (l0_4.length : Int)) = true := decide_eq_true c16
                    clear c16
                    by_cases c17 : 0 ≤ x27_2
                    · rw [if_pos c17] at H
                      have c17b0 : decide (0 ≤ x27_2) = true := decide_eq_true c17
                      clear c17
                      by_cases c18 : x27_2 < (l0_4.length : Int)
                      · rw [if_pos c18] at H
                        have c18b0 : decide (x27_2 < (l0_4.length : Int)) = true := decide_eq_true c18
                        clear c18
                        replace H := Option.bind_eq_some_iff.mp H
                        obtain ⟨t6141, A190, H⟩ := H
                        replace H : (if x4_2.length < 8796093022208 then (impl_ExpCoreShow.l0 k2 (x4_2 ++ [t6141]) l0_4 (l0_4.length : Int) (wrap64 (x27_2 + 1))) else (none)) = some r := H
                        have A19 := Aside0.mk A190
                        clear A190
                        by_cases c20 : x4_2.length < 8796093022208
                        · rw [if_pos c20] at H
                          have LMc20 := Aside0.mk c20
                          clear c20
                          obtain ⟨y6142, hy6142⟩ : ∃ y_ : List ByteArray, y_ = (x4_2 ++ [t6141]) := ⟨_, rfl⟩
                          replace H : (impl_ExpCoreShow.l0 k2 y6142 l0_4 (l0_4.length : Int) (wrap64 (x27_2 + 1))) = some r := by first | (rw [hy6142]; with_reducible exact H) | (have H2_ := (Option.bind_some _ _).symm.trans H; rw [hy6142]; with_reducible exact H2_) | (have H2_ := (Option.bind_some _ _).symm.trans H; with_reducible exact H2_) | with_reducible exact H | (rw [hy6142]; exact H) | exact H
                          have Ny6142 := Aside0.mk hy6142
                          clear hy6142
                          have H' := Aside0.mk H
                          clear H
                          have p6139 : 0 ≤ (x27_2 : Int) := of_decide_eq_true (by first | (with_reducible assumption) | assumption)
                          have q6139 : x27_2 < (l0_4.length : Int) := of_decide_eq_true (by first | (with_reducible assumption) | assumption)
                          obtain ⟨ad6139, A6139_3, c6139_3, A6139_4, c6139_4, e6139, hx6139_0, hx6139_1, hx6139_2, hx6139_3, hx6139_4, hl6139_3, hi6139_3, hl6139_4, hi6139_4⟩ := at_T51 HR0_4.out x27_2 p6139 q6139
                          cases e6139
                          replace hx6139_0 := (HB.out.cell (World.block_lt_of_cell? w _ hx6139_0)).trans hx6139_0
                          replace hx6139_1 := (HB.out.cell (World.block_lt_of_cell? w _ hx6139_1)).trans hx6139_1
                          replace hx6139_2 := (HB.out.cell (World.block_lt_of_cell? w _ hx6139_2)).trans hx6139_2
                          replace hx6139_3 := (HB.out.cell (World.block_lt_of_cell? w _ hx6139_3)).trans hx6139_3
                          replace hx6139_4 := (HB.out.cell (World.block_lt_of_cell? w _ hx6139_4)).trans hx6139_4
                          have HR6139_3 := Aside0.mk hi6139_3
                          have HC6139_3 := Aside0.mk hl6139_3
                          clear hi6139_3 hl6139_3
                          have HR6139_4 := Aside0.mk hi6139_4
                          have HC6139_4 := Aside0.mk hl6139_4
                          clear hi6139_4 hl6139_4
                          replace p6139 := eq_true p6139
                          replace q6139 := eq_true q6139
                          go_wp2_with (first | ((with_reducible refine gate_dst (N := 6) rfl ?_); refine box_event ?hg (N := 6) ?hd (cs := #[.int .i64 0, .string (⟨#[]⟩ : ByteArray), .bool false, .slice none 0 0, .slice none 0 0]) (t := 51) ?hr ?_; (case hd => rfl); (case hg => rfl); (case hr => first | (go_simp; done) | (go_simp; rfl)); intro gb6140 hg w21 hbox hb; have n0_ := Aside0.mk (Kd.R_below (by (with_reducible repeat (first | apply Kd.R_alloc | apply Kd.R_drewN | apply Kd.R_drew)); exact HO_4.out) hb); have n1_ := Aside0.mk (blk_below (g := gb6137) (o := .cells #[.int .i64 a0_0, .string a0_1, .bool a0_2, .slice A0_3 l0_3.length c0_3, .slice (some ad6139) l0_4.length c0_4] 51 (0, 0)) (by (with_reducible repeat (first | refine blk_drewN ?_ _ | refine blk_drew ?_ | refine blk_alloc ?_ _)); exact BK6137.out) hb); have n2_ := Aside0.mk (below_step (by repeat (first | (with_reducible first | exact HB.out | apply below_alloc | apply pw_below_drewN | apply below_drew1 | refine below_set ?_ GE6137.out) | exact HB.out)) hb); have n3_ := Aside0.mk (hbox); have n4_ := Aside0.mk ((by rw [hg]; exact (below_size (by repeat (first | (with_reducible first | exact HB.out | apply below_alloc | apply pw_below_drewN | apply below_drew1 | refine below_set ?_ GE6137.out) | exact HB.out))) : w.heap.size ≤ gb6140)); have n5_ := Aside0.mk ((by rw [hg]; exact (below_size (by repeat (first | (with_reducible first | exact HB.out | apply below_alloc | apply pw_below_drewN | apply below_drew1 | refine below_set ?_ GE6137.out) | exact HB.out))) : w.heap.size ≤ gb6140)); have n6_ := Aside0.mk ((by rw [hg]; exact Nat.ne_of_lt (blk_lt (g := gb6137) (o := .cells #[.int .i64 a0_0, .string a0_1, .bool a0_2, .slice A0_3 l0_3.length c0_3, .slice (some ad6139) l0_4.length c0_4] 51 (0, 0)) (by (with_reducible repeat (first | refine blk_drewN ?_ _ | refine blk_drew ?_ | refine blk_alloc ?_ _)); exact BK6137.out)) : gb6137 ≠ gb6140)); have n7_ := Aside0.mk ((by rw [hg]; exact Nat.ne_of_gt (blk_lt (g := gb6137) (o := .cells #[.int .i64 a0_0, .string a0_1, .bool a0_2, .slice A0_3 l0_3.length c0_3, .slice (some ad6139) l0_4.length c0_4] 51 (0, 0)) (by (with_reducible repeat (first | refine blk_drewN ?_ _ | refine blk_drew ?_ | refine blk_alloc ?_ _)); exact BK6137.out)) : gb6140 ≠ gb6137)); clear HO_4; clear BK6137; clear HB; have HO_4 := n0_; have BK6137 := n1_; have HB := n2_; have BK6140 := n3_; have GW6140 := n4_; have GE6140 := n5_; have NB6137_6140 := n6_; have NB6140_6137 := n7_; clear n0_ n1_ n2_ n3_ n4_ n5_ n6_ n7_; clear hb hbox hg; have hnb22 := NB6140_6137.out; have hnc22 := NB6137_6140.out; have hcz23_0 : w21.cell? ⟨gb6140, 0, none⟩ = some (.int .i64 0) := (blk_cell BK6140.out 0).trans rfl; have hcz23_1 : w21.cell? ⟨gb6140, 1, none⟩ = some (.string (⟨#[]⟩ : ByteArray)) := (blk_cell BK6140.out 1).trans rfl; have hcz23_2 : w21.cell? ⟨gb6140, 2, none⟩ = some (.bool false) := (blk_cell BK6140.out 2).trans rfl; have hcz23_3 : w21.cell? ⟨gb6140, 3, none⟩ = some (.slice none 0 0) := (blk_cell BK6140.out 3).trans rfl; have hcz23_4 : w21.cell? ⟨gb6140, 4, none⟩ = some (.slice none 0 0) := (blk_cell BK6140.out 4).trans rfl; have hfz23_0 := blk_frozen BK6140.out 0; have hfz23_1 := blk_frozen BK6140.out 1; have hfz23_2 := blk_frozen BK6140.out 2; have hfz23_3 := blk_frozen BK6140.out 3; have hfz23_4 := blk_frozen BK6140.out 4) | ((with_reducible refine gate_callee (f := 25) rfl ?_); refine goesL_ (some 33) rfl rfl Try.func25 (by kernel_rfl) rfl #[.agg #[.int .i64 ((rd_T51 l0_4 x27_2).f0), .string ((rd_T51 l0_4 x27_2).f1), .bool ((rd_T51 l0_4 x27_2).f2), .slice A6139_3 ((rd_T51 l0_4 x27_2).f3).length c6139_3, .slice A6139_4 ((rd_T51 l0_4 x27_2).f4).length c6139_4]] rfl (by (try simp only [List.map_toArray, List.map_cons, List.map_nil]); first | done | rfl | (simp only [List.length_drop, List.length_take]; rfl)) ?_; (with_reducible refine (ih k2 (by have := HJ4.out; have := HK2.out; omega) ((rd_T51 l0_4 x27_2).f0) ((rd_T51 l0_4 x27_2).f1) ((rd_T51 l0_4 x27_2).f2) _ _ ((rd_T51 l0_4 x27_2).f3) _ _ ((rd_T51 l0_4 x27_2).f4) t6141 _ ?side1 ?side2 ?side3 ?side4 A19.out).mono ?_); (case side1 => exact Kd.C_below HR6139_3.out (by repeat (first | (with_reducible first | exact HB.out | apply below_alloc | apply pw_below_drewN | apply below_drew1 | refine below_set ?_ GE6137.out | refine below_set ?_ GE6140.out) | exact HB.out))); (case side2 => exact HC6139_3.out); (case side3 => exact Kd.C_below HR6139_4.out (by repeat (first | (with_reducible first | exact HB.out | apply below_alloc | apply pw_below_drewN | apply below_drew1 | refine below_set ?_ GE6137.out | refine below_set ?_ GE6140.out) | exact HB.out))); (case side4 => exact HC6139_4.out); rintro e w24 ⟨rfl, hb⟩; refine ⟨_, rfl, ?_⟩; have n0_ := Aside0.mk (Kd.R_below (by (with_reducible repeat (first | apply Kd.R_alloc | apply Kd.R_drewN | apply Kd.R_drew)); exact (Kd.R_mono (Kd.R_far (p := ⟨gb6140, 4, none⟩) (Kd.R_far (p := ⟨gb6140, 3, none⟩) (Kd.R_far (p := ⟨gb6140, 2, none⟩) (Kd.R_far (p := ⟨gb6140, 1, none⟩) (Kd.R_far (p := ⟨gb6140, 0, none⟩) (Kd.R_types HO_4.out BK6140.out (by decide)) (fun _ hk => hk.2) (.int .i64 ((rd_T51 l0_4 x27_2).f0))) (fun _ hk => hk.2) (.string ((rd_T51 l0_4 x27_2).f1))) (fun _ hk => hk.2) (.bool ((rd_T51 l0_4 x27_2).f2))) (fun _ hk => hk.2) (.slice A6139_3 ((rd_T51 l0_4 x27_2).f3).length c6139_3)) (fun _ hk => hk.2) (.slice A6139_4 ((rd_T51 l0_4 x27_2).f4).length c6139_4)) (fun _ h_ => h_.1))) hb); have n1_ := Aside0.mk (blk_below (g := gb6137) (o := .cells #[.int .i64 a0_0, .string a0_1, .bool a0_2, .slice A0_3 l0_3.length c0_3, .slice (some ad6139) l0_4.length c0_4] 51 (0, 0)) (by (with_reducible repeat (first | refine blk_drewN ?_ _ | refine blk_drew ?_ | refine blk_alloc ?_ _)); refine blk_far ?_ NB6137_6140.out _; (with_reducible repeat (first | refine blk_drewN ?_ _ | refine blk_drew ?_ | refine blk_alloc ?_ _)); refine blk_far ?_ NB6137_6140.out _; (with_reducible repeat (first | refine blk_drewN ?_ _ | refine blk_drew ?_ | refine blk_alloc ?_ _)); refine blk_far ?_ NB6137_6140.out _; (with_reducible repeat (first | refine blk_drewN ?_ _ | refine blk_drew ?_ | refine blk_alloc ?_ _)); refine blk_far ?_ NB6137_6140.out _; (with_reducible repeat (first | refine blk_drewN ?_ _ | refine blk_drew ?_ | refine blk_alloc ?_ _)); refine blk_far ?_ NB6137_6140.out _; (with_reducible repeat (first | refine blk_drewN ?_ _ | refine blk_drew ?_ | refine blk_alloc ?_ _)); exact BK6137.out) hb); have n2_ := Aside0.mk (blk_below (g := gb6140) (o := .cells #[.int .i64 ((rd_T51 l0_4 x27_2).f0), .string ((rd_T51 l0_4 x27_2).f1), .bool ((rd_T51 l0_4 x27_2).f2), .slice A6139_3 ((rd_T51 l0_4 x27_2).f3).length c6139_3, .slice A6139_4 ((rd_T51 l0_4 x27_2).f4).length c6139_4] 51 (0, 0)) (by (with_reducible repeat (first | refine blk_drewN ?_ _ | refine blk_drew ?_ | refine blk_alloc ?_ _)); refine blk_put (cs := #[.int .i64 ((rd_T51 l0_4 x27_2).f0), .string ((rd_T51 l0_4 x27_2).f1), .bool ((rd_T51 l0_4 x27_2).f2), .slice A6139_3 ((rd_T51 l0_4 x27_2).f3).length c6139_3, .slice none 0 0]) ?_ 4 _ rfl; (with_reducible repeat (first | refine blk_drewN ?_ _ | refine blk_drew ?_ | refine blk_alloc ?_ _)); refine blk_put (cs := #[.int .i64 ((rd_T51 l0_4 x27_2).f0), .string ((rd_T51 l0_4 x27_2).f1), .bool ((rd_T51 l0_4 x27_2).f2), .slice none 0 0, .slice none 0 0]) ?_ 3 _ rfl; (with_reducible repeat (first | refine blk_drewN ?_ _ | refine blk_drew ?_ | refine blk_alloc ?_ _)); refine blk_put (cs := #[.int .i64 ((rd_T51 l0_4 x27_2).f0), .string ((rd_T51 l0_4 x27_2).f1), .bool false, .slice none 0 0, .slice none 0 0]) ?_ 2 _ rfl; (with_reducible repeat (first | refine blk_drewN ?_ _ | refine blk_drew ?_ | refine blk_alloc ?_ _)); refine blk_put (cs := #[.int .i64 ((rd_T51 l0_4 x27_2).f0), .string (⟨#[]⟩ : ByteArray), .bool false, .slice none 0 0, .slice none 0 0]) ?_ 1 _ rfl; (with_reducible repeat (first | refine blk_drewN ?_ _ | refine blk_drew ?_ | refine blk_alloc ?_ _)); refine blk_put (cs := #[.int .i64 0, .string (⟨#[]⟩ : ByteArray), .bool false, .slice none 0 0, .slice none 0 0]) ?_ 0 _ rfl; (with_reducible repeat (first | refine blk_drewN ?_ _ | refine blk_drew ?_ | refine blk_alloc ?_ _)); exact BK6140.out) hb); have n3_ := Aside0.mk (below_step (by repeat (first | (with_reducible first | exact HB.out | apply below_alloc | apply pw_below_drewN | apply below_drew1 | refine below_set ?_ GE6137.out | refine below_set ?_ GE6140.out) | exact HB.out)) hb); clear HO_4; clear BK6137; clear BK6140; clear HB; have HO_4 := n0_; have BK6137 := n1_; have BK6140 := n2_; have HB := n3_; clear n0_ n1_ n2_ n3_; (try clear hb); (try clear hb2); (try clear hk); (try clear hi)) | ((with_reducible refine gate_builtin (b := .append) (xs := #[.tmp 31, .tmp 34]) rfl ?_); at_builtin; refine Kd.R_append Kd.string (w0 := w) w.heap.size rfl (.tmp 31) (.tmp 34) 45 9 (.string ⟨#[]⟩) 16 rfl Try.underlying45 info9 rfl (by decide) (by omega) u4 x4_2 t6141 [.string t6141] (fun _ => True) (fun _ => False) rfl rfl ?aP (fun _ hk => hk.elim) ?aF ?aO ?aB ?aS ?aL ?_; (case aP => exact rfl); (case aB => exact (by repeat (first | (with_reducible first | exact HB.out | apply below_alloc | apply pw_below_drewN | apply below_drew1 | refine below_set ?_ GE6137.out | refine below_set ?_ GE6140.out) | exact HB.out))); (case aF => exact (fun _ _ => trivial)); (case aO => exact (by (with_reducible repeat (first | apply Kd.R_alloc | apply Kd.R_drewN | apply Kd.R_drew)); exact HO_4.out)); (case aS => exact (below_size (by repeat (first | (with_reducible first | exact HB.out | apply below_alloc | apply pw_below_drewN | apply below_drew1 | refine below_set ?_ GE6137.out | refine below_set ?_ GE6140.out) | exact HB.out)))); (case aL => have := LMc20.out; omega); intro v6143 w25 ho hb hg hat; rw [← Ny6142.out] at ho; have n0_ := Aside0.mk (blk_grown (g := gb6137) (o := .cells #[.int .i64 a0_0, .string a0_1, .bool a0_2, .slice A0_3 l0_3.length c0_3, .slice (some ad6139) l0_4.length c0_4] 51 (0, 0)) (by (with_reducible repeat (first | refine blk_drewN ?_ _ | refine blk_drew ?_ | refine blk_alloc ?_ _)); exact BK6137.out) hg (Kd.R_ne HO_4.out BK6137.out (by decide))); have n1_ := Aside0.mk (blk_grown (g := gb6140) (o := .cells #[.int .i64 ((rd_T51 l0_4 x27_2).f0), .string ((rd_T51 l0_4 x27_2).f1), .bool ((rd_T51 l0_4 x27_2).f2), .slice A6139_3 ((rd_T51 l0_4 x27_2).f3).length c6139_3, .slice A6139_4 ((rd_T51 l0_4 x27_2).f4).length c6139_4] 51 (0, 0)) (by (with_reducible repeat (first | refine blk_drewN ?_ _ | refine blk_drew ?_ | refine blk_alloc ?_ _)); exact BK6140.out) hg (Kd.R_ne HO_4.out BK6140.out (by decide))); have n2_ := Aside0.mk (hb); have n3_ := Aside0.mk (ho); clear BK6137; clear BK6140; clear HB; clear HO_4; have BK6137 := n0_; have BK6140 := n1_; have HB := n2_; have HO6144 := n3_; clear n0_ n1_ n2_ n3_; clear ho hb hg hat))
                          go_roundg k2
                          case measure => have := HJ4.out; have := HK2.out; omega
                          case rel => exact ⟨(y6142), (wrap64 (x27_2 + 1)), (by first | rfl | (simp; done) | (simp [*]; done)), H', ⟨by have := HJ4.out; have := HK2.out; omega⟩, ⟨by (with_reducible repeat (first | apply Kd.R_alloc | apply Kd.R_drewN | apply Kd.R_drew)); exact HO6144.out⟩, ⟨by (with_reducible repeat (first | refine blk_drewN ?_ _ | refine blk_drew ?_ | refine blk_alloc ?_ _)); exact BK6137.out⟩, ⟨by repeat (first | (with_reducible first | exact HB.out | apply below_alloc | apply pw_below_drewN | apply below_drew1 | refine below_set ?_ GE6137.out | refine below_set ?_ GE6140.out) | exact HB.out)⟩⟩
                        · rw [if_neg c20] at H
                          exact absurd H (by simp)
                      · rw [if_neg c18] at H
                        exact absurd H (by simp)
                    · rw [if_neg c17] at H
                      exact absurd H (by simp)
                  · rw [if_neg c16] at H
                    have c16b0 : decide (x27_2 < (l0_4.length : Int)) = false := decide_eq_false c16
                    clear c16
                    replace H := Option.bind_eq_some_iff.mp H
                    obtain ⟨t6145, A260, H⟩ := H
                    replace H : (if 1 + t6145.size ≤ 9223372036854775807 then (if ((⟨#[40]⟩ : ByteArray) ++ t6145).size + 1 ≤ 9223372036854775807 then (some (((⟨#[40]⟩ : ByteArray) ++ t6145) ++ (⟨#[41]⟩ : ByteArray))) else (none)) else (none)) = some r := H
                    have A26 := Aside0.mk A260
                    clear A260
                    by_cases c27 : 1 + t6145.size ≤ 9223372036854775807
                    · rw [if_pos c27] at H
                      have c27b0 := eq_true c27
                      have c27b1 : decide (1 + t6145.size ≤ 9223372036854775807) = true := decide_eq_true c27
                      try have c27b2 : (9223372036854775807 < 1 + t6145.size) = False := eq_false (Nat.not_lt.2 c27)
                      by_cases c28 : ((⟨#[40]⟩ : ByteArray) ++ t6145).size + 1 ≤ 9223372036854775807
                      · rw [if_pos c28] at H
                        have c28b0 := eq_true c28
                        have c28b1 : decide (((⟨#[40]⟩ : ByteArray) ++ t6145).size + 1 ≤ 9223372036854775807) = true := decide_eq_true c28
                        try have c28b2 : (9223372036854775807 < ((⟨#[40]⟩ : ByteArray) ++ t6145).size + 1) = False := eq_false (Nat.not_lt.2 c28)
                        try have c28b3 : (9223372036854775807 < 1 + t6145.size + 1) = False := eq_false (by have h_ := c28; simp only [ByteArray.size_append] at h_; have : (⟨#[40]⟩ : ByteArray).size = 1 := rfl; omega)
                        obtain rfl := Option.some.inj H
                        obtain ⟨Ao29, co29, eo29⟩ := Kd.R_slice HO_4.out
                        subst eo29
                        go_wp2_with (first | ((with_reducible refine gate_callee (f := 57) rfl ?_); refine goesL_ (some 38) rfl rfl Try.func57 (by kernel_rfl) rfl #[.slice Ao29 x4_2.length co29, .string (⟨#[32]⟩ : ByteArray)] rfl (by (try simp only [List.map_toArray, List.map_cons, List.map_nil]); first | done | rfl | (simp only [List.length_drop, List.length_take]; rfl)) ?_; (with_reducible refine (strings_Join.calls _ _ x4_2 (⟨#[32]⟩ : ByteArray) t6145 _ ?side1 ?side2 A26.out).mono ?_); (case side1 => repeat (first | exact (Kd.R_reads' HO_4.out).2.2 | (with_reducible refine Kd.C_alloc ?_ _) | (with_reducible refine Kd.C_drewN ?_ _) | (with_reducible refine Kd.C_drew ?_))); (case side2 => exact (Kd.R_reads' HO_4.out).2.1); rintro e w30 ⟨rfl, hb⟩; refine ⟨_, rfl, ?_⟩; have n0_ := Aside0.mk (Kd.R_below (by (with_reducible repeat (first | apply Kd.R_alloc | apply Kd.R_drewN | apply Kd.R_drew)); exact HO_4.out) hb); have n1_ := Aside0.mk (blk_below (g := gb6137) (o := .cells #[.int .i64 a0_0, .string a0_1, .bool a0_2, .slice A0_3 l0_3.length c0_3, .slice A0_4 l0_4.length c0_4] 51 (0, 0)) (by (with_reducible repeat (first | refine blk_drewN ?_ _ | refine blk_drew ?_ | refine blk_alloc ?_ _)); exact BK6137.out) hb); have n2_ := Aside0.mk (below_step (by repeat (first | (with_reducible first | exact HB.out | apply below_alloc | apply pw_below_drewN | apply below_drew1 | refine below_set ?_ GE6137.out) | exact HB.out)) hb); clear HO_4; clear BK6137; clear HB; have HO_4 := n0_; have BK6137 := n1_; have HB := n2_; clear n0_ n1_ n2_; (try clear hb); (try clear hb2); (try clear hk); (try clear hi)))
                        go_ret
                        exact ⟨by first | rfl | (simp [errW_none, errW_some] <;> rfl) | (simp [*, errW_none, errW_some] <;> rfl), by repeat (first | (with_reducible first | exact HB.out | apply below_alloc | apply pw_below_drewN | apply below_drew1 | refine below_set ?_ GE6137.out) | exact HB.out)⟩
                      · rw [if_neg c28] at H
                        exact absurd H (by simp)
                    · rw [if_neg c27] at H
                      exact absurd H (by simp)
            · rw [if_neg c14] at H
              have c14b0 : (a0_0 == 4) = false := beq_eq_false_iff_ne.mpr c14
              have c14b1 : (a0_0 != 4) = true := bne_iff_ne.mpr c14
              by_cases c31 : a0_0 = 5
              · rw [if_pos c31] at H
                have c31b0 : (a0_0 == 5) = true := beq_iff_eq.mpr c31
                have c31b1 : (a0_0 != 5) = false := bne_eq_false_iff_eq.mpr c31
                clear c31
                have H' := Aside0.mk H
                clear H
                go_wp2
                go_meet
                case rel => exact ⟨_, ((⟨#[105, 102]⟩ : ByteArray)), (by first | rfl | (simp; done) | (simp [*]; done)), H', ⟨by have := HJ4.out; first | omega | exact Nat.le_refl _⟩, ⟨by (with_reducible repeat (first | refine blk_drewN ?_ _ | refine blk_drew ?_ | refine blk_alloc ?_ _)); exact BK6137.out⟩, ⟨by repeat (first | (with_reducible first | exact HB.out | apply below_alloc | apply pw_below_drewN | apply below_drew1 | refine below_set ?_ GE6137.out) | exact HB.out)⟩⟩
              · rw [if_neg c31] at H
                have c31b0 : (a0_0 == 5) = false := beq_eq_false_iff_ne.mpr c31
                have c31b1 : (a0_0 != 5) = true := bne_iff_ne.mpr c31
                by_cases c32 : a0_0 = 6
                · rw [if_pos c32] at H
                  have c32b0 : (a0_0 == 6) = true := beq_iff_eq.mpr c32
                  have c32b1 : (a0_0 != 6) = false := bne_eq_false_iff_eq.mpr c32
                  clear c32
                  by_cases c33 : 5 + a0_1.size ≤ 9223372036854775807
                  · rw [if_pos c33] at H
                    have c33b0 := eq_true c33
                    have c33b1 : decide (5 + a0_1.size ≤ 9223372036854775807) = true := decide_eq_true c33
                    try have c33b2 : (9223372036854775807 < 5 + a0_1.size) = False := eq_false (Nat.not_lt.2 c33)
                    have H' := Aside0.mk H
                    clear H
                    have hcz34_0 : wc.cell? ⟨gb6137, 0, none⟩ = some (.int .i64 a0_0) := (blk_cell BK6137.out 0).trans rfl
                    have hcz34_1 : wc.cell? ⟨gb6137, 1, none⟩ = some (.string a0_1) := (blk_cell BK6137.out 1).trans rfl
                    have hcz34_2 : wc.cell? ⟨gb6137, 2, none⟩ = some (.bool a0_2) := (blk_cell BK6137.out 2).trans rfl
                    have hcz34_3 : wc.cell? ⟨gb6137, 3, none⟩ = some (.slice A0_3 l0_3.length c0_3) := (blk_cell BK6137.out 3).trans rfl
                    have hcz34_4 : wc.cell? ⟨gb6137, 4, none⟩ = some (.slice A0_4 l0_4.length c0_4) := (blk_cell BK6137.out 4).trans rfl
                    have hfz34_0 := blk_frozen BK6137.out 0
                    have hfz34_1 := blk_frozen BK6137.out 1
                    have hfz34_2 := blk_frozen BK6137.out 2
                    have hfz34_3 := blk_frozen BK6137.out 3
                    have hfz34_4 := blk_frozen BK6137.out 4
                    go_wp2
                    go_meet
                    case rel => exact ⟨_, ((⟨#[115, 101, 116, 33, 32]⟩ : ByteArray) ++ a0_1), (by first | rfl | (simp; done) | (simp [*]; done)), H', ⟨by have := HJ4.out; first | omega | exact Nat.le_refl _⟩, ⟨by (with_reducible repeat (first | refine blk_drewN ?_ _ | refine blk_drew ?_ | refine blk_alloc ?_ _)); exact BK6137.out⟩, ⟨by repeat (first | (with_reducible first | exact HB.out | apply below_alloc | apply pw_below_drewN | apply below_drew1 | refine below_set ?_ GE6137.out) | exact HB.out)⟩⟩
                  · rw [if_neg c33] at H
                    exact absurd H (by simp)
                · rw [if_neg c32] at H
                  have c32b0 : (a0_0 == 6) = false := beq_eq_false_iff_ne.mpr c32
                  have c32b1 : (a0_0 != 6) = true := bne_iff_ne.mpr c32
                  by_cases c35 : a0_0 = 7
                  · rw [if_pos c35] at H
                    have c35b0 : (a0_0 == 7) = true := beq_iff_eq.mpr c35
                    have c35b1 : (a0_0 != 7) = false := bne_eq_false_iff_eq.mpr c35
                    clear c35
                    have H' := Aside0.mk H
                    clear H
                    go_wp2
                    go_meet
                    case rel => exact ⟨_, ((⟨#[98, 101, 103, 105, 110]⟩ : ByteArray)), (by first | rfl | (simp; done) | (simp [*]; done)), H', ⟨by have := HJ4.out; first | omega | exact Nat.le_refl _⟩, ⟨by (with_reducible repeat (first | refine blk_drewN ?_ _ | refine blk_drew ?_ | refine blk_alloc ?_ _)); exact BK6137.out⟩, ⟨by repeat (first | (with_reducible first | exact HB.out | apply below_alloc | apply pw_below_drewN | apply below_drew1 | refine below_set ?_ GE6137.out) | exact HB.out)⟩⟩
                  · rw [if_neg c35] at H
                    have c35b0 : (a0_0 == 7) = false := beq_eq_false_iff_ne.mpr c35
                    have c35b1 : (a0_0 != 7) = true := bne_iff_ne.mpr c35
                    by_cases c36 : a0_0 = 8
                    · rw [if_pos c36] at H
                      have c36b0 : (a0_0 == 8) = true := beq_iff_eq.mpr c36
                      have c36b1 : (a0_0 != 8) = false := bne_eq_false_iff_eq.mpr c36
                      clear c36
                      replace H := Option.bind_eq_some_iff.mp H
                      obtain ⟨t6146, A370, H⟩ := H
                      replace H : (if 4 + t6146.size ≤ 9223372036854775807 then (impl_ExpCoreShow.j2 kj4 ((⟨#[114, 101, 99, 32]⟩ : ByteArray) ++ t6146) a0_0 a0_1 a0_2 l0_3 l0_4) else (none)) = some r := H
                      have A37 := Aside0.mk A370
                      clear A370
                      by_cases c38 : 4 + t6146.size ≤ 9223372036854775807
                      · rw [if_pos c38] at H
                        have c38b0 := eq_true c38
                        have c38b1 : decide (4 + t6146.size ≤ 9223372036854775807) = true := decide_eq_true c38
                        try have c38b2 : (9223372036854775807 < 4 + t6146.size) = False := eq_false (Nat.not_lt.2 c38)
                        have H' := Aside0.mk H
                        clear H
                        have hcz39_0 : wc.cell? ⟨gb6137, 0, none⟩ = some (.int .i64 a0_0) := (blk_cell BK6137.out 0).trans rfl
                        have hcz39_1 : wc.cell? ⟨gb6137, 1, none⟩ = some (.string a0_1) := (blk_cell BK6137.out 1).trans rfl
                        have hcz39_2 : wc.cell? ⟨gb6137, 2, none⟩ = some (.bool a0_2) := (blk_cell BK6137.out 2).trans rfl
                        have hcz39_3 : wc.cell? ⟨gb6137, 3, none⟩ = some (.slice A0_3 l0_3.length c0_3) := (blk_cell BK6137.out 3).trans rfl
                        have hcz39_4 : wc.cell? ⟨gb6137, 4, none⟩ = some (.slice A0_4 l0_4.length c0_4) := (blk_cell BK6137.out 4).trans rfl
                        have hfz39_0 := blk_frozen BK6137.out 0
                        have hfz39_1 := blk_frozen BK6137.out 1
                        have hfz39_2 := blk_frozen BK6137.out 2
                        have hfz39_3 := blk_frozen BK6137.out 3
                        have hfz39_4 := blk_frozen BK6137.out 4
                        go_wp2_with (first | ((with_reducible refine gate_callee (f := 56) rfl ?_); refine goesL_ (some 53) rfl rfl Try.func56 (by kernel_rfl) rfl #[.agg #[.int .i64 a0_0, .string a0_1, .bool a0_2, .slice A0_3 l0_3.length c0_3, .slice A0_4 l0_4.length c0_4]] rfl (by (try simp only [List.map_toArray, List.map_cons, List.map_nil]); first | done | rfl | (simp only [List.length_drop, List.length_take]; rfl)) ?_; (with_reducible refine (impl_coreNames.calls kj4 a0_0 a0_1 a0_2 _ _ l0_3 _ _ l0_4 t6146 _ ?side1 ?side2 ?side3 ?side4 A37.out).mono ?_); (case side1 => repeat (first | exact (Kd.C_below HR0_3.out HB.out) | (with_reducible refine Kd.C_alloc ?_ _) | (with_reducible refine Kd.C_drewN ?_ _) | (with_reducible refine Kd.C_drew ?_))); (case side2 => exact HC0_3.out); (case side3 => repeat (first | exact (Kd.C_below HR0_4.out HB.out) | (with_reducible refine Kd.C_alloc ?_ _) | (with_reducible refine Kd.C_drewN ?_ _) | (with_reducible refine Kd.C_drew ?_))); (case side4 => exact HC0_4.out); rintro e w40 ⟨rfl, hb⟩; refine ⟨_, rfl, ?_⟩; have n0_ := Aside0.mk (blk_below (g := gb6137) (o := .cells #[.int .i64 a0_0, .string a0_1, .bool a0_2, .slice A0_3 l0_3.length c0_3, .slice A0_4 l0_4.length c0_4] 51 (0, 0)) (by (with_reducible repeat (first | refine blk_drewN ?_ _ | refine blk_drew ?_ | refine blk_alloc ?_ _)); exact BK6137.out) hb); have n1_ := Aside0.mk (below_step (by repeat (first | (with_reducible first | exact HB.out | apply below_alloc | apply pw_below_drewN | apply below_drew1 | refine below_set ?_ GE6137.out) | exact HB.out)) hb); clear BK6137; clear HB; have BK6137 := n0_; have HB := n1_; clear n0_ n1_; (try clear hb); (try clear hb2); (try clear hk); (try clear hi)))
                        go_meet
                        case rel => exact ⟨_, ((⟨#[114, 101, 99, 32]⟩ : ByteArray) ++ t6146), (by first | rfl | (simp; done) | (simp [*]; done)), H', ⟨by have := HJ4.out; first | omega | exact Nat.le_refl _⟩, ⟨by (with_reducible repeat (first | refine blk_drewN ?_ _ | refine blk_drew ?_ | refine blk_alloc ?_ _)); exact BK6137.out⟩, ⟨by repeat (first | (with_reducible first | exact HB.out | apply below_alloc | apply pw_below_drewN | apply below_drew1 | refine below_set ?_ GE6137.out) | exact HB.out)⟩⟩
                      · rw [if_neg c38] at H
                        exact absurd H (by simp)
                    · rw [if_neg c36] at H
                      have c36b0 : (a0_0 == 8) = false := beq_eq_false_iff_ne.mpr c36
                      have c36b1 : (a0_0 != 8) = true := bne_iff_ne.mpr c36
                      by_cases c41 : a0_0 = 9
                      · rw [if_pos c41] at H
                        have c41b0 : (a0_0 == 9) = true := beq_iff_eq.mpr c41
                        have c41b1 : (a0_0 != 9) = false := bne_eq_false_iff_eq.mpr c41
                        clear c41
                        by_cases c42 : 7 + a0_1.size ≤ 9223372036854775807
                        · rw [if_pos c42] at H
                          have c42b0 := eq_true c42
                          have c42b1 : decide (7 + a0_1.size ≤ 9223372036854775807) = true := decide_eq_true c42
                          try have c42b2 : (9223372036854775807 < 7 + a0_1.size) = False := eq_false (Nat.not_lt.2 c42)
                          have H' := Aside0.mk H
                          clear H
                          have hcz43_0 : wc.cell? ⟨gb6137, 0, none⟩ = some (.int .i64 a0_0) := (blk_cell BK6137.out 0).trans rfl
                          have hcz43_1 : wc.cell? ⟨gb6137, 1, none⟩ = some (.string a0_1) := (blk_cell BK6137.out 1).trans rfl
                          have hcz43_2 : wc.cell? ⟨gb6137, 2, none⟩ = some (.bool a0_2) := (blk_cell BK6137.out 2).trans rfl
                          have hcz43_3 : wc.cell? ⟨gb6137, 3, none⟩ = some (.slice A0_3 l0_3.length c0_3) := (blk_cell BK6137.out 3).trans rfl
                          have hcz43_4 : wc.cell? ⟨gb6137, 4, none⟩ = some (.slice A0_4 l0_4.length c0_4) := (blk_cell BK6137.out 4).trans rfl
                          have hfz43_0 := blk_frozen BK6137.out 0
                          have hfz43_1 := blk_frozen BK6137.out 1
                          have hfz43_2 := blk_frozen BK6137.out 2
                          have hfz43_3 := blk_frozen BK6137.out 3
                          have hfz43_4 := blk_frozen BK6137.out 4
                          go_wp2
                          go_meet
                          case rel => exact ⟨_, ((⟨#[100, 101, 102, 105, 110, 101, 32]⟩ : ByteArray) ++ a0_1), (by first | rfl | (simp; done) | (simp [*]; done)), H', ⟨by have := HJ4.out; first | omega | exact Nat.le_refl _⟩, ⟨by (with_reducible repeat (first | refine blk_drewN ?_ _ | refine blk_drew ?_ | refine blk_alloc ?_ _)); exact BK6137.out⟩, ⟨by repeat (first | (with_reducible first | exact HB.out | apply below_alloc | apply pw_below_drewN | apply below_drew1 | refine below_set ?_ GE6137.out) | exact HB.out)⟩⟩
                        · rw [if_neg c42] at H
                          exact absurd H (by simp)
                      · rw [if_neg c41] at H
                        have c41b0 : (a0_0 == 9) = false := beq_eq_false_iff_ne.mpr c41
                        have c41b1 : (a0_0 != 9) = true := bne_iff_ne.mpr c41
                        have H' := Aside0.mk H
                        clear H
                        go_wp2
                        go_meet
                        case rel => exact ⟨_, ((⟨#[]⟩ : ByteArray)), (by first | rfl | (simp; done) | (simp [*]; done)), H', ⟨by have := HJ4.out; first | omega | exact Nat.le_refl _⟩, ⟨by (with_reducible repeat (first | refine blk_drewN ?_ _ | refine blk_drew ?_ | refine blk_alloc ?_ _)); exact BK6137.out⟩, ⟨by repeat (first | (with_reducible first | exact HB.out | apply below_alloc | apply pw_below_drewN | apply below_drew1 | refine below_set ?_ GE6137.out) | exact HB.out)⟩⟩
  case rest =>
    clear HC2
    try clear c1
    try clear c2
    try clear p2
    try clear c3
    try clear c4
    try clear c5
    try clear c6
    try clear c6b0
    try clear c6b1
    try clear p6
    try clear q6
    try clear hx6
    try clear c7
    try clear c9
    try clear c9b0
    try clear c9b1
    try clear c11
    try clear c11b0
    try clear c11b1
    try clear c11b2
    try clear c14
    try clear c14b0
    try clear c14b1
    try clear c16
    try clear c16b0
    try clear c17
    try clear c17b0
    try clear c18
    try clear c18b0
    try clear c20
    try clear c22
    try clear c25
    try clear c27
    try clear c27b0
    try clear c27b1
    try clear c27b2
    try clear c28
    try clear c28b0
    try clear c28b1
    try clear c28b2
    try clear c31
    try clear c31b0
    try clear c31b1
    try clear c32
    try clear c32b0
    try clear c32b1
    try clear c33
    try clear c33b0
    try clear c33b1
    try clear c33b2
    try clear c35
    try clear c35b0
    try clear c35b1
    try clear c36
    try clear c36b0
    try clear c36b1
    try clear c38
    try clear c38b0
    try clear c38b1
    try clear c38b2
    try clear c41
    try clear c41b0
    try clear c41b1
    try clear c42
    try clear c42b0
    try clear c42b1
    try clear c42b2
    try clear hcz12_0
    try clear hcz12_1
    try clear hcz12_2
    try clear hcz12_3
    try clear hcz12_4
    try clear hcz15_0
    try clear hcz15_1
    try clear hcz15_2
    try clear hcz15_3
    try clear hcz15_4
    try clear hcz23_0
    try clear hcz23_1
    try clear hcz23_2
    try clear hcz23_3
    try clear hcz23_4
    try clear hcz34_0
    try clear hcz34_1
    try clear hcz34_2
    try clear hcz34_3
    try clear hcz34_4
    try clear hcz39_0
    try clear hcz39_1
    try clear hcz39_2
    try clear hcz39_3
    try clear hcz39_4
    try clear hcz43_0
    try clear hcz43_1
    try clear hcz43_2
    try clear hcz43_3
    try clear hcz43_4
    try clear hcz4_0
    try clear hcz4_1
    try clear hcz4_2
    try clear hcz4_3
    try clear hcz4_4
    try clear hcz8_0
    try clear hcz8_1
    try clear hcz8_2
    try clear hcz8_3
    try clear hcz8_4
    try clear hfz12_0
    try clear hfz12_1
    try clear hfz12_2
    try clear hfz12_3
    try clear hfz12_4
    try clear hfz15_0
    try clear hfz15_1
    try clear hfz15_2
    try clear hfz15_3
    try clear hfz15_4
    try clear hfz23_0
    try clear hfz23_1
    try clear hfz23_2
    try clear hfz23_3
    try clear hfz23_4
    try clear hfz34_0
    try clear hfz34_1
    try clear hfz34_2
    try clear hfz34_3
    try clear hfz34_4
    try clear hfz39_0
    try clear hfz39_1
    try clear hfz39_2
    try clear hfz39_3
    try clear hfz39_4
    try clear hfz43_0
    try clear hfz43_1
    try clear hfz43_2
    try clear hfz43_3
    try clear hfz43_4
    try clear hfz4_0
    try clear hfz4_1
    try clear hfz4_2
    try clear hfz4_3
    try clear hfz4_4
    try clear hfz8_0
    try clear hfz8_1
    try clear hfz8_2
    try clear hfz8_3
    try clear hfz8_4
    try clear hx6139_0
    try clear hx6139_1
    try clear hx6139_2
    try clear hx6139_3
    try clear hx6139_4
    try clear p2
    try clear p6139
    try clear q6139
    obtain ⟨kq, x3_1, rfl, HA, HJ1, BK6137, HB⟩ := hcut
    cases kq with
    | zero => exact absurd HA.out (by simp [impl_ExpCoreShow.j2])
    | succ kj1 =>
      have H := HA.out
      clear HA
      simp only [impl_ExpCoreShow.j2] at H
      by_cases c44 : 1 + x3_1.size ≤ 9223372036854775807
      · rw [if_pos c44] at H
        have c44b0 := eq_true c44
        have c44b1 : decide (1 + x3_1.size ≤ 9223372036854775807) = true := decide_eq_true c44
        try have c44b2 : (9223372036854775807 < 1 + x3_1.size) = False := eq_false (Nat.not_lt.2 c44)
        replace H := Option.bind_eq_some_iff.mp H
        obtain ⟨t6147, A450, H⟩ := H
        replace H : (impl_ExpCoreShow.l1 kj1 t6147 l0_4 (l0_4.length : Int) 0) = some r := H
        have A45 := Aside0.mk A450
        clear A450
        have H' := Aside0.mk H
        clear H
        go_wp2_with (first | ((with_reducible refine gate_dst (N := 7) rfl ?_); refine box_event ?hg (N := 7) ?hd (cs := #[.pointer none, .slice none 0 0]) (t := 89) ?hr ?_; (case hd => rfl); (case hg => rfl); (case hr => first | (go_simp; done) | (go_simp; rfl)); intro gb7000 hg wB hbox hb; have n0_ := Aside0.mk (blk_below (g := gb6137) (o := .cells #[.int .i64 a0_0, .string a0_1, .bool a0_2, .slice A0_3 l0_3.length c0_3, .slice A0_4 l0_4.length c0_4] 51 (0, 0)) (by (with_reducible repeat (first | refine blk_drewN ?_ _ | refine blk_drew ?_ | refine blk_alloc ?_ _)); exact BK6137.out) hb); have n1_ := Aside0.mk (below_step (by repeat (first | (with_reducible first | exact HB.out | apply below_alloc | apply pw_below_drewN | apply below_drew1 | refine below_set ?_ GE6137.out) | exact HB.out)) hb); have n2_ := Aside0.mk ((by rw [hg]; exact (below_size (by repeat (first | (with_reducible first | exact HB.out | apply below_alloc | apply pw_below_drewN | apply below_drew1 | refine below_set ?_ GE6137.out) | exact HB.out)))) : w.heap.size ≤ gb7000); have n3_ := Aside0.mk ((by rw [hg]; exact blk_lt (g := gb6137) (o := .cells #[.int .i64 a0_0, .string a0_1, .bool a0_2, .slice A0_3 l0_3.length c0_3, .slice A0_4 l0_4.length c0_4] 51 (0, 0)) (by (with_reducible repeat (first | refine blk_drewN ?_ _ | refine blk_drew ?_ | refine blk_alloc ?_ _)); exact BK6137.out)) : gb6137 < gb7000); have n4_ := Aside0.mk (BuilderIs.fresh hbox); have n5_ := Aside0.mk (Below.refl wB.heap.size wB); clear BK6137; clear HB; have BK6137 := n0_; have HB := n1_; have GEB := n2_; have NLB := n3_; have BB := n4_; have HBB := n5_; clear n0_ n1_ n2_ n3_ n4_ n5_; clear hb hbox hg) | ((with_reducible refine gate_callee (f := 58) rfl ?_); refine goesL_ (some 62) rfl rfl Try.func58 (by kernel_rfl) rfl #[.pointer (some ⟨gb7000, 0, none⟩), .string ((⟨#[40]⟩ : ByteArray) ++ x3_1)] rfl (by (try simp only [List.map_toArray, List.map_cons, List.map_nil]); first | done | rfl | (simp only [List.length_drop, List.length_take]; rfl)) ?_; (with_reducible refine (builder_Write.calls gb7000 (⟨#[]⟩ : ByteArray) ((⟨#[40]⟩ : ByteArray) ++ x3_1) t6147 _ ?bld A45.out).mono ?_); (case bld => exact BuilderIs.below BB.out (by repeat (first | (with_reducible first | exact HBB.out | apply below_alloc | apply pw_below_drewN | apply below_drew1) | exact HBB.out))); rintro e w46 ⟨rfl, hbd, hb⟩; refine ⟨_, rfl, ?_⟩; have m0_ := Aside0.mk hbd; have m1_ := Aside0.mk (Below.refl w46.heap.size w46); have n0_ := Aside0.mk (blk_under (b := gb7000) NLB.out (g := gb6137) (o := .cells #[.int .i64 a0_0, .string a0_1, .bool a0_2, .slice A0_3 l0_3.length c0_3, .slice A0_4 l0_4.length c0_4] 51 (0, 0)) (by (with_reducible repeat (first | refine blk_drewN ?_ _ | refine blk_drew ?_ | refine blk_alloc ?_ _)); exact BK6137.out) hb); have n1_ := Aside0.mk (below_under (by repeat (first | (with_reducible first | exact HB.out | apply below_alloc | apply pw_below_drewN | apply below_drew1 | refine below_set ?_ GE6137.out) | exact HB.out)) hb GEB.out); clear BK6137; clear HB; have BK6137 := n0_; have HB := n1_; clear n0_ n1_; clear BB HBB; have BB := m0_; have HBB := m1_; clear m0_ m1_; (try clear hb); (try clear hbd); (try clear hb2); (try clear hk); (try clear hi); have hcz47_0 : w46.cell? ⟨gb6137, 0, none⟩ = some (.int .i64 a0_0) := (blk_cell BK6137.out 0).trans rfl; have hcz47_1 : w46.cell? ⟨gb6137, 1, none⟩ = some (.string a0_1) := (blk_cell BK6137.out 1).trans rfl; have hcz47_2 : w46.cell? ⟨gb6137, 2, none⟩ = some (.bool a0_2) := (blk_cell BK6137.out 2).trans rfl; have hcz47_3 : w46.cell? ⟨gb6137, 3, none⟩ = some (.slice A0_3 l0_3.length c0_3) := (blk_cell BK6137.out 3).trans rfl; have hcz47_4 : w46.cell? ⟨gb6137, 4, none⟩ = some (.slice A0_4 l0_4.length c0_4) := (blk_cell BK6137.out 4).trans rfl; have hfz47_0 := blk_frozen BK6137.out 0; have hfz47_1 := blk_frozen BK6137.out 1; have hfz47_2 := blk_frozen BK6137.out 2; have hfz47_3 := blk_frozen BK6137.out 3; have hfz47_4 := blk_frozen BK6137.out 4))
        go_loopg [66] kj1 (fun kq v66 w' => ∃ (x7_2 : ByteArray) (x66_2 : Int), v66 = .int .i64 x66_2 ∧ Aside0 (impl_ExpCoreShow.l1 kq x7_2 l0_4 (l0_4.length : Int) x66_2 = some r) ∧ Aside0 (kq ≤ kj1) ∧ Aside0 (w'.heap[gb6137]? = some (.cells #[.int .i64 a0_0, .string a0_1, .bool a0_2, (.slice A0_3 l0_3.length c0_3), (.slice A0_4 l0_4.length c0_4)] 51 (0, 0))) ∧ Aside0 (Below w.heap.size w w') ∧ Aside0 (BuilderIs gb7000 x7_2 w'))
        case atStart => exact ⟨(t6147), (0), (by first | rfl | (simp; done) | (simp [*]; done)), H', ⟨Nat.le_refl _⟩, ⟨by (with_reducible repeat (first | refine blk_drewN ?_ _ | refine blk_drew ?_ | refine blk_alloc ?_ _)); exact BK6137.out⟩, ⟨by repeat (first | (with_reducible first | exact HB.out | apply below_alloc | apply pw_below_drewN | apply below_drew1 | refine below_set ?_ GE6137.out) | exact HB.out)⟩, ⟨BuilderIs.below BB.out (by repeat (first | (with_reducible first | exact HBB.out | apply below_alloc | apply pw_below_drewN | apply below_drew1) | exact HBB.out))⟩⟩
        case round =>
          clear H'
          try clear c1
          try clear c2
          try clear p2
          try clear c3
          try clear c4
          try clear c5
          try clear c6
          try clear c6b0
          try clear c6b1
          try clear p6
          try clear q6
          try clear hx6
          try clear c7
          try clear c9
          try clear c9b0
          try clear c9b1
          try clear c11
          try clear c11b0
          try clear c11b1
          try clear c11b2
          try clear c14
          try clear c14b0
          try clear c14b1
          try clear c16
          try clear c16b0
          try clear c17
          try clear c17b0
          try clear c18
          try clear c18b0
          try clear c20
          try clear c22
          try clear c25
          try clear c27
          try clear c27b0
          try clear c27b1
          try clear c27b2
          try clear c28
          try clear c28b0
          try clear c28b1
          try clear c28b2
          try clear c31
          try clear c31b0
          try clear c31b1
          try clear c32
          try clear c32b0
          try clear c32b1
          try clear c33
          try clear c33b0
          try clear c33b1
          try clear c33b2
          try clear c35
          try clear c35b0
          try clear c35b1
          try clear c36
          try clear c36b0
          try clear c36b1
          try clear c38
          try clear c38b0
          try clear c38b1
          try clear c38b2
          try clear c41
          try clear c41b0
          try clear c41b1
          try clear c42
          try clear c42b0
          try clear c42b1
          try clear c42b2
          try clear c44
          try clear c44b0
          try clear c44b1
          try clear c44b2
          try clear hcz12_0
          try clear hcz12_1
          try clear hcz12_2
          try clear hcz12_3
          try clear hcz12_4
          try clear hcz15_0
          try clear hcz15_1
          try clear hcz15_2
          try clear hcz15_3
          try clear hcz15_4
          try clear hcz23_0
          try clear hcz23_1
          try clear hcz23_2
          try clear hcz23_3
          try clear hcz23_4
          try clear hcz34_0
          try clear hcz34_1
          try clear hcz34_2
          try clear hcz34_3
          try clear hcz34_4
          try clear hcz39_0
          try clear hcz39_1
          try clear hcz39_2
          try clear hcz39_3
          try clear hcz39_4
          try clear hcz43_0
          try clear hcz43_1
          try clear hcz43_2
          try clear hcz43_3
          try clear hcz43_4
          try clear hcz47_0
          try clear hcz47_1
          try clear hcz47_2
          try clear hcz47_3
          try clear hcz47_4
          try clear hcz4_0
          try clear hcz4_1
          try clear hcz4_2
          try clear hcz4_3
          try clear hcz4_4
          try clear hcz8_0
          try clear hcz8_1
          try clear hcz8_2
          try clear hcz8_3
          try clear hcz8_4
          try clear hfz12_0
          try clear hfz12_1
          try clear hfz12_2
          try clear hfz12_3
          try clear hfz12_4
          try clear hfz15_0
          try clear hfz15_1
          try clear hfz15_2
          try clear hfz15_3
          try clear hfz15_4
          try clear hfz23_0
          try clear hfz23_1
          try clear hfz23_2
          try clear hfz23_3
          try clear hfz23_4
          try clear hfz34_0
          try clear hfz34_1
          try clear hfz34_2
          try clear hfz34_3
          try clear hfz34_4
          try clear hfz39_0
          try clear hfz39_1
          try clear hfz39_2
          try clear hfz39_3
          try clear hfz39_4
          try clear hfz43_0
          try clear hfz43_1
          try clear hfz43_2
          try clear hfz43_3
          try clear hfz43_4
          try clear hfz47_0
          try clear hfz47_1
          try clear hfz47_2
          try clear hfz47_3
          try clear hfz47_4
          try clear hfz4_0
          try clear hfz4_1
          try clear hfz4_2
          try clear hfz4_3
          try clear hfz4_4
          try clear hfz8_0
          try clear hfz8_1
          try clear hfz8_2
          try clear hfz8_3
          try clear hfz8_4
          try clear hx6139_0
          try clear hx6139_1
          try clear hx6139_2
          try clear hx6139_3
          try clear hx6139_4
          try clear p2
          try clear p6
          try clear p6139
          try clear q6
          try clear q6139
          clear BB HBB
          obtain ⟨x7_2, x66_2, rfl, HA, HK2, BK6137, HB, BB⟩ := hrel
          have HBB := Aside0.mk (Below.refl wr.heap.size wr)
          cases gk with
          | zero => exact absurd HA.out (by simp [impl_ExpCoreShow.l1])
          | succ k2 =>
            have H := HA.out
            clear HA
            simp only [impl_ExpCoreShow.l1] at H
            by_cases c48 : x66_2 < (l0_4.length : Int)
            · rw [if_pos c48] at H
              have c48b0 : decide (x66_2 < (l0_4.length : Int)) = true := decide_eq_true c48
              clear c48
              by_cases c49 : 0 ≤ x66_2
              · rw [if_pos c49] at H
                have c49b0 : decide (0 ≤ x66_2) = true := decide_eq_true c49
                clear c49
                by_cases c50 : x66_2 < (l0_4.length : Int)
                · rw [if_pos c50] at H
                  have c50b0 : decide (x66_2 < (l0_4.length : Int)) = true := decide_eq_true c50
                  clear c50
                  replace H := Option.bind_eq_some_iff.mp H
                  obtain ⟨t6150, A510, H⟩ := H
                  replace H : (if 1 + t6150.size ≤ 9223372036854775807 then ((builder_Write.f x7_2 ((⟨#[32]⟩ : ByteArray) ++ t6150)).bind fun t6151 => (impl_ExpCoreShow.l1 k2 t6151 l0_4 (l0_4.length : Int) (wrap64 (x66_2 + 1)))) else (none)) = some r := H
                  have A51 := Aside0.mk A510
                  clear A510
                  by_cases c52 : 1 + t6150.size ≤ 9223372036854775807
                  · rw [if_pos c52] at H
                    have c52b0 := eq_true c52
                    have c52b1 : decide (1 + t6150.size ≤ 9223372036854775807) = true := decide_eq_true c52
                    try have c52b2 : (9223372036854775807 < 1 + t6150.size) = False := eq_false (Nat.not_lt.2 c52)
                    replace H := Option.bind_eq_some_iff.mp H
                    obtain ⟨t6151, A530, H⟩ := H
                    replace H : (impl_ExpCoreShow.l1 k2 t6151 l0_4 (l0_4.length : Int) (wrap64 (x66_2 + 1))) = some r := H
                    have A53 := Aside0.mk A530
                    clear A530
                    have H' := Aside0.mk H
                    clear H
                    have p6148 : 0 ≤ (x66_2 : Int) := of_decide_eq_true (by first | (with_reducible assumption) | assumption)
                    have q6148 : x66_2 < (l0_4.length : Int) := of_decide_eq_true (by first | (with_reducible assumption) | assumption)
                    obtain ⟨ad6148, A6148_3, c6148_3, A6148_4, c6148_4, e6148, hx6148_0, hx6148_1, hx6148_2, hx6148_3, hx6148_4, hl6148_3, hi6148_3, hl6148_4, hi6148_4⟩ := at_T51 HR0_4.out x66_2 p6148 q6148
                    cases e6148
                    replace hx6148_0 := (HB.out.cell (World.block_lt_of_cell? w _ hx6148_0)).trans hx6148_0
                    replace hx6148_1 := (HB.out.cell (World.block_lt_of_cell? w _ hx6148_1)).trans hx6148_1
                    replace hx6148_2 := (HB.out.cell (World.block_lt_of_cell? w _ hx6148_2)).trans hx6148_2
                    replace hx6148_3 := (HB.out.cell (World.block_lt_of_cell? w _ hx6148_3)).trans hx6148_3
                    replace hx6148_4 := (HB.out.cell (World.block_lt_of_cell? w _ hx6148_4)).trans hx6148_4
                    have HR6148_3 := Aside0.mk hi6148_3
                    have HC6148_3 := Aside0.mk hl6148_3
                    clear hi6148_3 hl6148_3
                    have HR6148_4 := Aside0.mk hi6148_4
                    have HC6148_4 := Aside0.mk hl6148_4
                    clear hi6148_4 hl6148_4
                    replace p6148 := eq_true p6148
                    replace q6148 := eq_true q6148
                    go_wp2_with (first | ((with_reducible refine gate_dst (N := 9) rfl ?_); refine box_event ?hg (N := 9) ?hd (cs := #[.int .i64 0, .string (⟨#[]⟩ : ByteArray), .bool false, .slice none 0 0, .slice none 0 0]) (t := 51) ?hr ?_; (case hd => rfl); (case hg => rfl); (case hr => first | (go_simp; done) | (go_simp; rfl)); intro gb6149 hg w54 hbox hb; have n0_ := Aside0.mk (blk_below (g := gb6137) (o := .cells #[.int .i64 a0_0, .string a0_1, .bool a0_2, .slice A0_3 l0_3.length c0_3, .slice (some ad6148) l0_4.length c0_4] 51 (0, 0)) (by (with_reducible repeat (first | refine blk_drewN ?_ _ | refine blk_drew ?_ | refine blk_alloc ?_ _)); exact BK6137.out) hb); have n1_ := Aside0.mk (below_step (by repeat (first | (with_reducible first | exact HB.out | apply below_alloc | apply pw_below_drewN | apply below_drew1 | refine below_set ?_ GE6137.out) | exact HB.out)) hb); have n2_ := Aside0.mk (hbox); have n3_ := Aside0.mk ((by rw [hg]; exact (below_size (by repeat (first | (with_reducible first | exact HB.out | apply below_alloc | apply pw_below_drewN | apply below_drew1 | refine below_set ?_ GE6137.out) | exact HB.out))) : w.heap.size ≤ gb6149)); have n4_ := Aside0.mk ((by rw [hg]; exact (below_size (by repeat (first | (with_reducible first | exact HB.out | apply below_alloc | apply pw_below_drewN | apply below_drew1 | refine below_set ?_ GE6137.out) | exact HB.out))) : w.heap.size ≤ gb6149)); have n5_ := Aside0.mk ((by rw [hg]; exact Nat.ne_of_lt (blk_lt (g := gb6137) (o := .cells #[.int .i64 a0_0, .string a0_1, .bool a0_2, .slice A0_3 l0_3.length c0_3, .slice (some ad6148) l0_4.length c0_4] 51 (0, 0)) (by (with_reducible repeat (first | refine blk_drewN ?_ _ | refine blk_drew ?_ | refine blk_alloc ?_ _)); exact BK6137.out)) : gb6137 ≠ gb6149)); have n6_ := Aside0.mk ((by rw [hg]; exact Nat.ne_of_gt (blk_lt (g := gb6137) (o := .cells #[.int .i64 a0_0, .string a0_1, .bool a0_2, .slice A0_3 l0_3.length c0_3, .slice (some ad6148) l0_4.length c0_4] 51 (0, 0)) (by (with_reducible repeat (first | refine blk_drewN ?_ _ | refine blk_drew ?_ | refine blk_alloc ?_ _)); exact BK6137.out)) : gb6149 ≠ gb6137)); clear BK6137; clear HB; have BK6137 := n0_; have HB := n1_; have BK6149 := n2_; have GW6149 := n3_; have GE6149 := n4_; have NB6137_6149 := n5_; have NB6149_6137 := n6_; clear n0_ n1_ n2_ n3_ n4_ n5_ n6_; have m0_ := Aside0.mk (below_step (by repeat (first | (with_reducible first | exact HBB.out | apply below_alloc | apply pw_below_drewN | apply below_drew1) | exact HBB.out)) hb); have m1_ := Aside0.mk ((by rw [hg]; exact (below_size (by repeat (first | (with_reducible first | exact HBB.out | apply below_alloc | apply pw_below_drewN | apply below_drew1) | exact HBB.out)))) : wr.heap.size ≤ gb6149); clear HBB; have HBB := m0_; have GEE := m1_; clear m0_ m1_; clear hb hbox hg; have hnb55 := NB6149_6137.out; have hnc55 := NB6137_6149.out; have hcz56_0 : w54.cell? ⟨gb6149, 0, none⟩ = some (.int .i64 0) := (blk_cell BK6149.out 0).trans rfl; have hcz56_1 : w54.cell? ⟨gb6149, 1, none⟩ = some (.string (⟨#[]⟩ : ByteArray)) := (blk_cell BK6149.out 1).trans rfl; have hcz56_2 : w54.cell? ⟨gb6149, 2, none⟩ = some (.bool false) := (blk_cell BK6149.out 2).trans rfl; have hcz56_3 : w54.cell? ⟨gb6149, 3, none⟩ = some (.slice none 0 0) := (blk_cell BK6149.out 3).trans rfl; have hcz56_4 : w54.cell? ⟨gb6149, 4, none⟩ = some (.slice none 0 0) := (blk_cell BK6149.out 4).trans rfl; have hfz56_0 := blk_frozen BK6149.out 0; have hfz56_1 := blk_frozen BK6149.out 1; have hfz56_2 := blk_frozen BK6149.out 2; have hfz56_3 := blk_frozen BK6149.out 3; have hfz56_4 := blk_frozen BK6149.out 4) | ((with_reducible refine gate_callee (f := 25) rfl ?_); refine goesL_ (some 71) rfl rfl Try.func25 (by kernel_rfl) rfl #[.agg #[.int .i64 ((rd_T51 l0_4 x66_2).f0), .string ((rd_T51 l0_4 x66_2).f1), .bool ((rd_T51 l0_4 x66_2).f2), .slice A6148_3 ((rd_T51 l0_4 x66_2).f3).length c6148_3, .slice A6148_4 ((rd_T51 l0_4 x66_2).f4).length c6148_4]] rfl (by (try simp only [List.map_toArray, List.map_cons, List.map_nil]); first | done | rfl | (simp only [List.length_drop, List.length_take]; rfl)) ?_; (with_reducible refine (ih k2 (by have := HJ1.out; have := HK2.out; omega) ((rd_T51 l0_4 x66_2).f0) ((rd_T51 l0_4 x66_2).f1) ((rd_T51 l0_4 x66_2).f2) _ _ ((rd_T51 l0_4 x66_2).f3) _ _ ((rd_T51 l0_4 x66_2).f4) t6150 _ ?side1 ?side2 ?side3 ?side4 A51.out).mono ?_); (case side1 => exact Kd.C_below HR6148_3.out (by repeat (first | (with_reducible first | exact HB.out | apply below_alloc | apply pw_below_drewN | apply below_drew1 | refine below_set ?_ GE6137.out | refine below_set ?_ GE6149.out) | exact HB.out))); (case side2 => exact HC6148_3.out); (case side3 => exact Kd.C_below HR6148_4.out (by repeat (first | (with_reducible first | exact HB.out | apply below_alloc | apply pw_below_drewN | apply below_drew1 | refine below_set ?_ GE6137.out | refine below_set ?_ GE6149.out) | exact HB.out))); (case side4 => exact HC6148_4.out); rintro e w57 ⟨rfl, hb⟩; refine ⟨_, rfl, ?_⟩; have n0_ := Aside0.mk (blk_below (g := gb6137) (o := .cells #[.int .i64 a0_0, .string a0_1, .bool a0_2, .slice A0_3 l0_3.length c0_3, .slice (some ad6148) l0_4.length c0_4] 51 (0, 0)) (by (with_reducible repeat (first | refine blk_drewN ?_ _ | refine blk_drew ?_ | refine blk_alloc ?_ _)); refine blk_far ?_ NB6137_6149.out _; (with_reducible repeat (first | refine blk_drewN ?_ _ | refine blk_drew ?_ | refine blk_alloc ?_ _)); refine blk_far ?_ NB6137_6149.out _; (with_reducible repeat (first | refine blk_drewN ?_ _ | refine blk_drew ?_ | refine blk_alloc ?_ _)); refine blk_far ?_ NB6137_6149.out _; (with_reducible repeat (first | refine blk_drewN ?_ _ | refine blk_drew ?_ | refine blk_alloc ?_ _)); refine blk_far ?_ NB6137_6149.out _; (with_reducible repeat (first | refine blk_drewN ?_ _ | refine blk_drew ?_ | refine blk_alloc ?_ _)); refine blk_far ?_ NB6137_6149.out _; (with_reducible repeat (first | refine blk_drewN ?_ _ | refine blk_drew ?_ | refine blk_alloc ?_ _)); exact BK6137.out) hb); have n1_ := Aside0.mk (blk_below (g := gb6149) (o := .cells #[.int .i64 ((rd_T51 l0_4 x66_2).f0), .string ((rd_T51 l0_4 x66_2).f1), .bool ((rd_T51 l0_4 x66_2).f2), .slice A6148_3 ((rd_T51 l0_4 x66_2).f3).length c6148_3, .slice A6148_4 ((rd_T51 l0_4 x66_2).f4).length c6148_4] 51 (0, 0)) (by (with_reducible repeat (first | refine blk_drewN ?_ _ | refine blk_drew ?_ | refine blk_alloc ?_ _)); refine blk_put (cs := #[.int .i64 ((rd_T51 l0_4 x66_2).f0), .string ((rd_T51 l0_4 x66_2).f1), .bool ((rd_T51 l0_4 x66_2).f2), .slice A6148_3 ((rd_T51 l0_4 x66_2).f3).length c6148_3, .slice none 0 0]) ?_ 4 _ rfl; (with_reducible repeat (first | refine blk_drewN ?_ _ | refine blk_drew ?_ | refine blk_alloc ?_ _)); refine blk_put (cs := #[.int .i64 ((rd_T51 l0_4 x66_2).f0), .string ((rd_T51 l0_4 x66_2).f1), .bool ((rd_T51 l0_4 x66_2).f2), .slice none 0 0, .slice none 0 0]) ?_ 3 _ rfl; (with_reducible repeat (first | refine blk_drewN ?_ _ | refine blk_drew ?_ | refine blk_alloc ?_ _)); refine blk_put (cs := #[.int .i64 ((rd_T51 l0_4 x66_2).f0), .string ((rd_T51 l0_4 x66_2).f1), .bool false, .slice none 0 0, .slice none 0 0]) ?_ 2 _ rfl; (with_reducible repeat (first | refine blk_drewN ?_ _ | refine blk_drew ?_ | refine blk_alloc ?_ _)); refine blk_put (cs := #[.int .i64 ((rd_T51 l0_4 x66_2).f0), .string (⟨#[]⟩ : ByteArray), .bool false, .slice none 0 0, .slice none 0 0]) ?_ 1 _ rfl; (with_reducible repeat (first | refine blk_drewN ?_ _ | refine blk_drew ?_ | refine blk_alloc ?_ _)); refine blk_put (cs := #[.int .i64 0, .string (⟨#[]⟩ : ByteArray), .bool false, .slice none 0 0, .slice none 0 0]) ?_ 0 _ rfl; (with_reducible repeat (first | refine blk_drewN ?_ _ | refine blk_drew ?_ | refine blk_alloc ?_ _)); exact BK6149.out) hb); have n2_ := Aside0.mk (below_step (by repeat (first | (with_reducible first | exact HB.out | apply below_alloc | apply pw_below_drewN | apply below_drew1 | refine below_set ?_ GE6137.out | refine below_set ?_ GE6149.out) | exact HB.out)) hb); clear BK6137; clear BK6149; clear HB; have BK6137 := n0_; have BK6149 := n1_; have HB := n2_; clear n0_ n1_ n2_; have m0_ := Aside0.mk (below_step (by repeat (first | (with_reducible first | exact HBB.out | apply below_alloc | apply pw_below_drewN | apply below_drew1 | refine below_set ?_ GEE.out) | exact HBB.out)) hb); clear HBB; have HBB := m0_; clear m0_; (try clear hb); (try clear hb2); (try clear hk); (try clear hi)) | ((with_reducible refine gate_callee (f := 58) rfl ?_); refine goesL_ (some 73) rfl rfl Try.func58 (by kernel_rfl) rfl #[.pointer (some ⟨gb7000, 0, none⟩), .string ((⟨#[32]⟩ : ByteArray) ++ t6150)] rfl (by (try simp only [List.map_toArray, List.map_cons, List.map_nil]); first | done | rfl | (simp only [List.length_drop, List.length_take]; rfl)) ?_; (with_reducible refine (builder_Write.calls gb7000 x7_2 ((⟨#[32]⟩ : ByteArray) ++ t6150) t6151 _ ?bld A53.out).mono ?_); (case bld => exact BuilderIs.below BB.out (by repeat (first | (with_reducible first | exact HBB.out | apply below_alloc | apply pw_below_drewN | apply below_drew1 | refine below_set ?_ GEE.out) | exact HBB.out))); rintro e w58 ⟨rfl, hbd, hb⟩; refine ⟨_, rfl, ?_⟩; have m0_ := Aside0.mk hbd; have m1_ := Aside0.mk (Below.refl w58.heap.size w58); have n0_ := Aside0.mk (blk_under (b := gb7000) NLB.out (g := gb6137) (o := .cells #[.int .i64 a0_0, .string a0_1, .bool a0_2, .slice A0_3 l0_3.length c0_3, .slice (some ad6148) l0_4.length c0_4] 51 (0, 0)) (by (with_reducible repeat (first | refine blk_drewN ?_ _ | refine blk_drew ?_ | refine blk_alloc ?_ _)); exact BK6137.out) hb); have n1_ := Aside0.mk (below_under (by repeat (first | (with_reducible first | exact HB.out | apply below_alloc | apply pw_below_drewN | apply below_drew1 | refine below_set ?_ GE6137.out | refine below_set ?_ GE6149.out) | exact HB.out)) hb GEB.out); clear BK6137; clear BK6149; clear HB; have BK6137 := n0_; have HB := n1_; clear n0_ n1_; clear BB HBB; have BB := m0_; have HBB := m1_; clear m0_ m1_; (try clear hb); (try clear hbd); (try clear hb2); (try clear hk); (try clear hi)))
                    go_roundg k2
                    case measure => have := HJ1.out; have := HK2.out; omega
                    case rel => exact ⟨(t6151), (wrap64 (x66_2 + 1)), (by first | rfl | (simp; done) | (simp [*]; done)), H', ⟨by have := HJ1.out; have := HK2.out; omega⟩, ⟨by (with_reducible repeat (first | refine blk_drewN ?_ _ | refine blk_drew ?_ | refine blk_alloc ?_ _)); exact BK6137.out⟩, ⟨by repeat (first | (with_reducible first | exact HB.out | apply below_alloc | apply pw_below_drewN | apply below_drew1 | refine below_set ?_ GE6137.out | refine below_set ?_ GE6149.out) | exact HB.out)⟩, ⟨BuilderIs.below BB.out (by repeat (first | (with_reducible first | exact HBB.out | apply below_alloc | apply pw_below_drewN | apply below_drew1) | exact HBB.out))⟩⟩
                  · rw [if_neg c52] at H
                    exact absurd H (by simp)
                · rw [if_neg c50] at H
                  exact absurd H (by simp)
              · rw [if_neg c49] at H
                exact absurd H (by simp)
            · rw [if_neg c48] at H
              have c48b0 : decide (x66_2 < (l0_4.length : Int)) = false := decide_eq_false c48
              clear c48
              replace H := Option.bind_eq_some_iff.mp H
              obtain ⟨t6152, A590, H⟩ := H
              replace H : (if t6152.size + 1 ≤ 9223372036854775807 then (some (t6152 ++ (⟨#[41]⟩ : ByteArray))) else (none)) = some r := H
              have A59 := Aside0.mk A590
              clear A590
              by_cases c60 : t6152.size + 1 ≤ 9223372036854775807
              · rw [if_pos c60] at H
                have c60b0 := eq_true c60
                have c60b1 : decide (t6152.size + 1 ≤ 9223372036854775807) = true := decide_eq_true c60
                try have c60b2 : (9223372036854775807 < t6152.size + 1) = False := eq_false (Nat.not_lt.2 c60)
                obtain rfl := Option.some.inj H
                go_wp2_with (first | ((with_reducible refine gate_callee (f := 59) rfl ?_); refine goesL_ (some 75) rfl rfl Try.func59 (by kernel_rfl) rfl #[.pointer (some ⟨gb7000, 0, none⟩)] rfl (by (try simp only [List.map_toArray, List.map_cons, List.map_nil]); first | done | rfl | (simp only [List.length_drop, List.length_take]; rfl)) ?_; (with_reducible refine (builder_String.calls gb7000 x7_2 t6152 _ ?bld A59.out).mono ?_); (case bld => exact BuilderIs.below BB.out (by repeat (first | (with_reducible first | exact HBB.out | apply below_alloc | apply pw_below_drewN | apply below_drew1) | exact HBB.out))); rintro e w61 ⟨rfl, hb⟩; refine ⟨_, rfl, ?_⟩; have n0_ := Aside0.mk (blk_under (b := gb7000) NLB.out (g := gb6137) (o := .cells #[.int .i64 a0_0, .string a0_1, .bool a0_2, .slice A0_3 l0_3.length c0_3, .slice A0_4 l0_4.length c0_4] 51 (0, 0)) (by (with_reducible repeat (first | refine blk_drewN ?_ _ | refine blk_drew ?_ | refine blk_alloc ?_ _)); exact BK6137.out) hb); have n1_ := Aside0.mk (below_under (by repeat (first | (with_reducible first | exact HB.out | apply below_alloc | apply pw_below_drewN | apply below_drew1 | refine below_set ?_ GE6137.out) | exact HB.out)) hb GEB.out); clear BK6137; clear HB; have BK6137 := n0_; have HB := n1_; clear n0_ n1_; (try clear hb); (try clear hb2); (try clear hk); (try clear hi)))
                go_ret
                exact ⟨by first | rfl | (simp [errW_none, errW_some] <;> rfl) | (simp [*, errW_none, errW_some] <;> rfl), by repeat (first | (with_reducible first | exact HB.out | apply below_alloc | apply pw_below_drewN | apply below_drew1 | refine below_set ?_ GE6137.out) | exact HB.out)⟩
              · rw [if_neg c60] at H
                exact absurd H (by simp)
      · rw [if_neg c44] at H
        exact absurd H (by simp)

end Go.Proofs.Ytmdhanegafclmaa.PFnExactExpCoreShow
