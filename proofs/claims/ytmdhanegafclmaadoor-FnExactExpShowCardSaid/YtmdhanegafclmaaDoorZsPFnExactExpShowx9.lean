/- PFnExactExpShowx9 of the seat's texts, cut down by prune.py to what the theorem comes to. -/
import Derived.Test.YtmdhanegafclmaaDoorZsPFnExactExpShowx0
import Derived.Test.YtmdhanegafclmaaDoorZsPFnExactExpShowx8
import Derived.Test.YtmdhanegafclmaaDoorZsLib
namespace Go.Proofs.YtmdhanegafclmaaDoor.PFnExactExpShow
open Go.RowKit Go.Proofs.YtmdhanegafclmaaDoorW.PrintWords Go.Proofs.YtmdhanegafclmaaDoorW.PrintLast Go.Proofs.YtmdhanegafclmaaDoorW.PrintMore
attribute [local go_sem] max2_int min2_int max_two min_two max_three min_three max_four min_four
set_option linter.unusedVariables false
set_option linter.unusedSimpArgs false
def impl_ExpFormOk.f (k : Nat) (a0_0 : Int) (a0_1 : ByteArray) (l0_2 : List Int) (a0_3 : Int) (l0_4 : List (S35)) : Option (Bool) := (impl_expCount.f k a0_0 a0_1 l0_2 a0_3 l0_4 0).bind fun t9187 => (some (decide (t9187 > 0)))
theorem impl_ExpFormOk.mono : ∀ a0 a1 a2 a3 a4 k, LeO (impl_ExpFormOk.f k a0 a1 a2 a3 a4) (impl_ExpFormOk.f (k + 1) a0 a1 a2 a3 a4) := by
 intro a0 a1 a2 a3 a4 k
 unfold impl_ExpFormOk.f
 repeat' first
   | (with_reducible exact impl_expCount.mono _ _ _ _ _ _ _)
   | (with_reducible exact LeO.refl _)
   | (with_reducible exact LeO.none _)
   | (with_reducible refine LeO.ite ?_ ?_)
   | (with_reducible refine LeO.bind ?_ (fun _ => ?_))
   | exact impl_expCount.mono _ _ _ _ _ _ _
   | exact LeO.none _
   | refine LeO.ite ?_ ?_
   | refine LeO.bind ?_ (fun _ => ?_)
set_option maxHeartbeats 8000000 in
set_option maxRecDepth 100000 in
theorem impl_ExpFormOk.calls (k : Nat) (a0_0 : Int) (a0_1 : ByteArray) (A0_2 : Option Addr) (c0_2 : Nat) (l0_2 : List Int) (a0_3 : Int) (A0_4 : Option Addr) (c0_4 : Nat) (l0_4 : List (S35)) (r : Bool) (w : World) (hr0_2 : Kd.C (Kd.int .i64) w A0_2 l0_2.length l0_2) (hc0_2 : l0_2.length ≤ c0_2) (hr0_4 : Kd.C k35 w A0_4 l0_4.length l0_4) (hc0_4 : l0_4.length ≤ c0_4) (h : impl_ExpFormOk.f k a0_0 a0_1 l0_2 a0_3 l0_4 = some r) :
  Calls Tryd.prog 14 #[.agg #[.int .i64 a0_0, .string a0_1, .slice A0_2 l0_2.length c0_2, .int .i64 a0_3, .slice A0_4 l0_4.length c0_4]] w fun e w' => e = .returned (.bool r) ∧ Below w.heap.size w w' := by
 have hu35 := Tryd.underlying35
 have HR0_2 := Aq hr0_2
 have HC0_2 := Aq hc0_2
 clear hr0_2 hc0_2
 have HR0_4 := Aq hr0_4
 have HC0_4 := Aq hc0_4
 clear hr0_4 hc0_4
 have HB := Aq (Below.refl w.heap.size w)
 have H : ((impl_expCount.f k a0_0 a0_1 l0_2 a0_3 l0_4 0).bind fun t9187 => (some (decide (t9187 > 0)))) = some r := h
 clear h
 replace H := Option.bind_eq_some_iff.mp H
 obtain ⟨t9187, A20, H⟩ := H
 replace H : (some (decide (t9187 > 0))) = some r := H
 have A2 := Aq A20
 clear A20
 obtain rfl := Option.some.inj H
 go_enter Tryd.func14, Tryd.ntmps14
 go_wp2_with (first | ((with_reducible refine gate_dst (N := 1) rfl ?_); refine box_event ?hg (N := 1) ?hd (cs := #[.int .i64 a0_0, .string a0_1, .slice A0_2 l0_2.length c0_2, .int .i64 a0_3, .slice A0_4 l0_4.length c0_4]) (t := 35) ?hr ?_; (case hd => rfl); (case hg => rfl); (case hr => first | (go_simp; done) | (go_simp; rfl)); intro gb9186 hg w3 hbox hb; have n0_ := Aq (below_step (by repeat (first | (with_reducible first | exact HB.out | apply zB | apply zC | apply zE) | exact HB.out)) hb); have n1_ := Aq (hbox); have n2_ := Aq ((by rw [hg]; exact (below_size (by repeat (first | (with_reducible first | exact HB.out | apply zB | apply zC | apply zE) | exact HB.out))) : w.heap.size ≤ gb9186)); have n3_ := Aq ((by rw [hg]; exact (below_size (by repeat (first | (with_reducible first | exact HB.out | apply zB | apply zC | apply zE) | exact HB.out))) : w.heap.size ≤ gb9186)); clear HB; have HB := n0_; have BK9186 := n1_; have GW9186 := n2_; have GE9186 := n3_; clear n0_ n1_ n2_ n3_ hb hbox hg; have hcz4_0 : w3.cell? ⟨gb9186, 0, none⟩ = some (.int .i64 a0_0) := (blk_cell BK9186.out 0).trans rfl; have hcz4_1 : w3.cell? ⟨gb9186, 1, none⟩ = some (.string a0_1) := (blk_cell BK9186.out 1).trans rfl; have hcz4_2 : w3.cell? ⟨gb9186, 2, none⟩ = some (.slice A0_2 l0_2.length c0_2) := (blk_cell BK9186.out 2).trans rfl; have hcz4_3 : w3.cell? ⟨gb9186, 3, none⟩ = some (.int .i64 a0_3) := (blk_cell BK9186.out 3).trans rfl; have hcz4_4 : w3.cell? ⟨gb9186, 4, none⟩ = some (.slice A0_4 l0_4.length c0_4) := (blk_cell BK9186.out 4).trans rfl; have hfz4_0 := blk_frozen BK9186.out 0; have hfz4_1 := blk_frozen BK9186.out 1; have hfz4_2 := blk_frozen BK9186.out 2; have hfz4_3 := blk_frozen BK9186.out 3; have hfz4_4 := blk_frozen BK9186.out 4) | ((with_reducible refine gate_callee (f := 34) rfl ?_); refine goesL_ (some 4) rfl rfl Tryd.func34 (by kernel_rfl) rfl #[.agg #[.int .i64 a0_0, .string a0_1, .slice A0_2 l0_2.length c0_2, .int .i64 a0_3, .slice A0_4 l0_4.length c0_4], .int .i64 0] rfl (by (try simp only [List.map_toArray, List.map_cons, List.map_nil]); first | done | rfl | (simp only [List.length_drop, List.length_take]; rfl)) ?_; (with_reducible refine (impl_expCount.calls k a0_0 a0_1 _ _ l0_2 a0_3 _ _ l0_4 0 t9187 _ ?side1 ?side2 ?side3 ?side4 A2.out).mono ?_); (case side1 => repeat (first | exact (Kd.C_below HR0_2.out HB.out) | (with_reducible refine Kd.C_alloc ?_ _) | (with_reducible refine Kd.C_drewN ?_ _) | (with_reducible refine Kd.C_drew ?_))); (case side2 => exact HC0_2.out); (case side3 => repeat (first | exact (Kd.C_below HR0_4.out HB.out) | (with_reducible refine Kd.C_alloc ?_ _) | (with_reducible refine Kd.C_drewN ?_ _) | (with_reducible refine Kd.C_drew ?_))); (case side4 => exact HC0_4.out); rintro e w5 ⟨rfl, hb⟩; refine ⟨_, rfl, ?_⟩; have n0_ := Aq (blk_below (g := gb9186) (o := .cells #[.int .i64 a0_0, .string a0_1, .slice A0_2 l0_2.length c0_2, .int .i64 a0_3, .slice A0_4 l0_4.length c0_4] 35 (0, 0)) (by (with_reducible repeat (first | refine zN ?_ _ | refine zD ?_ | refine zA ?_ _)); exact BK9186.out) hb); have n1_ := Aq (below_step (by repeat (first | (with_reducible first | exact HB.out | apply zB | apply zC | apply zE | refine below_set ?_ GE9186.out) | exact HB.out)) hb); clear BK9186 HB; have BK9186 := n0_; have HB := n1_; clear n0_ n1_; (try clear hb); (try clear hb2); (try clear hk); (try clear hi)))
 go_ret
 exact ⟨by first | rfl | (simp [errW_none, errW_some] <;> rfl) | (simp [*, errW_none, errW_some] <;> rfl), by repeat (first | (with_reducible first | exact HB.out | apply zB | apply zC | apply zE | refine below_set ?_ GE9186.out) | exact HB.out)⟩
mutual
def impl_expShow.j0 : Nat → Bool → Int → ByteArray → List Int → Int → List (S35) → Option (ByteArray)
 | 0, _, _, _, _, _, _ => none
 | k + 1, x14, x9189000, x9189001, x9189002, x9189003, x9189004 => if x14 = true then (some x9189001) else (impl_expShow.l0 k ([] : List ByteArray) x9189004 (x9189004.length : Int) 0 x9189000 x9189001 x9189002 x9189003 x9189004)
def impl_expShow.l0 : Nat → List ByteArray → List (S35) → Int → Int → Int → ByteArray → List Int → Int → List (S35) → Option (ByteArray)
 | 0, _, _, _, _, _, _, _, _, _ => none
 | k + 1, x3, x18, x19, x20, x9189000, x9189001, x9189002, x9189003, x9189004 => if x20 < x19 then (if 0 ≤ x20 then (if x20 < (x18.length : Int) then ((impl_expShow.f k ((rd_T35 x18 x20).f0) ((rd_T35 x18 x20).f1) ((rd_T35 x18 x20).f2) ((rd_T35 x18 x20).f3) ((rd_T35 x18 x20).f4)).bind fun t9191 => (if x9189000 = 4 then (if x20 = (wrap64 ((x9189004.length : Int) - 1)) then (if 2 + t9191.size ≤ 9223372036854775807 then (if x3.length < 8796093022208 then (impl_expShow.l0 k (x3 ++ [(⟨#[46, 32]⟩ : ByteArray) ++ t9191]) x18 x19 (wrap64 (x20 + 1)) x9189000 x9189001 x9189002 x9189003 x9189004) else (none)) else (none)) else (if x3.length < 8796093022208 then (impl_expShow.l0 k (x3 ++ [t9191]) x18 x19 (wrap64 (x20 + 1)) x9189000 x9189001 x9189002 x9189003 x9189004) else (none))) else (if x3.length < 8796093022208 then (impl_expShow.l0 k (x3 ++ [t9191]) x18 x19 (wrap64 (x20 + 1)) x9189000 x9189001 x9189002 x9189003 x9189004) else (none)))) else (none)) else (none)) else ((strings_Join.f x3 (⟨#[32]⟩ : ByteArray)).bind fun t9201 => (if 1 + t9201.size ≤ 9223372036854775807 then (if ((⟨#[40]⟩ : ByteArray) ++ t9201).size + 1 ≤ 9223372036854775807 then (some (((⟨#[40]⟩ : ByteArray) ++ t9201) ++ (⟨#[41]⟩ : ByteArray))) else (none)) else (none)))
def impl_expShow.f : Nat → Int → ByteArray → List Int → Int → List (S35) → Option (ByteArray)
 | 0, _, _, _, _, _ => none
 | k + 1, a0_0, a0_1, l0_2, a0_3, l0_4 => if a0_0 = 1 then (impl_expShow.j0 k true a0_0 a0_1 l0_2 a0_3 l0_4) else (impl_expShow.j0 k (a0_0 == 2) a0_0 a0_1 l0_2 a0_3 l0_4)
end
theorem impl_expShow.mono_l : ∀ k, (∀ y0 y1 y2 y3 y4, LeO (impl_expShow.f k y0 y1 y2 y3 y4) (impl_expShow.f (k + 1) y0 y1 y2 y3 y4)) ∧ (∀ y0 y1 y2 y3 y4 y5, LeO (impl_expShow.j0 k y0 y1 y2 y3 y4 y5) (impl_expShow.j0 (k + 1) y0 y1 y2 y3 y4 y5)) ∧ (∀ y0 y1 y2 y3 y4 y5 y6 y7 y8, LeO (impl_expShow.l0 k y0 y1 y2 y3 y4 y5 y6 y7 y8) (impl_expShow.l0 (k + 1) y0 y1 y2 y3 y4 y5 y6 y7 y8))
 | 0 => ⟨fun _ _ _ _ _ r h => by simp [impl_expShow.f] at h, fun _ _ _ _ _ _ r h => by simp [impl_expShow.j0] at h, fun _ _ _ _ _ _ _ _ _ r h => by simp [impl_expShow.l0] at h⟩
 | k + 1 => by
  obtain ⟨ih0, ih1, ih2⟩ := impl_expShow.mono_l k
  refine ⟨?_, ?_, ?_⟩
  ·intro y0 y1 y2 y3 y4
   unfold impl_expShow.f
   repeat' first
   | (with_reducible exact ih0 _ _ _ _ _)
   | (with_reducible exact ih1 _ _ _ _ _ _)
   | (with_reducible exact ih2 _ _ _ _ _ _ _ _ _)
   | (with_reducible exact LeO.refl _)
   | (with_reducible exact LeO.none _)
   | (with_reducible refine LeO.ite ?_ ?_)
   | (with_reducible refine LeO.bind ?_ (fun _ => ?_))
   | exact ih0 _ _ _ _ _
   | exact ih1 _ _ _ _ _ _
   | exact ih2 _ _ _ _ _ _ _ _ _
   | exact LeO.none _
   | refine LeO.ite ?_ ?_
   | refine LeO.bind ?_ (fun _ => ?_)
  ·intro y0 y1 y2 y3 y4 y5
   unfold impl_expShow.j0
   repeat' first
   | (with_reducible exact ih0 _ _ _ _ _)
   | (with_reducible exact ih1 _ _ _ _ _ _)
   | (with_reducible exact ih2 _ _ _ _ _ _ _ _ _)
   | (with_reducible exact LeO.refl _)
   | (with_reducible exact LeO.none _)
   | (with_reducible refine LeO.ite ?_ ?_)
   | (with_reducible refine LeO.bind ?_ (fun _ => ?_))
   | exact ih0 _ _ _ _ _
   | exact ih1 _ _ _ _ _ _
   | exact ih2 _ _ _ _ _ _ _ _ _
   | exact LeO.none _
   | refine LeO.ite ?_ ?_
   | refine LeO.bind ?_ (fun _ => ?_)
  ·intro y0 y1 y2 y3 y4 y5 y6 y7 y8
   unfold impl_expShow.l0
   repeat' first
   | (with_reducible exact ih0 _ _ _ _ _)
   | (with_reducible exact ih1 _ _ _ _ _ _)
   | (with_reducible exact ih2 _ _ _ _ _ _ _ _ _)
   | (with_reducible exact LeO.refl _)
   | (with_reducible exact LeO.none _)
   | (with_reducible refine LeO.ite ?_ ?_)
   | (with_reducible refine LeO.bind ?_ (fun _ => ?_))
   | exact ih0 _ _ _ _ _
   | exact ih1 _ _ _ _ _ _
   | exact ih2 _ _ _ _ _ _ _ _ _
   | exact LeO.none _
   | refine LeO.ite ?_ ?_
   | refine LeO.bind ?_ (fun _ => ?_)
theorem impl_expShow.mono : ∀ a0 a1 a2 a3 a4 k, LeO (impl_expShow.f k a0 a1 a2 a3 a4) (impl_expShow.f (k + 1) a0 a1 a2 a3 a4) := by
 intro a0 a1 a2 a3 a4 k
 obtain ⟨ih0, ih1, ih2⟩ := impl_expShow.mono_l k
 exact ih0 a0 a1 a2 a3 a4
set_option maxHeartbeats 8000000 in
set_option maxRecDepth 100000 in
theorem impl_expShow.calls (k : Nat) : ∀ (a0_0 : Int) (a0_1 : ByteArray) (A0_2 : Option Addr) (c0_2 : Nat) (l0_2 : List Int) (a0_3 : Int) (A0_4 : Option Addr) (c0_4 : Nat) (l0_4 : List (S35)) (r : ByteArray) (w : World) (hr0_2 : Kd.C (Kd.int .i64) w A0_2 l0_2.length l0_2) (hc0_2 : l0_2.length ≤ c0_2) (hr0_4 : Kd.C k35 w A0_4 l0_4.length l0_4) (hc0_4 : l0_4.length ≤ c0_4) (h : impl_expShow.f k a0_0 a0_1 l0_2 a0_3 l0_4 = some r),
  Calls Tryd.prog 37 #[.agg #[.int .i64 a0_0, .string a0_1, .slice A0_2 l0_2.length c0_2, .int .i64 a0_3, .slice A0_4 l0_4.length c0_4]] w fun e w' => e = .returned (.string r) ∧ Below w.heap.size w w' := by
 induction k using Nat.strongRecOn with
 | _ k ih =>
 intro a0_0 a0_1 A0_2 c0_2 l0_2 a0_3 A0_4 c0_4 l0_4 r w hr0_2 hc0_2 hr0_4 hc0_4 h
 cases k with
 | zero => exact absurd h (by simp [impl_expShow.f])
 | succ k =>
 simp only [impl_expShow.f] at h
 have hu35 := Tryd.underlying35
 have HR0_2 := Aq hr0_2
 have HC0_2 := Aq hc0_2
 clear hr0_2 hc0_2
 have HR0_4 := Aq hr0_4
 have HC0_4 := Aq hc0_4
 clear hr0_4 hc0_4
 have HB := Aq (Below.refl w.heap.size w)
 have H : (if a0_0 = 1 then (impl_expShow.j0 k true a0_0 a0_1 l0_2 a0_3 l0_4) else (impl_expShow.j0 k (a0_0 == 2) a0_0 a0_1 l0_2 a0_3 l0_4)) = some r := h
 clear h
 have HC2 := Aq H
 clear H
 go_enter Tryd.func37, Tryd.ntmps37
 go_upto_region 1 with (first | ((with_reducible refine gate_dst (N := 1) rfl ?_); (try (refine gate_guard (by rfl) ?_; dsimp only)); refine box_event ?hg (N := 1) ?hd (cs := #[.int .i64 a0_0, .string a0_1, .slice A0_2 l0_2.length c0_2, .int .i64 a0_3, .slice A0_4 l0_4.length c0_4]) (t := 35) ?hr ?_; (case hd => rfl); (case hg => rfl); (case hr => first | (go_simp; done) | (go_simp; rfl)); intro gb9188 hg w3 hbox hb; have n0_ := Aq (below_step (by repeat (first | (with_reducible first | exact HB.out | apply zB | apply zC | apply zE) | exact HB.out)) hb); have n1_ := Aq (hbox); have n2_ := Aq ((by rw [hg]; exact (below_size (by repeat (first | (with_reducible first | exact HB.out | apply zB | apply zC | apply zE) | exact HB.out))) : w.heap.size ≤ gb9188)); have n3_ := Aq ((by rw [hg]; exact (below_size (by repeat (first | (with_reducible first | exact HB.out | apply zB | apply zC | apply zE) | exact HB.out))) : w.heap.size ≤ gb9188)); clear HB; have HB := n0_; have BK9188 := n1_; have GW9188 := n2_; have GE9188 := n3_; clear n0_ n1_ n2_ n3_ hb hbox hg))
 (try simp only [Act.put, sA, sB, sC])
 go_cut [14] (fun v14 wc => ∃ (kq : Nat) (x14_1 : Bool), v14 = .bool x14_1 ∧ Aside0 (impl_expShow.j0 kq x14_1 a0_0 a0_1 l0_2 a0_3 l0_4 = some r) ∧ Aside0 (kq ≤ k) ∧ Aside0 (wc.heap[gb9188]? = some (.cells #[.int .i64 a0_0, .string a0_1, (.slice A0_2 l0_2.length c0_2), .int .i64 a0_3, (.slice A0_4 l0_4.length c0_4)] 35 (0, 0))) ∧ Aside0 (Below w.heap.size w wc))
 case first =>
  have H := HC2.out
  clear HC2
  by_cases c4 : a0_0 = 1
  ·rw [if_pos c4] at H
   have c4b0 : (a0_0 == 1) = true := beq_iff_eq.mpr c4
   have c4b1 : (a0_0 != 1) = false := bne_eq_false_iff_eq.mpr c4
   clear c4
   (first | rw [c4b0] | (simp only [i64_w, i32_w]; rw [c4b0]) | skip)
   have H' := Aq H
   clear H
   have hcz5_0 : w3.cell? ⟨gb9188, 0, none⟩ = some (.int .i64 a0_0) := (blk_cell BK9188.out 0).trans rfl
   have hcz5_1 : w3.cell? ⟨gb9188, 1, none⟩ = some (.string a0_1) := (blk_cell BK9188.out 1).trans rfl
   have hcz5_2 : w3.cell? ⟨gb9188, 2, none⟩ = some (.slice A0_2 l0_2.length c0_2) := (blk_cell BK9188.out 2).trans rfl
   have hcz5_3 : w3.cell? ⟨gb9188, 3, none⟩ = some (.int .i64 a0_3) := (blk_cell BK9188.out 3).trans rfl
   have hcz5_4 : w3.cell? ⟨gb9188, 4, none⟩ = some (.slice A0_4 l0_4.length c0_4) := (blk_cell BK9188.out 4).trans rfl
   have hfz5_0 := blk_frozen BK9188.out 0
   have hfz5_1 := blk_frozen BK9188.out 1
   have hfz5_2 := blk_frozen BK9188.out 2
   have hfz5_3 := blk_frozen BK9188.out 3
   have hfz5_4 := blk_frozen BK9188.out 4
   go_wp2
   go_meet
   case rel => exact ⟨_, (true), (by first | rfl | (simp; done) | (simp [*]; done)), H', ⟨by first | omega | exact Nat.le_refl _⟩, ⟨by (with_reducible repeat (first | refine zN ?_ _ | refine zD ?_ | refine zA ?_ _)); exact BK9188.out⟩, ⟨by repeat (first | (with_reducible first | exact HB.out | apply zB | apply zC | apply zE | refine below_set ?_ GE9188.out) | exact HB.out)⟩⟩
  ·rw [if_neg c4] at H
   have c4b0 : (a0_0 == 1) = false := beq_eq_false_iff_ne.mpr c4
   have c4b1 : (a0_0 != 1) = true := bne_iff_ne.mpr c4
   (first | rw [c4b0] | (simp only [i64_w, i32_w]; rw [c4b0]) | skip)
   have H' := Aq H
   clear H
   have hcz6_0 : w3.cell? ⟨gb9188, 0, none⟩ = some (.int .i64 a0_0) := (blk_cell BK9188.out 0).trans rfl
   have hcz6_1 : w3.cell? ⟨gb9188, 1, none⟩ = some (.string a0_1) := (blk_cell BK9188.out 1).trans rfl
   have hcz6_2 : w3.cell? ⟨gb9188, 2, none⟩ = some (.slice A0_2 l0_2.length c0_2) := (blk_cell BK9188.out 2).trans rfl
   have hcz6_3 : w3.cell? ⟨gb9188, 3, none⟩ = some (.int .i64 a0_3) := (blk_cell BK9188.out 3).trans rfl
   have hcz6_4 : w3.cell? ⟨gb9188, 4, none⟩ = some (.slice A0_4 l0_4.length c0_4) := (blk_cell BK9188.out 4).trans rfl
   have hfz6_0 := blk_frozen BK9188.out 0
   have hfz6_1 := blk_frozen BK9188.out 1
   have hfz6_2 := blk_frozen BK9188.out 2
   have hfz6_3 := blk_frozen BK9188.out 3
   have hfz6_4 := blk_frozen BK9188.out 4
   go_wp2
   go_meet
   case rel => exact ⟨_, ((a0_0 == 2)), (by first | rfl | (simp; done) | (simp [*]; done)), H', ⟨by first | omega | exact Nat.le_refl _⟩, ⟨by (with_reducible repeat (first | refine zN ?_ _ | refine zD ?_ | refine zA ?_ _)); exact BK9188.out⟩, ⟨by repeat (first | (with_reducible first | exact HB.out | apply zB | apply zC | apply zE | refine below_set ?_ GE9188.out) | exact HB.out)⟩⟩
 case rest =>
  clear HC2
  try clear p2
  try clear c3
  try clear c4
  try clear c4b0
  try clear c4b1
  try clear hcz5_0
  try clear hcz5_1
  try clear hcz5_2
  try clear hcz5_3
  try clear hcz5_4
  try clear hcz6_0
  try clear hcz6_1
  try clear hcz6_2
  try clear hcz6_3
  try clear hcz6_4
  try clear hfz5_0
  try clear hfz5_1
  try clear hfz5_2
  try clear hfz5_3
  try clear hfz5_4
  try clear hfz6_0
  try clear hfz6_1
  try clear hfz6_2
  try clear hfz6_3
  try clear hfz6_4
  obtain ⟨kq, x14_1, rfl, HA, HJ1, BK9188, HB⟩ := hcut
  cases kq with
  | zero => exact absurd HA.out (by simp [impl_expShow.j0])
  | succ kj1 =>
   have H := HA.out
   clear HA
   simp only [impl_expShow.j0] at H
   by_cases c7 : x14_1 = true
   ·subst c7
    have H1 : (some a0_1) = some r := by rw [if_pos rfl] at H; exact H
    clear H
    have H := H1
    clear H1
    obtain rfl := Option.some.inj H
    have hcz8_0 : wc.cell? ⟨gb9188, 0, none⟩ = some (.int .i64 a0_0) := (blk_cell BK9188.out 0).trans rfl
    have hcz8_1 : wc.cell? ⟨gb9188, 1, none⟩ = some (.string a0_1) := (blk_cell BK9188.out 1).trans rfl
    have hcz8_2 : wc.cell? ⟨gb9188, 2, none⟩ = some (.slice A0_2 l0_2.length c0_2) := (blk_cell BK9188.out 2).trans rfl
    have hcz8_3 : wc.cell? ⟨gb9188, 3, none⟩ = some (.int .i64 a0_3) := (blk_cell BK9188.out 3).trans rfl
    have hcz8_4 : wc.cell? ⟨gb9188, 4, none⟩ = some (.slice A0_4 l0_4.length c0_4) := (blk_cell BK9188.out 4).trans rfl
    have hfz8_0 := blk_frozen BK9188.out 0
    have hfz8_1 := blk_frozen BK9188.out 1
    have hfz8_2 := blk_frozen BK9188.out 2
    have hfz8_3 := blk_frozen BK9188.out 3
    have hfz8_4 := blk_frozen BK9188.out 4
    go_wp2
    go_ret
    exact ⟨by first | rfl | (simp [errW_none, errW_some] <;> rfl) | (simp [*, errW_none, errW_some] <;> rfl), by repeat (first | (with_reducible first | exact HB.out | apply zB | apply zC | apply zE | refine below_set ?_ GE9188.out) | exact HB.out)⟩
   ·replace c7 := Bool.eq_false_iff.mpr c7
    subst c7
    have H1 : (impl_expShow.l0 kj1 ([] : List ByteArray) l0_4 (l0_4.length : Int) 0 a0_0 a0_1 l0_2 a0_3 l0_4) = some r := by rw [if_neg (show ¬ (false = true) by decide)] at H; exact H
    clear H
    have H := H1
    clear H1
    have H' := Aq H
    clear H
    have hcz9_0 : wc.cell? ⟨gb9188, 0, none⟩ = some (.int .i64 a0_0) := (blk_cell BK9188.out 0).trans rfl
    have hcz9_1 : wc.cell? ⟨gb9188, 1, none⟩ = some (.string a0_1) := (blk_cell BK9188.out 1).trans rfl
    have hcz9_2 : wc.cell? ⟨gb9188, 2, none⟩ = some (.slice A0_2 l0_2.length c0_2) := (blk_cell BK9188.out 2).trans rfl
    have hcz9_3 : wc.cell? ⟨gb9188, 3, none⟩ = some (.int .i64 a0_3) := (blk_cell BK9188.out 3).trans rfl
    have hcz9_4 : wc.cell? ⟨gb9188, 4, none⟩ = some (.slice A0_4 l0_4.length c0_4) := (blk_cell BK9188.out 4).trans rfl
    have hfz9_0 := blk_frozen BK9188.out 0
    have hfz9_1 := blk_frozen BK9188.out 1
    have hfz9_2 := blk_frozen BK9188.out 2
    have hfz9_3 := blk_frozen BK9188.out 3
    have hfz9_4 := blk_frozen BK9188.out 4
    go_wp2
    go_loopg [3, 20] kj1 (fun kq v3 v20 w' => ∃ (x3_2 : List ByteArray) (x20_2 : Int), v20 = .int .i64 x20_2 ∧ Aside0 (impl_expShow.l0 kq x3_2 l0_4 (l0_4.length : Int) x20_2 a0_0 a0_1 l0_2 a0_3 l0_4 = some r) ∧ Aside0 (kq ≤ kj1) ∧ Aside0 (Kd.R Kd.string 9 w' w.heap.size (fun _ => True) v3 x3_2) ∧ Aside0 (w'.heap[gb9188]? = some (.cells #[.int .i64 a0_0, .string a0_1, (.slice A0_2 l0_2.length c0_2), .int .i64 a0_3, (.slice A0_4 l0_4.length c0_4)] 35 (0, 0))) ∧ Aside0 (Below w.heap.size w w'))
    case atStart => exact ⟨(([] : List ByteArray)), (0), (by first | rfl | (simp; done) | (simp [*]; done)), H', ⟨Nat.le_refl _⟩, ⟨by first | exact Kd.R_nil _ _ _ _ _ | exact Kd.N_nil _ _ _ _ _ | exact Kd.V_nil _ _ _ _ _ | exact Kd.Q_nil _ _ _ _ _ | exact Kd.S_nil _ _ _ _ _⟩, ⟨by (with_reducible repeat (first | refine zN ?_ _ | refine zD ?_ | refine zA ?_ _)); exact BK9188.out⟩, ⟨by repeat (first | (with_reducible first | exact HB.out | apply zB | apply zC | apply zE | refine below_set ?_ GE9188.out) | exact HB.out)⟩⟩
    case round =>
     clear H'
     try clear p2
     try clear c3
     try clear c4
     try clear c4b0
     try clear c4b1
     try clear c7
     try clear hcz5_0
     try clear hcz5_1
     try clear hcz5_2
     try clear hcz5_3
     try clear hcz5_4
     try clear hcz6_0
     try clear hcz6_1
     try clear hcz6_2
     try clear hcz6_3
     try clear hcz6_4
     try clear hcz8_0
     try clear hcz8_1
     try clear hcz8_2
     try clear hcz8_3
     try clear hcz8_4
     try clear hcz9_0
     try clear hcz9_1
     try clear hcz9_2
     try clear hcz9_3
     try clear hcz9_4
     try clear hfz5_0
     try clear hfz5_1
     try clear hfz5_2
     try clear hfz5_3
     try clear hfz5_4
     try clear hfz6_0
     try clear hfz6_1
     try clear hfz6_2
     try clear hfz6_3
     try clear hfz6_4
     try clear hfz8_0
     try clear hfz8_1
     try clear hfz8_2
     try clear hfz8_3
     try clear hfz8_4
     try clear hfz9_0
     try clear hfz9_1
     try clear hfz9_2
     try clear hfz9_3
     try clear hfz9_4
     try clear p2
     obtain ⟨x3_2, x20_2, rfl, HA, HK2, HO_3, BK9188, HB⟩ := hrel
     cases gk with
     | zero => exact absurd HA.out (by simp [impl_expShow.l0])
     | succ k2 =>
      have H := HA.out
      clear HA
      simp only [impl_expShow.l0] at H
      by_cases c10 : x20_2 < (l0_4.length : Int)
      ·rw [if_pos c10] at H
       have c10b0 : decide (x20_2 < (l0_4.length : Int)) = true := decide_eq_true c10
       clear c10
       by_cases c11 : 0 ≤ x20_2
       ·rw [if_pos c11] at H
        have c11b0 : decide (0 ≤ x20_2) = true := decide_eq_true c11
        clear c11
        by_cases c12 : x20_2 < (l0_4.length : Int)
        ·rw [if_pos c12] at H
         have c12b0 : decide (x20_2 < (l0_4.length : Int)) = true := decide_eq_true c12
         clear c12
         replace H := Option.bind_eq_some_iff.mp H
         obtain ⟨t9191, A130, H⟩ := H
         replace H : (if a0_0 = 4 then (if x20_2 = (wrap64 ((l0_4.length : Int) - 1)) then (if 2 + t9191.size ≤ 9223372036854775807 then (if x3_2.length < 8796093022208 then (impl_expShow.l0 k2 (x3_2 ++ [(⟨#[46, 32]⟩ : ByteArray) ++ t9191]) l0_4 (l0_4.length : Int) (wrap64 (x20_2 + 1)) a0_0 a0_1 l0_2 a0_3 l0_4) else (none)) else (none)) else (if x3_2.length < 8796093022208 then (impl_expShow.l0 k2 (x3_2 ++ [t9191]) l0_4 (l0_4.length : Int) (wrap64 (x20_2 + 1)) a0_0 a0_1 l0_2 a0_3 l0_4) else (none))) else (if x3_2.length < 8796093022208 then (impl_expShow.l0 k2 (x3_2 ++ [t9191]) l0_4 (l0_4.length : Int) (wrap64 (x20_2 + 1)) a0_0 a0_1 l0_2 a0_3 l0_4) else (none))) = some r := H
         have A13 := Aq A130
         clear A130
         by_cases c14 : a0_0 = 4
         ·rw [if_pos c14] at H
          have c14b0 : (a0_0 == 4) = true := beq_iff_eq.mpr c14
          have c14b1 : (a0_0 != 4) = false := bne_eq_false_iff_eq.mpr c14
          clear c14
          by_cases c15 : x20_2 = (wrap64 ((l0_4.length : Int) - 1))
          ·rw [if_pos c15] at H
           have c15b0 : (x20_2 == (wrap64 ((l0_4.length : Int) - 1))) = true := beq_iff_eq.mpr c15
           have c15b1 : (x20_2 != (wrap64 ((l0_4.length : Int) - 1))) = false := bne_eq_false_iff_eq.mpr c15
           clear c15
           by_cases c16 : 2 + t9191.size ≤ 9223372036854775807
           ·rw [if_pos c16] at H
            have c16b0 := eq_true c16
            have c16b1 : decide (2 + t9191.size ≤ 9223372036854775807) = true := decide_eq_true c16
            try have c16b2 : (9223372036854775807 < 2 + t9191.size) = False := eq_false (Nat.not_lt.2 c16)
            by_cases c17 : x3_2.length < 8796093022208
            ·rw [if_pos c17] at H
             have LMc17 := Aq c17
             clear c17
             obtain ⟨y9192, hy9192⟩ : ∃ y_ : List ByteArray, y_ = (x3_2 ++ [(⟨#[46, 32]⟩ : ByteArray) ++ t9191]) := ⟨_, rfl⟩
             replace H : (impl_expShow.l0 k2 y9192 l0_4 (l0_4.length : Int) (wrap64 (x20_2 + 1)) a0_0 a0_1 l0_2 a0_3 l0_4) = some r := by first | (rw [hy9192]; with_reducible exact H) | (have H2_ := (Option.bind_some _ _).symm.trans H; rw [hy9192]; with_reducible exact H2_) | (have H2_ := (Option.bind_some _ _).symm.trans H; with_reducible exact H2_) | with_reducible exact H | (rw [hy9192]; exact H) | exact H
             have Ny9192 := Aq hy9192
             clear hy9192
             have H' := Aq H
             clear H
             have p9189 : 0 ≤ (x20_2 : Int) := of_decide_eq_true (by first | (with_reducible assumption) | assumption)
             have q9189 : x20_2 < (l0_4.length : Int) := of_decide_eq_true (by first | (with_reducible assumption) | assumption)
             obtain ⟨ad9189, A9189_2, c9189_2, A9189_4, c9189_4, e9189, hx9189_0, hx9189_1, hx9189_2, hx9189_3, hx9189_4, hl9189_2, hi9189_2, hl9189_4, hi9189_4⟩ := at_T35 HR0_4.out x20_2 p9189 q9189
             cases e9189
             replace hx9189_0 := (HB.out.cell (World.block_lt_of_cell? w _ hx9189_0)).trans hx9189_0
             replace hx9189_1 := (HB.out.cell (World.block_lt_of_cell? w _ hx9189_1)).trans hx9189_1
             replace hx9189_2 := (HB.out.cell (World.block_lt_of_cell? w _ hx9189_2)).trans hx9189_2
             replace hx9189_3 := (HB.out.cell (World.block_lt_of_cell? w _ hx9189_3)).trans hx9189_3
             replace hx9189_4 := (HB.out.cell (World.block_lt_of_cell? w _ hx9189_4)).trans hx9189_4
             have HR9189_2 := Aq hi9189_2
             have HC9189_2 := Aq hl9189_2
             clear hi9189_2 hl9189_2
             have HR9189_4 := Aq hi9189_4
             have HC9189_4 := Aq hl9189_4
             clear hi9189_4 hl9189_4
             replace p9189 := eq_true p9189
             replace q9189 := eq_true q9189
             go_wp2_with (first | ((with_reducible refine gate_dst (N := 5) rfl ?_); (try (refine gate_guard (by rfl) ?_; dsimp only)); refine box_event ?hg (N := 5) ?hd (cs := #[.int .i64 0, .string (⟨#[]⟩ : ByteArray), .slice none 0 0, .int .i64 0, .slice none 0 0]) (t := 35) ?hr ?_; (case hd => rfl); (case hg => rfl); (case hr => first | (go_simp; done) | (go_simp; rfl)); intro gb9190 hg w18 hbox hb; have n0_ := Aq (Kd.R_below (by (with_reducible repeat (first | apply Kd.R_alloc | apply Kd.R_drewN | apply Kd.R_drew)); exact HO_3.out) hb); have n1_ := Aq (blk_below (g := gb9188) (o := .cells #[.int .i64 a0_0, .string a0_1, .slice A0_2 l0_2.length c0_2, .int .i64 a0_3, .slice (some ad9189) l0_4.length c0_4] 35 (0, 0)) (by (with_reducible repeat (first | refine zN ?_ _ | refine zD ?_ | refine zA ?_ _)); exact BK9188.out) hb); have n2_ := Aq (below_step (by repeat (first | (with_reducible first | exact HB.out | apply zB | apply zC | apply zE | refine below_set ?_ GE9188.out) | exact HB.out)) hb); have n3_ := Aq (hbox); have n4_ := Aq ((by rw [hg]; exact (below_size (by repeat (first | (with_reducible first | exact HB.out | apply zB | apply zC | apply zE | refine below_set ?_ GE9188.out) | exact HB.out))) : w.heap.size ≤ gb9190)); have n5_ := Aq ((by rw [hg]; exact (below_size (by repeat (first | (with_reducible first | exact HB.out | apply zB | apply zC | apply zE | refine below_set ?_ GE9188.out) | exact HB.out))) : w.heap.size ≤ gb9190)); have n6_ := Aq ((by rw [hg]; exact Nat.ne_of_lt (blk_lt (g := gb9188) (o := .cells #[.int .i64 a0_0, .string a0_1, .slice A0_2 l0_2.length c0_2, .int .i64 a0_3, .slice (some ad9189) l0_4.length c0_4] 35 (0, 0)) (by (with_reducible repeat (first | refine zN ?_ _ | refine zD ?_ | refine zA ?_ _)); exact BK9188.out)) : gb9188 ≠ gb9190)); have n7_ := Aq ((by rw [hg]; exact Nat.ne_of_gt (blk_lt (g := gb9188) (o := .cells #[.int .i64 a0_0, .string a0_1, .slice A0_2 l0_2.length c0_2, .int .i64 a0_3, .slice (some ad9189) l0_4.length c0_4] 35 (0, 0)) (by (with_reducible repeat (first | refine zN ?_ _ | refine zD ?_ | refine zA ?_ _)); exact BK9188.out)) : gb9190 ≠ gb9188)); clear HO_3 BK9188 HB; have HO_3 := n0_; have BK9188 := n1_; have HB := n2_; have BK9190 := n3_; have GW9190 := n4_; have GE9190 := n5_; have NB9188_9190 := n6_; have NB9190_9188 := n7_; clear n0_ n1_ n2_ n3_ n4_ n5_ n6_ n7_ hb hbox hg; have hnb19 := NB9190_9188.out; have hnc19 := NB9188_9190.out; have hcz20_0 : w18.cell? ⟨gb9190, 0, none⟩ = some (.int .i64 0) := (blk_cell BK9190.out 0).trans rfl; have hcz20_1 : w18.cell? ⟨gb9190, 1, none⟩ = some (.string (⟨#[]⟩ : ByteArray)) := (blk_cell BK9190.out 1).trans rfl; have hcz20_2 : w18.cell? ⟨gb9190, 2, none⟩ = some (.slice none 0 0) := (blk_cell BK9190.out 2).trans rfl; have hcz20_3 : w18.cell? ⟨gb9190, 3, none⟩ = some (.int .i64 0) := (blk_cell BK9190.out 3).trans rfl; have hcz20_4 : w18.cell? ⟨gb9190, 4, none⟩ = some (.slice none 0 0) := (blk_cell BK9190.out 4).trans rfl; have hfz20_0 := blk_frozen BK9190.out 0; have hfz20_1 := blk_frozen BK9190.out 1; have hfz20_2 := blk_frozen BK9190.out 2; have hfz20_3 := blk_frozen BK9190.out 3; have hfz20_4 := blk_frozen BK9190.out 4) | ((with_reducible refine gate_callee (f := 37) rfl ?_); refine goesL_ (some 26) rfl rfl Tryd.func37 (by kernel_rfl) rfl #[.agg #[.int .i64 ((rd_T35 l0_4 x20_2).f0), .string ((rd_T35 l0_4 x20_2).f1), .slice A9189_2 ((rd_T35 l0_4 x20_2).f2).length c9189_2, .int .i64 ((rd_T35 l0_4 x20_2).f3), .slice A9189_4 ((rd_T35 l0_4 x20_2).f4).length c9189_4]] rfl (by (try simp only [List.map_toArray, List.map_cons, List.map_nil]); first | done | rfl | (simp only [List.length_drop, List.length_take]; rfl)) ?_; (with_reducible refine (ih k2 (by have := HJ1.out; have := HK2.out; omega) ((rd_T35 l0_4 x20_2).f0) ((rd_T35 l0_4 x20_2).f1) _ _ ((rd_T35 l0_4 x20_2).f2) ((rd_T35 l0_4 x20_2).f3) _ _ ((rd_T35 l0_4 x20_2).f4) t9191 _ ?side1 ?side2 ?side3 ?side4 A13.out).mono ?_); (case side1 => exact Kd.C_below HR9189_2.out (by repeat (first | (with_reducible first | exact HB.out | apply zB | apply zC | apply zE | refine below_set ?_ GE9188.out | refine below_set ?_ GE9190.out) | exact HB.out))); (case side2 => exact HC9189_2.out); (case side3 => exact Kd.C_below HR9189_4.out (by repeat (first | (with_reducible first | exact HB.out | apply zB | apply zC | apply zE | refine below_set ?_ GE9188.out | refine below_set ?_ GE9190.out) | exact HB.out))); (case side4 => exact HC9189_4.out); rintro e w21 ⟨rfl, hb⟩; refine ⟨_, rfl, ?_⟩; have n0_ := Aq (Kd.R_below (by (with_reducible repeat (first | apply Kd.R_alloc | apply Kd.R_drewN | apply Kd.R_drew)); exact (Kd.R_mono (Kd.R_far (p := ⟨gb9190, 4, none⟩) (Kd.R_far (p := ⟨gb9190, 3, none⟩) (Kd.R_far (p := ⟨gb9190, 2, none⟩) (Kd.R_far (p := ⟨gb9190, 1, none⟩) (Kd.R_far (p := ⟨gb9190, 0, none⟩) (Kd.R_types HO_3.out BK9190.out (by decide)) (fun _ hk => hk.2) (.int .i64 ((rd_T35 l0_4 x20_2).f0))) (fun _ hk => hk.2) (.string ((rd_T35 l0_4 x20_2).f1))) (fun _ hk => hk.2) (.slice A9189_2 ((rd_T35 l0_4 x20_2).f2).length c9189_2)) (fun _ hk => hk.2) (.int .i64 ((rd_T35 l0_4 x20_2).f3))) (fun _ hk => hk.2) (.slice A9189_4 ((rd_T35 l0_4 x20_2).f4).length c9189_4)) (fun _ h_ => h_.1))) hb); have n1_ := Aq (blk_below (g := gb9188) (o := .cells #[.int .i64 a0_0, .string a0_1, .slice A0_2 l0_2.length c0_2, .int .i64 a0_3, .slice (some ad9189) l0_4.length c0_4] 35 (0, 0)) (by (with_reducible repeat (first | refine zN ?_ _ | refine zD ?_ | refine zA ?_ _)); refine blk_far ?_ NB9188_9190.out _; (with_reducible repeat (first | refine zN ?_ _ | refine zD ?_ | refine zA ?_ _)); refine blk_far ?_ NB9188_9190.out _; (with_reducible repeat (first | refine zN ?_ _ | refine zD ?_ | refine zA ?_ _)); refine blk_far ?_ NB9188_9190.out _; (with_reducible repeat (first | refine zN ?_ _ | refine zD ?_ | refine zA ?_ _)); refine blk_far ?_ NB9188_9190.out _; (with_reducible repeat (first | refine zN ?_ _ | refine zD ?_ | refine zA ?_ _)); refine blk_far ?_ NB9188_9190.out _; (with_reducible repeat (first | refine zN ?_ _ | refine zD ?_ | refine zA ?_ _)); exact BK9188.out) hb); have n2_ := Aq (blk_below (g := gb9190) (o := .cells #[.int .i64 ((rd_T35 l0_4 x20_2).f0), .string ((rd_T35 l0_4 x20_2).f1), .slice A9189_2 ((rd_T35 l0_4 x20_2).f2).length c9189_2, .int .i64 ((rd_T35 l0_4 x20_2).f3), .slice A9189_4 ((rd_T35 l0_4 x20_2).f4).length c9189_4] 35 (0, 0)) (by (with_reducible repeat (first | refine zN ?_ _ | refine zD ?_ | refine zA ?_ _)); refine blk_put (cs := #[.int .i64 ((rd_T35 l0_4 x20_2).f0), .string ((rd_T35 l0_4 x20_2).f1), .slice A9189_2 ((rd_T35 l0_4 x20_2).f2).length c9189_2, .int .i64 ((rd_T35 l0_4 x20_2).f3), .slice none 0 0]) ?_ 4 _ rfl; (with_reducible repeat (first | refine zN ?_ _ | refine zD ?_ | refine zA ?_ _)); refine blk_put (cs := #[.int .i64 ((rd_T35 l0_4 x20_2).f0), .string ((rd_T35 l0_4 x20_2).f1), .slice A9189_2 ((rd_T35 l0_4 x20_2).f2).length c9189_2, .int .i64 0, .slice none 0 0]) ?_ 3 _ rfl; (with_reducible repeat (first | refine zN ?_ _ | refine zD ?_ | refine zA ?_ _)); refine blk_put (cs := #[.int .i64 ((rd_T35 l0_4 x20_2).f0), .string ((rd_T35 l0_4 x20_2).f1), .slice none 0 0, .int .i64 0, .slice none 0 0]) ?_ 2 _ rfl; (with_reducible repeat (first | refine zN ?_ _ | refine zD ?_ | refine zA ?_ _)); refine blk_put (cs := #[.int .i64 ((rd_T35 l0_4 x20_2).f0), .string (⟨#[]⟩ : ByteArray), .slice none 0 0, .int .i64 0, .slice none 0 0]) ?_ 1 _ rfl; (with_reducible repeat (first | refine zN ?_ _ | refine zD ?_ | refine zA ?_ _)); refine blk_put (cs := #[.int .i64 0, .string (⟨#[]⟩ : ByteArray), .slice none 0 0, .int .i64 0, .slice none 0 0]) ?_ 0 _ rfl; (with_reducible repeat (first | refine zN ?_ _ | refine zD ?_ | refine zA ?_ _)); exact BK9190.out) hb); have n3_ := Aq (below_step (by repeat (first | (with_reducible first | exact HB.out | apply zB | apply zC | apply zE | refine below_set ?_ GE9188.out | refine below_set ?_ GE9190.out) | exact HB.out)) hb); clear HO_3 BK9188 BK9190 HB; have HO_3 := n0_; have BK9188 := n1_; have BK9190 := n2_; have HB := n3_; clear n0_ n1_ n2_ n3_; (try clear hb); (try clear hb2); (try clear hk); (try clear hi); have hcz22_0 : w21.cell? ⟨gb9188, 0, none⟩ = some (.int .i64 a0_0) := (blk_cell BK9188.out 0).trans rfl; have hcz22_1 : w21.cell? ⟨gb9188, 1, none⟩ = some (.string a0_1) := (blk_cell BK9188.out 1).trans rfl; have hcz22_2 : w21.cell? ⟨gb9188, 2, none⟩ = some (.slice A0_2 l0_2.length c0_2) := (blk_cell BK9188.out 2).trans rfl; have hcz22_3 : w21.cell? ⟨gb9188, 3, none⟩ = some (.int .i64 a0_3) := (blk_cell BK9188.out 3).trans rfl; have hcz22_4 : w21.cell? ⟨gb9188, 4, none⟩ = some (.slice (some ad9189) l0_4.length c0_4) := (blk_cell BK9188.out 4).trans rfl; have hfz22_0 := blk_frozen BK9188.out 0; have hfz22_1 := blk_frozen BK9188.out 1; have hfz22_2 := blk_frozen BK9188.out 2; have hfz22_3 := blk_frozen BK9188.out 3; have hfz22_4 := blk_frozen BK9188.out 4) | ((with_reducible refine gate_builtin (b := .append) (xs := #[.tmp 40, .tmp 42]) rfl ?_); (try (refine gate_guard (by rfl) ?_; dsimp only)); at_builtin; refine Kd.R_append Kd.string (w0 := w) w.heap.size rfl (.tmp 40) (.tmp 42) 69 9 (.string ⟨#[]⟩) 16 rfl Tryd.underlying69 info9 rfl (by decide) (by omega) u3 x3_2 ((⟨#[46, 32]⟩ : ByteArray) ++ t9191) [.string ((⟨#[46, 32]⟩ : ByteArray) ++ t9191)] (fun _ => True) (fun _ => False) rfl rfl ?aP (fun _ hk => hk.elim) ?aF ?aO ?aB ?aS ?aL ?_; (case aP => exact rfl); (case aB => exact (by repeat (first | (with_reducible first | exact HB.out | apply zB | apply zC | apply zE | refine below_set ?_ GE9188.out | refine below_set ?_ GE9190.out) | exact HB.out))); (case aF => exact (fun _ _ => trivial)); (case aO => exact (by (with_reducible repeat (first | apply Kd.R_alloc | apply Kd.R_drewN | apply Kd.R_drew)); exact HO_3.out)); (case aS => exact (below_size (by repeat (first | (with_reducible first | exact HB.out | apply zB | apply zC | apply zE | refine below_set ?_ GE9188.out | refine below_set ?_ GE9190.out) | exact HB.out)))); (case aL => have := LMc17.out; omega); intro v9193 w23 ho hb hg hat; rw [← Ny9192.out] at ho; have n0_ := Aq (blk_grown (g := gb9188) (o := .cells #[.int .i64 a0_0, .string a0_1, .slice A0_2 l0_2.length c0_2, .int .i64 a0_3, .slice (some ad9189) l0_4.length c0_4] 35 (0, 0)) (by (with_reducible repeat (first | refine zN ?_ _ | refine zD ?_ | refine zA ?_ _)); exact BK9188.out) hg (Kd.R_ne HO_3.out BK9188.out (by decide))); have n1_ := Aq (blk_grown (g := gb9190) (o := .cells #[.int .i64 ((rd_T35 l0_4 x20_2).f0), .string ((rd_T35 l0_4 x20_2).f1), .slice A9189_2 ((rd_T35 l0_4 x20_2).f2).length c9189_2, .int .i64 ((rd_T35 l0_4 x20_2).f3), .slice A9189_4 ((rd_T35 l0_4 x20_2).f4).length c9189_4] 35 (0, 0)) (by (with_reducible repeat (first | refine zN ?_ _ | refine zD ?_ | refine zA ?_ _)); exact BK9190.out) hg (Kd.R_ne HO_3.out BK9190.out (by decide))); have n2_ := Aq (hb); have n3_ := Aq (ho); clear BK9188 BK9190 HB HO_3; have BK9188 := n0_; have BK9190 := n1_; have HB := n2_; have HO9194 := n3_; clear n0_ n1_ n2_ n3_ ho hb hg hat))
             go_roundg k2
             case measure => have := HJ1.out; have := HK2.out; omega
             case rel => exact ⟨(y9192), (wrap64 (x20_2 + 1)), (by first | rfl | (simp; done) | (simp [*]; done)), H', ⟨by have := HJ1.out; have := HK2.out; omega⟩, ⟨by (with_reducible repeat (first | apply Kd.R_alloc | apply Kd.R_drewN | apply Kd.R_drew)); exact HO9194.out⟩, ⟨by (with_reducible repeat (first | refine zN ?_ _ | refine zD ?_ | refine zA ?_ _)); exact BK9188.out⟩, ⟨by repeat (first | (with_reducible first | exact HB.out | apply zB | apply zC | apply zE | refine below_set ?_ GE9188.out | refine below_set ?_ GE9190.out) | exact HB.out)⟩⟩
            ·rw [if_neg c17] at H
             exact absurd H (by simp)
           ·rw [if_neg c16] at H
            exact absurd H (by simp)
          ·rw [if_neg c15] at H
           have c15b0 : (x20_2 == (wrap64 ((l0_4.length : Int) - 1))) = false := beq_eq_false_iff_ne.mpr c15
           have c15b1 : (x20_2 != (wrap64 ((l0_4.length : Int) - 1))) = true := bne_iff_ne.mpr c15
           by_cases c24 : x3_2.length < 8796093022208
           ·rw [if_pos c24] at H
            have LMc24 := Aq c24
            clear c24
            obtain ⟨y9195, hy9195⟩ : ∃ y_ : List ByteArray, y_ = (x3_2 ++ [t9191]) := ⟨_, rfl⟩
            replace H : (impl_expShow.l0 k2 y9195 l0_4 (l0_4.length : Int) (wrap64 (x20_2 + 1)) a0_0 a0_1 l0_2 a0_3 l0_4) = some r := by first | (rw [hy9195]; with_reducible exact H) | (have H2_ := (Option.bind_some _ _).symm.trans H; rw [hy9195]; with_reducible exact H2_) | (have H2_ := (Option.bind_some _ _).symm.trans H; with_reducible exact H2_) | with_reducible exact H | (rw [hy9195]; exact H) | exact H
            have Ny9195 := Aq hy9195
            clear hy9195
            have H' := Aq H
            clear H
            have p9189 : 0 ≤ (x20_2 : Int) := of_decide_eq_true (by first | (with_reducible assumption) | assumption)
            have q9189 : x20_2 < (l0_4.length : Int) := of_decide_eq_true (by first | (with_reducible assumption) | assumption)
            obtain ⟨ad9189, A9189_2, c9189_2, A9189_4, c9189_4, e9189, hx9189_0, hx9189_1, hx9189_2, hx9189_3, hx9189_4, hl9189_2, hi9189_2, hl9189_4, hi9189_4⟩ := at_T35 HR0_4.out x20_2 p9189 q9189
            cases e9189
            replace hx9189_0 := (HB.out.cell (World.block_lt_of_cell? w _ hx9189_0)).trans hx9189_0
            replace hx9189_1 := (HB.out.cell (World.block_lt_of_cell? w _ hx9189_1)).trans hx9189_1
            replace hx9189_2 := (HB.out.cell (World.block_lt_of_cell? w _ hx9189_2)).trans hx9189_2
            replace hx9189_3 := (HB.out.cell (World.block_lt_of_cell? w _ hx9189_3)).trans hx9189_3
            replace hx9189_4 := (HB.out.cell (World.block_lt_of_cell? w _ hx9189_4)).trans hx9189_4
            have HR9189_2 := Aq hi9189_2
            have HC9189_2 := Aq hl9189_2
            clear hi9189_2 hl9189_2
            have HR9189_4 := Aq hi9189_4
            have HC9189_4 := Aq hl9189_4
            clear hi9189_4 hl9189_4
            replace p9189 := eq_true p9189
            replace q9189 := eq_true q9189
            go_wp2_with (first | ((with_reducible refine gate_dst (N := 5) rfl ?_); (try (refine gate_guard (by rfl) ?_; dsimp only)); refine box_event ?hg (N := 5) ?hd (cs := #[.int .i64 0, .string (⟨#[]⟩ : ByteArray), .slice none 0 0, .int .i64 0, .slice none 0 0]) (t := 35) ?hr ?_; (case hd => rfl); (case hg => rfl); (case hr => first | (go_simp; done) | (go_simp; rfl)); intro gb9190 hg w25 hbox hb; have n0_ := Aq (Kd.R_below (by (with_reducible repeat (first | apply Kd.R_alloc | apply Kd.R_drewN | apply Kd.R_drew)); exact HO_3.out) hb); have n1_ := Aq (blk_below (g := gb9188) (o := .cells #[.int .i64 a0_0, .string a0_1, .slice A0_2 l0_2.length c0_2, .int .i64 a0_3, .slice (some ad9189) l0_4.length c0_4] 35 (0, 0)) (by (with_reducible repeat (first | refine zN ?_ _ | refine zD ?_ | refine zA ?_ _)); exact BK9188.out) hb); have n2_ := Aq (below_step (by repeat (first | (with_reducible first | exact HB.out | apply zB | apply zC | apply zE | refine below_set ?_ GE9188.out) | exact HB.out)) hb); have n3_ := Aq (hbox); have n4_ := Aq ((by rw [hg]; exact (below_size (by repeat (first | (with_reducible first | exact HB.out | apply zB | apply zC | apply zE | refine below_set ?_ GE9188.out) | exact HB.out))) : w.heap.size ≤ gb9190)); have n5_ := Aq ((by rw [hg]; exact (below_size (by repeat (first | (with_reducible first | exact HB.out | apply zB | apply zC | apply zE | refine below_set ?_ GE9188.out) | exact HB.out))) : w.heap.size ≤ gb9190)); have n6_ := Aq ((by rw [hg]; exact Nat.ne_of_lt (blk_lt (g := gb9188) (o := .cells #[.int .i64 a0_0, .string a0_1, .slice A0_2 l0_2.length c0_2, .int .i64 a0_3, .slice (some ad9189) l0_4.length c0_4] 35 (0, 0)) (by (with_reducible repeat (first | refine zN ?_ _ | refine zD ?_ | refine zA ?_ _)); exact BK9188.out)) : gb9188 ≠ gb9190)); have n7_ := Aq ((by rw [hg]; exact Nat.ne_of_gt (blk_lt (g := gb9188) (o := .cells #[.int .i64 a0_0, .string a0_1, .slice A0_2 l0_2.length c0_2, .int .i64 a0_3, .slice (some ad9189) l0_4.length c0_4] 35 (0, 0)) (by (with_reducible repeat (first | refine zN ?_ _ | refine zD ?_ | refine zA ?_ _)); exact BK9188.out)) : gb9190 ≠ gb9188)); clear HO_3 BK9188 HB; have HO_3 := n0_; have BK9188 := n1_; have HB := n2_; have BK9190 := n3_; have GW9190 := n4_; have GE9190 := n5_; have NB9188_9190 := n6_; have NB9190_9188 := n7_; clear n0_ n1_ n2_ n3_ n4_ n5_ n6_ n7_ hb hbox hg; have hnb26 := NB9190_9188.out; have hnc26 := NB9188_9190.out; have hcz27_0 : w25.cell? ⟨gb9190, 0, none⟩ = some (.int .i64 0) := (blk_cell BK9190.out 0).trans rfl; have hcz27_1 : w25.cell? ⟨gb9190, 1, none⟩ = some (.string (⟨#[]⟩ : ByteArray)) := (blk_cell BK9190.out 1).trans rfl; have hcz27_2 : w25.cell? ⟨gb9190, 2, none⟩ = some (.slice none 0 0) := (blk_cell BK9190.out 2).trans rfl; have hcz27_3 : w25.cell? ⟨gb9190, 3, none⟩ = some (.int .i64 0) := (blk_cell BK9190.out 3).trans rfl; have hcz27_4 : w25.cell? ⟨gb9190, 4, none⟩ = some (.slice none 0 0) := (blk_cell BK9190.out 4).trans rfl; have hfz27_0 := blk_frozen BK9190.out 0; have hfz27_1 := blk_frozen BK9190.out 1; have hfz27_2 := blk_frozen BK9190.out 2; have hfz27_3 := blk_frozen BK9190.out 3; have hfz27_4 := blk_frozen BK9190.out 4) | ((with_reducible refine gate_callee (f := 37) rfl ?_); refine goesL_ (some 26) rfl rfl Tryd.func37 (by kernel_rfl) rfl #[.agg #[.int .i64 ((rd_T35 l0_4 x20_2).f0), .string ((rd_T35 l0_4 x20_2).f1), .slice A9189_2 ((rd_T35 l0_4 x20_2).f2).length c9189_2, .int .i64 ((rd_T35 l0_4 x20_2).f3), .slice A9189_4 ((rd_T35 l0_4 x20_2).f4).length c9189_4]] rfl (by (try simp only [List.map_toArray, List.map_cons, List.map_nil]); first | done | rfl | (simp only [List.length_drop, List.length_take]; rfl)) ?_; (with_reducible refine (ih k2 (by have := HJ1.out; have := HK2.out; omega) ((rd_T35 l0_4 x20_2).f0) ((rd_T35 l0_4 x20_2).f1) _ _ ((rd_T35 l0_4 x20_2).f2) ((rd_T35 l0_4 x20_2).f3) _ _ ((rd_T35 l0_4 x20_2).f4) t9191 _ ?side1 ?side2 ?side3 ?side4 A13.out).mono ?_); (case side1 => exact Kd.C_below HR9189_2.out (by repeat (first | (with_reducible first | exact HB.out | apply zB | apply zC | apply zE | refine below_set ?_ GE9188.out | refine below_set ?_ GE9190.out) | exact HB.out))); (case side2 => exact HC9189_2.out); (case side3 => exact Kd.C_below HR9189_4.out (by repeat (first | (with_reducible first | exact HB.out | apply zB | apply zC | apply zE | refine below_set ?_ GE9188.out | refine below_set ?_ GE9190.out) | exact HB.out))); (case side4 => exact HC9189_4.out); rintro e w28 ⟨rfl, hb⟩; refine ⟨_, rfl, ?_⟩; have n0_ := Aq (Kd.R_below (by (with_reducible repeat (first | apply Kd.R_alloc | apply Kd.R_drewN | apply Kd.R_drew)); exact (Kd.R_mono (Kd.R_far (p := ⟨gb9190, 4, none⟩) (Kd.R_far (p := ⟨gb9190, 3, none⟩) (Kd.R_far (p := ⟨gb9190, 2, none⟩) (Kd.R_far (p := ⟨gb9190, 1, none⟩) (Kd.R_far (p := ⟨gb9190, 0, none⟩) (Kd.R_types HO_3.out BK9190.out (by decide)) (fun _ hk => hk.2) (.int .i64 ((rd_T35 l0_4 x20_2).f0))) (fun _ hk => hk.2) (.string ((rd_T35 l0_4 x20_2).f1))) (fun _ hk => hk.2) (.slice A9189_2 ((rd_T35 l0_4 x20_2).f2).length c9189_2)) (fun _ hk => hk.2) (.int .i64 ((rd_T35 l0_4 x20_2).f3))) (fun _ hk => hk.2) (.slice A9189_4 ((rd_T35 l0_4 x20_2).f4).length c9189_4)) (fun _ h_ => h_.1))) hb); have n1_ := Aq (blk_below (g := gb9188) (o := .cells #[.int .i64 a0_0, .string a0_1, .slice A0_2 l0_2.length c0_2, .int .i64 a0_3, .slice (some ad9189) l0_4.length c0_4] 35 (0, 0)) (by (with_reducible repeat (first | refine zN ?_ _ | refine zD ?_ | refine zA ?_ _)); refine blk_far ?_ NB9188_9190.out _; (with_reducible repeat (first | refine zN ?_ _ | refine zD ?_ | refine zA ?_ _)); refine blk_far ?_ NB9188_9190.out _; (with_reducible repeat (first | refine zN ?_ _ | refine zD ?_ | refine zA ?_ _)); refine blk_far ?_ NB9188_9190.out _; (with_reducible repeat (first | refine zN ?_ _ | refine zD ?_ | refine zA ?_ _)); refine blk_far ?_ NB9188_9190.out _; (with_reducible repeat (first | refine zN ?_ _ | refine zD ?_ | refine zA ?_ _)); refine blk_far ?_ NB9188_9190.out _; (with_reducible repeat (first | refine zN ?_ _ | refine zD ?_ | refine zA ?_ _)); exact BK9188.out) hb); have n2_ := Aq (blk_below (g := gb9190) (o := .cells #[.int .i64 ((rd_T35 l0_4 x20_2).f0), .string ((rd_T35 l0_4 x20_2).f1), .slice A9189_2 ((rd_T35 l0_4 x20_2).f2).length c9189_2, .int .i64 ((rd_T35 l0_4 x20_2).f3), .slice A9189_4 ((rd_T35 l0_4 x20_2).f4).length c9189_4] 35 (0, 0)) (by (with_reducible repeat (first | refine zN ?_ _ | refine zD ?_ | refine zA ?_ _)); refine blk_put (cs := #[.int .i64 ((rd_T35 l0_4 x20_2).f0), .string ((rd_T35 l0_4 x20_2).f1), .slice A9189_2 ((rd_T35 l0_4 x20_2).f2).length c9189_2, .int .i64 ((rd_T35 l0_4 x20_2).f3), .slice none 0 0]) ?_ 4 _ rfl; (with_reducible repeat (first | refine zN ?_ _ | refine zD ?_ | refine zA ?_ _)); refine blk_put (cs := #[.int .i64 ((rd_T35 l0_4 x20_2).f0), .string ((rd_T35 l0_4 x20_2).f1), .slice A9189_2 ((rd_T35 l0_4 x20_2).f2).length c9189_2, .int .i64 0, .slice none 0 0]) ?_ 3 _ rfl; (with_reducible repeat (first | refine zN ?_ _ | refine zD ?_ | refine zA ?_ _)); refine blk_put (cs := #[.int .i64 ((rd_T35 l0_4 x20_2).f0), .string ((rd_T35 l0_4 x20_2).f1), .slice none 0 0, .int .i64 0, .slice none 0 0]) ?_ 2 _ rfl; (with_reducible repeat (first | refine zN ?_ _ | refine zD ?_ | refine zA ?_ _)); refine blk_put (cs := #[.int .i64 ((rd_T35 l0_4 x20_2).f0), .string (⟨#[]⟩ : ByteArray), .slice none 0 0, .int .i64 0, .slice none 0 0]) ?_ 1 _ rfl; (with_reducible repeat (first | refine zN ?_ _ | refine zD ?_ | refine zA ?_ _)); refine blk_put (cs := #[.int .i64 0, .string (⟨#[]⟩ : ByteArray), .slice none 0 0, .int .i64 0, .slice none 0 0]) ?_ 0 _ rfl; (with_reducible repeat (first | refine zN ?_ _ | refine zD ?_ | refine zA ?_ _)); exact BK9190.out) hb); have n3_ := Aq (below_step (by repeat (first | (with_reducible first | exact HB.out | apply zB | apply zC | apply zE | refine below_set ?_ GE9188.out | refine below_set ?_ GE9190.out) | exact HB.out)) hb); clear HO_3 BK9188 BK9190 HB; have HO_3 := n0_; have BK9188 := n1_; have BK9190 := n2_; have HB := n3_; clear n0_ n1_ n2_ n3_; (try clear hb); (try clear hb2); (try clear hk); (try clear hi); have hcz29_0 : w28.cell? ⟨gb9188, 0, none⟩ = some (.int .i64 a0_0) := (blk_cell BK9188.out 0).trans rfl; have hcz29_1 : w28.cell? ⟨gb9188, 1, none⟩ = some (.string a0_1) := (blk_cell BK9188.out 1).trans rfl; have hcz29_2 : w28.cell? ⟨gb9188, 2, none⟩ = some (.slice A0_2 l0_2.length c0_2) := (blk_cell BK9188.out 2).trans rfl; have hcz29_3 : w28.cell? ⟨gb9188, 3, none⟩ = some (.int .i64 a0_3) := (blk_cell BK9188.out 3).trans rfl; have hcz29_4 : w28.cell? ⟨gb9188, 4, none⟩ = some (.slice (some ad9189) l0_4.length c0_4) := (blk_cell BK9188.out 4).trans rfl; have hfz29_0 := blk_frozen BK9188.out 0; have hfz29_1 := blk_frozen BK9188.out 1; have hfz29_2 := blk_frozen BK9188.out 2; have hfz29_3 := blk_frozen BK9188.out 3; have hfz29_4 := blk_frozen BK9188.out 4) | ((with_reducible refine gate_builtin (b := .append) (xs := #[.tmp 40, .tmp 42]) rfl ?_); (try (refine gate_guard (by rfl) ?_; dsimp only)); at_builtin; refine Kd.R_append Kd.string (w0 := w) w.heap.size rfl (.tmp 40) (.tmp 42) 69 9 (.string ⟨#[]⟩) 16 rfl Tryd.underlying69 info9 rfl (by decide) (by omega) u3 x3_2 t9191 [.string t9191] (fun _ => True) (fun _ => False) rfl rfl ?aP (fun _ hk => hk.elim) ?aF ?aO ?aB ?aS ?aL ?_; (case aP => exact rfl); (case aB => exact (by repeat (first | (with_reducible first | exact HB.out | apply zB | apply zC | apply zE | refine below_set ?_ GE9188.out | refine below_set ?_ GE9190.out) | exact HB.out))); (case aF => exact (fun _ _ => trivial)); (case aO => exact (by (with_reducible repeat (first | apply Kd.R_alloc | apply Kd.R_drewN | apply Kd.R_drew)); exact HO_3.out)); (case aS => exact (below_size (by repeat (first | (with_reducible first | exact HB.out | apply zB | apply zC | apply zE | refine below_set ?_ GE9188.out | refine below_set ?_ GE9190.out) | exact HB.out)))); (case aL => have := LMc24.out; omega); intro v9196 w30 ho hb hg hat; rw [← Ny9195.out] at ho; have n0_ := Aq (blk_grown (g := gb9188) (o := .cells #[.int .i64 a0_0, .string a0_1, .slice A0_2 l0_2.length c0_2, .int .i64 a0_3, .slice (some ad9189) l0_4.length c0_4] 35 (0, 0)) (by (with_reducible repeat (first | refine zN ?_ _ | refine zD ?_ | refine zA ?_ _)); exact BK9188.out) hg (Kd.R_ne HO_3.out BK9188.out (by decide))); have n1_ := Aq (blk_grown (g := gb9190) (o := .cells #[.int .i64 ((rd_T35 l0_4 x20_2).f0), .string ((rd_T35 l0_4 x20_2).f1), .slice A9189_2 ((rd_T35 l0_4 x20_2).f2).length c9189_2, .int .i64 ((rd_T35 l0_4 x20_2).f3), .slice A9189_4 ((rd_T35 l0_4 x20_2).f4).length c9189_4] 35 (0, 0)) (by (with_reducible repeat (first | refine zN ?_ _ | refine zD ?_ | refine zA ?_ _)); exact BK9190.out) hg (Kd.R_ne HO_3.out BK9190.out (by decide))); have n2_ := Aq (hb); have n3_ := Aq (ho); clear BK9188 BK9190 HB HO_3; have BK9188 := n0_; have BK9190 := n1_; have HB := n2_; have HO9197 := n3_; clear n0_ n1_ n2_ n3_ ho hb hg hat))
            go_roundg k2
            case measure => have := HJ1.out; have := HK2.out; omega
            case rel => exact ⟨(y9195), (wrap64 (x20_2 + 1)), (by first | rfl | (simp; done) | (simp [*]; done)), H', ⟨by have := HJ1.out; have := HK2.out; omega⟩, ⟨by (with_reducible repeat (first | apply Kd.R_alloc | apply Kd.R_drewN | apply Kd.R_drew)); exact HO9197.out⟩, ⟨by (with_reducible repeat (first | refine zN ?_ _ | refine zD ?_ | refine zA ?_ _)); exact BK9188.out⟩, ⟨by repeat (first | (with_reducible first | exact HB.out | apply zB | apply zC | apply zE | refine below_set ?_ GE9188.out | refine below_set ?_ GE9190.out) | exact HB.out)⟩⟩
           ·rw [if_neg c24] at H
            exact absurd H (by simp)
         ·rw [if_neg c14] at H
          have c14b0 : (a0_0 == 4) = false := beq_eq_false_iff_ne.mpr c14
          have c14b1 : (a0_0 != 4) = true := bne_iff_ne.mpr c14
          by_cases c31 : x3_2.length < 8796093022208
          ·rw [if_pos c31] at H
           have LMc31 := Aq c31
           clear c31
           obtain ⟨y9198, hy9198⟩ : ∃ y_ : List ByteArray, y_ = (x3_2 ++ [t9191]) := ⟨_, rfl⟩
           replace H : (impl_expShow.l0 k2 y9198 l0_4 (l0_4.length : Int) (wrap64 (x20_2 + 1)) a0_0 a0_1 l0_2 a0_3 l0_4) = some r := by first | (rw [hy9198]; with_reducible exact H) | (have H2_ := (Option.bind_some _ _).symm.trans H; rw [hy9198]; with_reducible exact H2_) | (have H2_ := (Option.bind_some _ _).symm.trans H; with_reducible exact H2_) | with_reducible exact H | (rw [hy9198]; exact H) | exact H
           have Ny9198 := Aq hy9198
           clear hy9198
           have H' := Aq H
           clear H
           have p9189 : 0 ≤ (x20_2 : Int) := of_decide_eq_true (by first | (with_reducible assumption) | assumption)
           have q9189 : x20_2 < (l0_4.length : Int) := of_decide_eq_true (by first | (with_reducible assumption) | assumption)
           obtain ⟨ad9189, A9189_2, c9189_2, A9189_4, c9189_4, e9189, hx9189_0, hx9189_1, hx9189_2, hx9189_3, hx9189_4, hl9189_2, hi9189_2, hl9189_4, hi9189_4⟩ := at_T35 HR0_4.out x20_2 p9189 q9189
           cases e9189
           replace hx9189_0 := (HB.out.cell (World.block_lt_of_cell? w _ hx9189_0)).trans hx9189_0
           replace hx9189_1 := (HB.out.cell (World.block_lt_of_cell? w _ hx9189_1)).trans hx9189_1
           replace hx9189_2 := (HB.out.cell (World.block_lt_of_cell? w _ hx9189_2)).trans hx9189_2
           replace hx9189_3 := (HB.out.cell (World.block_lt_of_cell? w _ hx9189_3)).trans hx9189_3
           replace hx9189_4 := (HB.out.cell (World.block_lt_of_cell? w _ hx9189_4)).trans hx9189_4
           have HR9189_2 := Aq hi9189_2
           have HC9189_2 := Aq hl9189_2
           clear hi9189_2 hl9189_2
           have HR9189_4 := Aq hi9189_4
           have HC9189_4 := Aq hl9189_4
           clear hi9189_4 hl9189_4
           replace p9189 := eq_true p9189
           replace q9189 := eq_true q9189
           go_wp2_with (first | ((with_reducible refine gate_dst (N := 5) rfl ?_); (try (refine gate_guard (by rfl) ?_; dsimp only)); refine box_event ?hg (N := 5) ?hd (cs := #[.int .i64 0, .string (⟨#[]⟩ : ByteArray), .slice none 0 0, .int .i64 0, .slice none 0 0]) (t := 35) ?hr ?_; (case hd => rfl); (case hg => rfl); (case hr => first | (go_simp; done) | (go_simp; rfl)); intro gb9190 hg w32 hbox hb; have n0_ := Aq (Kd.R_below (by (with_reducible repeat (first | apply Kd.R_alloc | apply Kd.R_drewN | apply Kd.R_drew)); exact HO_3.out) hb); have n1_ := Aq (blk_below (g := gb9188) (o := .cells #[.int .i64 a0_0, .string a0_1, .slice A0_2 l0_2.length c0_2, .int .i64 a0_3, .slice (some ad9189) l0_4.length c0_4] 35 (0, 0)) (by (with_reducible repeat (first | refine zN ?_ _ | refine zD ?_ | refine zA ?_ _)); exact BK9188.out) hb); have n2_ := Aq (below_step (by repeat (first | (with_reducible first | exact HB.out | apply zB | apply zC | apply zE | refine below_set ?_ GE9188.out) | exact HB.out)) hb); have n3_ := Aq (hbox); have n4_ := Aq ((by rw [hg]; exact (below_size (by repeat (first | (with_reducible first | exact HB.out | apply zB | apply zC | apply zE | refine below_set ?_ GE9188.out) | exact HB.out))) : w.heap.size ≤ gb9190)); have n5_ := Aq ((by rw [hg]; exact (below_size (by repeat (first | (with_reducible first | exact HB.out | apply zB | apply zC | apply zE | refine below_set ?_ GE9188.out) | exact HB.out))) : w.heap.size ≤ gb9190)); have n6_ := Aq ((by rw [hg]; exact Nat.ne_of_lt (blk_lt (g := gb9188) (o := .cells #[.int .i64 a0_0, .string a0_1, .slice A0_2 l0_2.length c0_2, .int .i64 a0_3, .slice (some ad9189) l0_4.length c0_4] 35 (0, 0)) (by (with_reducible repeat (first | refine zN ?_ _ | refine zD ?_ | refine zA ?_ _)); exact BK9188.out)) : gb9188 ≠ gb9190)); have n7_ := Aq ((by rw [hg]; exact Nat.ne_of_gt (blk_lt (g := gb9188) (o := .cells #[.int .i64 a0_0, .string a0_1, .slice A0_2 l0_2.length c0_2, .int .i64 a0_3, .slice (some ad9189) l0_4.length c0_4] 35 (0, 0)) (by (with_reducible repeat (first | refine zN ?_ _ | refine zD ?_ | refine zA ?_ _)); exact BK9188.out)) : gb9190 ≠ gb9188)); clear HO_3 BK9188 HB; have HO_3 := n0_; have BK9188 := n1_; have HB := n2_; have BK9190 := n3_; have GW9190 := n4_; have GE9190 := n5_; have NB9188_9190 := n6_; have NB9190_9188 := n7_; clear n0_ n1_ n2_ n3_ n4_ n5_ n6_ n7_ hb hbox hg; have hnb33 := NB9190_9188.out; have hnc33 := NB9188_9190.out; have hcz34_0 : w32.cell? ⟨gb9190, 0, none⟩ = some (.int .i64 0) := (blk_cell BK9190.out 0).trans rfl; have hcz34_1 : w32.cell? ⟨gb9190, 1, none⟩ = some (.string (⟨#[]⟩ : ByteArray)) := (blk_cell BK9190.out 1).trans rfl; have hcz34_2 : w32.cell? ⟨gb9190, 2, none⟩ = some (.slice none 0 0) := (blk_cell BK9190.out 2).trans rfl; have hcz34_3 : w32.cell? ⟨gb9190, 3, none⟩ = some (.int .i64 0) := (blk_cell BK9190.out 3).trans rfl; have hcz34_4 : w32.cell? ⟨gb9190, 4, none⟩ = some (.slice none 0 0) := (blk_cell BK9190.out 4).trans rfl; have hfz34_0 := blk_frozen BK9190.out 0; have hfz34_1 := blk_frozen BK9190.out 1; have hfz34_2 := blk_frozen BK9190.out 2; have hfz34_3 := blk_frozen BK9190.out 3; have hfz34_4 := blk_frozen BK9190.out 4) | ((with_reducible refine gate_callee (f := 37) rfl ?_); refine goesL_ (some 26) rfl rfl Tryd.func37 (by kernel_rfl) rfl #[.agg #[.int .i64 ((rd_T35 l0_4 x20_2).f0), .string ((rd_T35 l0_4 x20_2).f1), .slice A9189_2 ((rd_T35 l0_4 x20_2).f2).length c9189_2, .int .i64 ((rd_T35 l0_4 x20_2).f3), .slice A9189_4 ((rd_T35 l0_4 x20_2).f4).length c9189_4]] rfl (by (try simp only [List.map_toArray, List.map_cons, List.map_nil]); first | done | rfl | (simp only [List.length_drop, List.length_take]; rfl)) ?_; (with_reducible refine (ih k2 (by have := HJ1.out; have := HK2.out; omega) ((rd_T35 l0_4 x20_2).f0) ((rd_T35 l0_4 x20_2).f1) _ _ ((rd_T35 l0_4 x20_2).f2) ((rd_T35 l0_4 x20_2).f3) _ _ ((rd_T35 l0_4 x20_2).f4) t9191 _ ?side1 ?side2 ?side3 ?side4 A13.out).mono ?_); (case side1 => exact Kd.C_below HR9189_2.out (by repeat (first | (with_reducible first | exact HB.out | apply zB | apply zC | apply zE | refine below_set ?_ GE9188.out | refine below_set ?_ GE9190.out) | exact HB.out))); (case side2 => exact HC9189_2.out); (case side3 => exact Kd.C_below HR9189_4.out (by repeat (first | (with_reducible first | exact HB.out | apply zB | apply zC | apply zE | refine below_set ?_ GE9188.out | refine below_set ?_ GE9190.out) | exact HB.out))); (case side4 => exact HC9189_4.out); rintro e w35 ⟨rfl, hb⟩; refine ⟨_, rfl, ?_⟩; have n0_ := Aq (Kd.R_below (by (with_reducible repeat (first | apply Kd.R_alloc | apply Kd.R_drewN | apply Kd.R_drew)); exact (Kd.R_mono (Kd.R_far (p := ⟨gb9190, 4, none⟩) (Kd.R_far (p := ⟨gb9190, 3, none⟩) (Kd.R_far (p := ⟨gb9190, 2, none⟩) (Kd.R_far (p := ⟨gb9190, 1, none⟩) (Kd.R_far (p := ⟨gb9190, 0, none⟩) (Kd.R_types HO_3.out BK9190.out (by decide)) (fun _ hk => hk.2) (.int .i64 ((rd_T35 l0_4 x20_2).f0))) (fun _ hk => hk.2) (.string ((rd_T35 l0_4 x20_2).f1))) (fun _ hk => hk.2) (.slice A9189_2 ((rd_T35 l0_4 x20_2).f2).length c9189_2)) (fun _ hk => hk.2) (.int .i64 ((rd_T35 l0_4 x20_2).f3))) (fun _ hk => hk.2) (.slice A9189_4 ((rd_T35 l0_4 x20_2).f4).length c9189_4)) (fun _ h_ => h_.1))) hb); have n1_ := Aq (blk_below (g := gb9188) (o := .cells #[.int .i64 a0_0, .string a0_1, .slice A0_2 l0_2.length c0_2, .int .i64 a0_3, .slice (some ad9189) l0_4.length c0_4] 35 (0, 0)) (by (with_reducible repeat (first | refine zN ?_ _ | refine zD ?_ | refine zA ?_ _)); refine blk_far ?_ NB9188_9190.out _; (with_reducible repeat (first | refine zN ?_ _ | refine zD ?_ | refine zA ?_ _)); refine blk_far ?_ NB9188_9190.out _; (with_reducible repeat (first | refine zN ?_ _ | refine zD ?_ | refine zA ?_ _)); refine blk_far ?_ NB9188_9190.out _; (with_reducible repeat (first | refine zN ?_ _ | refine zD ?_ | refine zA ?_ _)); refine blk_far ?_ NB9188_9190.out _; (with_reducible repeat (first | refine zN ?_ _ | refine zD ?_ | refine zA ?_ _)); refine blk_far ?_ NB9188_9190.out _; (with_reducible repeat (first | refine zN ?_ _ | refine zD ?_ | refine zA ?_ _)); exact BK9188.out) hb); have n2_ := Aq (blk_below (g := gb9190) (o := .cells #[.int .i64 ((rd_T35 l0_4 x20_2).f0), .string ((rd_T35 l0_4 x20_2).f1), .slice A9189_2 ((rd_T35 l0_4 x20_2).f2).length c9189_2, .int .i64 ((rd_T35 l0_4 x20_2).f3), .slice A9189_4 ((rd_T35 l0_4 x20_2).f4).length c9189_4] 35 (0, 0)) (by (with_reducible repeat (first | refine zN ?_ _ | refine zD ?_ | refine zA ?_ _)); refine blk_put (cs := #[.int .i64 ((rd_T35 l0_4 x20_2).f0), .string ((rd_T35 l0_4 x20_2).f1), .slice A9189_2 ((rd_T35 l0_4 x20_2).f2).length c9189_2, .int .i64 ((rd_T35 l0_4 x20_2).f3), .slice none 0 0]) ?_ 4 _ rfl; (with_reducible repeat (first | refine zN ?_ _ | refine zD ?_ | refine zA ?_ _)); refine blk_put (cs := #[.int .i64 ((rd_T35 l0_4 x20_2).f0), .string ((rd_T35 l0_4 x20_2).f1), .slice A9189_2 ((rd_T35 l0_4 x20_2).f2).length c9189_2, .int .i64 0, .slice none 0 0]) ?_ 3 _ rfl; (with_reducible repeat (first | refine zN ?_ _ | refine zD ?_ | refine zA ?_ _)); refine blk_put (cs := #[.int .i64 ((rd_T35 l0_4 x20_2).f0), .string ((rd_T35 l0_4 x20_2).f1), .slice none 0 0, .int .i64 0, .slice none 0 0]) ?_ 2 _ rfl; (with_reducible repeat (first | refine zN ?_ _ | refine zD ?_ | refine zA ?_ _)); refine blk_put (cs := #[.int .i64 ((rd_T35 l0_4 x20_2).f0), .string (⟨#[]⟩ : ByteArray), .slice none 0 0, .int .i64 0, .slice none 0 0]) ?_ 1 _ rfl; (with_reducible repeat (first | refine zN ?_ _ | refine zD ?_ | refine zA ?_ _)); refine blk_put (cs := #[.int .i64 0, .string (⟨#[]⟩ : ByteArray), .slice none 0 0, .int .i64 0, .slice none 0 0]) ?_ 0 _ rfl; (with_reducible repeat (first | refine zN ?_ _ | refine zD ?_ | refine zA ?_ _)); exact BK9190.out) hb); have n3_ := Aq (below_step (by repeat (first | (with_reducible first | exact HB.out | apply zB | apply zC | apply zE | refine below_set ?_ GE9188.out | refine below_set ?_ GE9190.out) | exact HB.out)) hb); clear HO_3 BK9188 BK9190 HB; have HO_3 := n0_; have BK9188 := n1_; have BK9190 := n2_; have HB := n3_; clear n0_ n1_ n2_ n3_; (try clear hb); (try clear hb2); (try clear hk); (try clear hi); have hcz36_0 : w35.cell? ⟨gb9188, 0, none⟩ = some (.int .i64 a0_0) := (blk_cell BK9188.out 0).trans rfl; have hcz36_1 : w35.cell? ⟨gb9188, 1, none⟩ = some (.string a0_1) := (blk_cell BK9188.out 1).trans rfl; have hcz36_2 : w35.cell? ⟨gb9188, 2, none⟩ = some (.slice A0_2 l0_2.length c0_2) := (blk_cell BK9188.out 2).trans rfl; have hcz36_3 : w35.cell? ⟨gb9188, 3, none⟩ = some (.int .i64 a0_3) := (blk_cell BK9188.out 3).trans rfl; have hcz36_4 : w35.cell? ⟨gb9188, 4, none⟩ = some (.slice (some ad9189) l0_4.length c0_4) := (blk_cell BK9188.out 4).trans rfl; have hfz36_0 := blk_frozen BK9188.out 0; have hfz36_1 := blk_frozen BK9188.out 1; have hfz36_2 := blk_frozen BK9188.out 2; have hfz36_3 := blk_frozen BK9188.out 3; have hfz36_4 := blk_frozen BK9188.out 4) | ((with_reducible refine gate_builtin (b := .append) (xs := #[.tmp 40, .tmp 42]) rfl ?_); (try (refine gate_guard (by rfl) ?_; dsimp only)); at_builtin; refine Kd.R_append Kd.string (w0 := w) w.heap.size rfl (.tmp 40) (.tmp 42) 69 9 (.string ⟨#[]⟩) 16 rfl Tryd.underlying69 info9 rfl (by decide) (by omega) u3 x3_2 t9191 [.string t9191] (fun _ => True) (fun _ => False) rfl rfl ?aP (fun _ hk => hk.elim) ?aF ?aO ?aB ?aS ?aL ?_; (case aP => exact rfl); (case aB => exact (by repeat (first | (with_reducible first | exact HB.out | apply zB | apply zC | apply zE | refine below_set ?_ GE9188.out | refine below_set ?_ GE9190.out) | exact HB.out))); (case aF => exact (fun _ _ => trivial)); (case aO => exact (by (with_reducible repeat (first | apply Kd.R_alloc | apply Kd.R_drewN | apply Kd.R_drew)); exact HO_3.out)); (case aS => exact (below_size (by repeat (first | (with_reducible first | exact HB.out | apply zB | apply zC | apply zE | refine below_set ?_ GE9188.out | refine below_set ?_ GE9190.out) | exact HB.out)))); (case aL => have := LMc31.out; omega); intro v9199 w37 ho hb hg hat; rw [← Ny9198.out] at ho; have n0_ := Aq (blk_grown (g := gb9188) (o := .cells #[.int .i64 a0_0, .string a0_1, .slice A0_2 l0_2.length c0_2, .int .i64 a0_3, .slice (some ad9189) l0_4.length c0_4] 35 (0, 0)) (by (with_reducible repeat (first | refine zN ?_ _ | refine zD ?_ | refine zA ?_ _)); exact BK9188.out) hg (Kd.R_ne HO_3.out BK9188.out (by decide))); have n1_ := Aq (blk_grown (g := gb9190) (o := .cells #[.int .i64 ((rd_T35 l0_4 x20_2).f0), .string ((rd_T35 l0_4 x20_2).f1), .slice A9189_2 ((rd_T35 l0_4 x20_2).f2).length c9189_2, .int .i64 ((rd_T35 l0_4 x20_2).f3), .slice A9189_4 ((rd_T35 l0_4 x20_2).f4).length c9189_4] 35 (0, 0)) (by (with_reducible repeat (first | refine zN ?_ _ | refine zD ?_ | refine zA ?_ _)); exact BK9190.out) hg (Kd.R_ne HO_3.out BK9190.out (by decide))); have n2_ := Aq (hb); have n3_ := Aq (ho); clear BK9188 BK9190 HB HO_3; have BK9188 := n0_; have BK9190 := n1_; have HB := n2_; have HO9200 := n3_; clear n0_ n1_ n2_ n3_ ho hb hg hat))
           go_roundg k2
           case measure => have := HJ1.out; have := HK2.out; omega
           case rel => exact ⟨(y9198), (wrap64 (x20_2 + 1)), (by first | rfl | (simp; done) | (simp [*]; done)), H', ⟨by have := HJ1.out; have := HK2.out; omega⟩, ⟨by (with_reducible repeat (first | apply Kd.R_alloc | apply Kd.R_drewN | apply Kd.R_drew)); exact HO9200.out⟩, ⟨by (with_reducible repeat (first | refine zN ?_ _ | refine zD ?_ | refine zA ?_ _)); exact BK9188.out⟩, ⟨by repeat (first | (with_reducible first | exact HB.out | apply zB | apply zC | apply zE | refine below_set ?_ GE9188.out | refine below_set ?_ GE9190.out) | exact HB.out)⟩⟩
          ·rw [if_neg c31] at H
           exact absurd H (by simp)
        ·rw [if_neg c12] at H
         exact absurd H (by simp)
       ·rw [if_neg c11] at H
        exact absurd H (by simp)
      ·rw [if_neg c10] at H
       have c10b0 : decide (x20_2 < (l0_4.length : Int)) = false := decide_eq_false c10
       clear c10
       replace H := Option.bind_eq_some_iff.mp H
       obtain ⟨t9201, A380, H⟩ := H
       replace H : (if 1 + t9201.size ≤ 9223372036854775807 then (if ((⟨#[40]⟩ : ByteArray) ++ t9201).size + 1 ≤ 9223372036854775807 then (some (((⟨#[40]⟩ : ByteArray) ++ t9201) ++ (⟨#[41]⟩ : ByteArray))) else (none)) else (none)) = some r := H
       have A38 := Aq A380
       clear A380
       by_cases c39 : 1 + t9201.size ≤ 9223372036854775807
       ·rw [if_pos c39] at H
        have c39b0 := eq_true c39
        have c39b1 : decide (1 + t9201.size ≤ 9223372036854775807) = true := decide_eq_true c39
        try have c39b2 : (9223372036854775807 < 1 + t9201.size) = False := eq_false (Nat.not_lt.2 c39)
        by_cases c40 : ((⟨#[40]⟩ : ByteArray) ++ t9201).size + 1 ≤ 9223372036854775807
        ·rw [if_pos c40] at H
         have c40b0 := eq_true c40
         have c40b1 : decide (((⟨#[40]⟩ : ByteArray) ++ t9201).size + 1 ≤ 9223372036854775807) = true := decide_eq_true c40
         try have c40b2 : (9223372036854775807 < ((⟨#[40]⟩ : ByteArray) ++ t9201).size + 1) = False := eq_false (Nat.not_lt.2 c40)
         try have c40b3 : (9223372036854775807 < 1 + t9201.size + 1) = False := eq_false (by have h_ := c40; simp only [ByteArray.size_append] at h_; have : (⟨#[40]⟩ : ByteArray).size = 1 := rfl; omega)
         obtain rfl := Option.some.inj H
         obtain ⟨Ao41, co41, eo41⟩ := Kd.R_slice HO_3.out
         subst eo41
         go_wp2_with (first | ((with_reducible refine gate_callee (f := 59) rfl ?_); refine goesL_ (some 46) rfl rfl Tryd.func59 (by kernel_rfl) rfl #[.slice Ao41 x3_2.length co41, .string (⟨#[32]⟩ : ByteArray)] rfl (by (try simp only [List.map_toArray, List.map_cons, List.map_nil]); first | done | rfl | (simp only [List.length_drop, List.length_take]; rfl)) ?_; (with_reducible refine (strings_Join.calls _ _ x3_2 (⟨#[32]⟩ : ByteArray) t9201 _ ?side1 ?side2 A38.out).mono ?_); (case side1 => repeat (first | exact (Kd.R_reads' HO_3.out).2.2 | (with_reducible refine Kd.C_alloc ?_ _) | (with_reducible refine Kd.C_drewN ?_ _) | (with_reducible refine Kd.C_drew ?_))); (case side2 => exact (Kd.R_reads' HO_3.out).2.1); rintro e w42 ⟨rfl, hb⟩; refine ⟨_, rfl, ?_⟩; have n0_ := Aq (Kd.R_below (by (with_reducible repeat (first | apply Kd.R_alloc | apply Kd.R_drewN | apply Kd.R_drew)); exact HO_3.out) hb); have n1_ := Aq (blk_below (g := gb9188) (o := .cells #[.int .i64 a0_0, .string a0_1, .slice A0_2 l0_2.length c0_2, .int .i64 a0_3, .slice A0_4 l0_4.length c0_4] 35 (0, 0)) (by (with_reducible repeat (first | refine zN ?_ _ | refine zD ?_ | refine zA ?_ _)); exact BK9188.out) hb); have n2_ := Aq (below_step (by repeat (first | (with_reducible first | exact HB.out | apply zB | apply zC | apply zE | refine below_set ?_ GE9188.out) | exact HB.out)) hb); clear HO_3 BK9188 HB; have HO_3 := n0_; have BK9188 := n1_; have HB := n2_; clear n0_ n1_ n2_; (try clear hb); (try clear hb2); (try clear hk); (try clear hi)))
         go_ret
         exact ⟨by first | rfl | (simp [errW_none, errW_some] <;> rfl) | (simp [*, errW_none, errW_some] <;> rfl), by repeat (first | (with_reducible first | exact HB.out | apply zB | apply zC | apply zE | refine below_set ?_ GE9188.out) | exact HB.out)⟩
        ·rw [if_neg c40] at H
         exact absurd H (by simp)
       ·rw [if_neg c39] at H
        exact absurd H (by simp)
def impl_ExpShow.f (k : Nat) (a0_0 : Int) (a0_1 : ByteArray) (l0_2 : List Int) (a0_3 : Int) (l0_4 : List (S35)) : Option (ByteArray) := (impl_ExpFormOk.f k a0_0 a0_1 l0_2 a0_3 l0_4).bind fun t9203 => (if t9203 = true then ((impl_expShow.f k a0_0 a0_1 l0_2 a0_3 l0_4).bind fun t9204 => (some t9204)) else (some (⟨#[]⟩ : ByteArray)))
theorem impl_ExpShow.mono : ∀ a0 a1 a2 a3 a4 k, LeO (impl_ExpShow.f k a0 a1 a2 a3 a4) (impl_ExpShow.f (k + 1) a0 a1 a2 a3 a4) := by
 intro a0 a1 a2 a3 a4 k
 unfold impl_ExpShow.f
 repeat' first
   | (with_reducible exact impl_ExpFormOk.mono _ _ _ _ _ _)
   | (with_reducible exact impl_expShow.mono _ _ _ _ _ _)
   | (with_reducible exact LeO.refl _)
   | (with_reducible exact LeO.none _)
   | (with_reducible refine LeO.ite ?_ ?_)
   | (with_reducible refine LeO.bind ?_ (fun _ => ?_))
   | exact impl_ExpFormOk.mono _ _ _ _ _ _
   | exact impl_expShow.mono _ _ _ _ _ _
   | exact LeO.none _
   | refine LeO.ite ?_ ?_
   | refine LeO.bind ?_ (fun _ => ?_)
set_option maxHeartbeats 8000000 in
set_option maxRecDepth 100000 in
theorem impl_ExpShow.calls (k : Nat) (a0_0 : Int) (a0_1 : ByteArray) (A0_2 : Option Addr) (c0_2 : Nat) (l0_2 : List Int) (a0_3 : Int) (A0_4 : Option Addr) (c0_4 : Nat) (l0_4 : List (S35)) (r : ByteArray) (w : World) (hr0_2 : Kd.C (Kd.int .i64) w A0_2 l0_2.length l0_2) (hc0_2 : l0_2.length ≤ c0_2) (hr0_4 : Kd.C k35 w A0_4 l0_4.length l0_4) (hc0_4 : l0_4.length ≤ c0_4) (h : impl_ExpShow.f k a0_0 a0_1 l0_2 a0_3 l0_4 = some r) :
  Calls Tryd.prog 17 #[.agg #[.int .i64 a0_0, .string a0_1, .slice A0_2 l0_2.length c0_2, .int .i64 a0_3, .slice A0_4 l0_4.length c0_4]] w fun e w' => e = .returned (.string r) ∧ Below w.heap.size w w' := by
 have hu35 := Tryd.underlying35
 have HR0_2 := Aq hr0_2
 have HC0_2 := Aq hc0_2
 clear hr0_2 hc0_2
 have HR0_4 := Aq hr0_4
 have HC0_4 := Aq hc0_4
 clear hr0_4 hc0_4
 have HB := Aq (Below.refl w.heap.size w)
 have H : ((impl_ExpFormOk.f k a0_0 a0_1 l0_2 a0_3 l0_4).bind fun t9203 => (if t9203 = true then ((impl_expShow.f k a0_0 a0_1 l0_2 a0_3 l0_4).bind fun t9204 => (some t9204)) else (some (⟨#[]⟩ : ByteArray)))) = some r := h
 clear h
 replace H := Option.bind_eq_some_iff.mp H
 obtain ⟨t9203, A20, H⟩ := H
 replace H : (if t9203 = true then ((impl_expShow.f k a0_0 a0_1 l0_2 a0_3 l0_4).bind fun t9204 => (some t9204)) else (some (⟨#[]⟩ : ByteArray))) = some r := H
 have A2 := Aq A20
 clear A20
 by_cases c3 : t9203 = true
 ·subst c3
  have H1 : ((impl_expShow.f k a0_0 a0_1 l0_2 a0_3 l0_4).bind fun t9204 => (some t9204)) = some r := by rw [if_pos rfl] at H; exact H
  clear H
  have H := H1
  clear H1
  replace H := Option.bind_eq_some_iff.mp H
  obtain ⟨t9204, A40, H⟩ := H
  replace H : (some t9204) = some r := H
  have A4 := Aq A40
  clear A40
  obtain rfl := Option.some.inj H
  go_enter Tryd.func17, Tryd.ntmps17
  go_wp2_with (first | ((with_reducible refine gate_dst (N := 1) rfl ?_); refine box_event ?hg (N := 1) ?hd (cs := #[.int .i64 a0_0, .string a0_1, .slice A0_2 l0_2.length c0_2, .int .i64 a0_3, .slice A0_4 l0_4.length c0_4]) (t := 35) ?hr ?_; (case hd => rfl); (case hg => rfl); (case hr => first | (go_simp; done) | (go_simp; rfl)); intro gb9202 hg w5 hbox hb; have n0_ := Aq (below_step (by repeat (first | (with_reducible first | exact HB.out | apply zB | apply zC | apply zE) | exact HB.out)) hb); have n1_ := Aq (hbox); have n2_ := Aq ((by rw [hg]; exact (below_size (by repeat (first | (with_reducible first | exact HB.out | apply zB | apply zC | apply zE) | exact HB.out))) : w.heap.size ≤ gb9202)); have n3_ := Aq ((by rw [hg]; exact (below_size (by repeat (first | (with_reducible first | exact HB.out | apply zB | apply zC | apply zE) | exact HB.out))) : w.heap.size ≤ gb9202)); clear HB; have HB := n0_; have BK9202 := n1_; have GW9202 := n2_; have GE9202 := n3_; clear n0_ n1_ n2_ n3_ hb hbox hg; have hcz6_0 : w5.cell? ⟨gb9202, 0, none⟩ = some (.int .i64 a0_0) := (blk_cell BK9202.out 0).trans rfl; have hcz6_1 : w5.cell? ⟨gb9202, 1, none⟩ = some (.string a0_1) := (blk_cell BK9202.out 1).trans rfl; have hcz6_2 : w5.cell? ⟨gb9202, 2, none⟩ = some (.slice A0_2 l0_2.length c0_2) := (blk_cell BK9202.out 2).trans rfl; have hcz6_3 : w5.cell? ⟨gb9202, 3, none⟩ = some (.int .i64 a0_3) := (blk_cell BK9202.out 3).trans rfl; have hcz6_4 : w5.cell? ⟨gb9202, 4, none⟩ = some (.slice A0_4 l0_4.length c0_4) := (blk_cell BK9202.out 4).trans rfl; have hfz6_0 := blk_frozen BK9202.out 0; have hfz6_1 := blk_frozen BK9202.out 1; have hfz6_2 := blk_frozen BK9202.out 2; have hfz6_3 := blk_frozen BK9202.out 3; have hfz6_4 := blk_frozen BK9202.out 4) | ((with_reducible refine gate_callee (f := 14) rfl ?_); refine goesL_ (some 4) rfl rfl Tryd.func14 (by kernel_rfl) rfl #[.agg #[.int .i64 a0_0, .string a0_1, .slice A0_2 l0_2.length c0_2, .int .i64 a0_3, .slice A0_4 l0_4.length c0_4]] rfl (by (try simp only [List.map_toArray, List.map_cons, List.map_nil]); first | done | rfl | (simp only [List.length_drop, List.length_take]; rfl)) ?_; (with_reducible refine (impl_ExpFormOk.calls k a0_0 a0_1 _ _ l0_2 a0_3 _ _ l0_4 true _ ?side1 ?side2 ?side3 ?side4 A2.out).mono ?_); (case side1 => repeat (first | exact (Kd.C_below HR0_2.out HB.out) | (with_reducible refine Kd.C_alloc ?_ _) | (with_reducible refine Kd.C_drewN ?_ _) | (with_reducible refine Kd.C_drew ?_))); (case side2 => exact HC0_2.out); (case side3 => repeat (first | exact (Kd.C_below HR0_4.out HB.out) | (with_reducible refine Kd.C_alloc ?_ _) | (with_reducible refine Kd.C_drewN ?_ _) | (with_reducible refine Kd.C_drew ?_))); (case side4 => exact HC0_4.out); rintro e w7 ⟨rfl, hb⟩; refine ⟨_, rfl, ?_⟩; have n0_ := Aq (blk_below (g := gb9202) (o := .cells #[.int .i64 a0_0, .string a0_1, .slice A0_2 l0_2.length c0_2, .int .i64 a0_3, .slice A0_4 l0_4.length c0_4] 35 (0, 0)) (by (with_reducible repeat (first | refine zN ?_ _ | refine zD ?_ | refine zA ?_ _)); exact BK9202.out) hb); have n1_ := Aq (below_step (by repeat (first | (with_reducible first | exact HB.out | apply zB | apply zC | apply zE | refine below_set ?_ GE9202.out) | exact HB.out)) hb); clear BK9202 HB; have BK9202 := n0_; have HB := n1_; clear n0_ n1_; (try clear hb); (try clear hb2); (try clear hk); (try clear hi); have hcz8_0 : w7.cell? ⟨gb9202, 0, none⟩ = some (.int .i64 a0_0) := (blk_cell BK9202.out 0).trans rfl; have hcz8_1 : w7.cell? ⟨gb9202, 1, none⟩ = some (.string a0_1) := (blk_cell BK9202.out 1).trans rfl; have hcz8_2 : w7.cell? ⟨gb9202, 2, none⟩ = some (.slice A0_2 l0_2.length c0_2) := (blk_cell BK9202.out 2).trans rfl; have hcz8_3 : w7.cell? ⟨gb9202, 3, none⟩ = some (.int .i64 a0_3) := (blk_cell BK9202.out 3).trans rfl; have hcz8_4 : w7.cell? ⟨gb9202, 4, none⟩ = some (.slice A0_4 l0_4.length c0_4) := (blk_cell BK9202.out 4).trans rfl; have hfz8_0 := blk_frozen BK9202.out 0; have hfz8_1 := blk_frozen BK9202.out 1; have hfz8_2 := blk_frozen BK9202.out 2; have hfz8_3 := blk_frozen BK9202.out 3; have hfz8_4 := blk_frozen BK9202.out 4) | ((with_reducible refine gate_callee (f := 37) rfl ?_); refine goesL_ (some 7) rfl rfl Tryd.func37 (by kernel_rfl) rfl #[.agg #[.int .i64 a0_0, .string a0_1, .slice A0_2 l0_2.length c0_2, .int .i64 a0_3, .slice A0_4 l0_4.length c0_4]] rfl (by (try simp only [List.map_toArray, List.map_cons, List.map_nil]); first | done | rfl | (simp only [List.length_drop, List.length_take]; rfl)) ?_; (with_reducible refine (impl_expShow.calls k a0_0 a0_1 _ _ l0_2 a0_3 _ _ l0_4 t9204 _ ?side1 ?side2 ?side3 ?side4 A4.out).mono ?_); (case side1 => repeat (first | exact (Kd.C_below HR0_2.out HB.out) | (with_reducible refine Kd.C_alloc ?_ _) | (with_reducible refine Kd.C_drewN ?_ _) | (with_reducible refine Kd.C_drew ?_))); (case side2 => exact HC0_2.out); (case side3 => repeat (first | exact (Kd.C_below HR0_4.out HB.out) | (with_reducible refine Kd.C_alloc ?_ _) | (with_reducible refine Kd.C_drewN ?_ _) | (with_reducible refine Kd.C_drew ?_))); (case side4 => exact HC0_4.out); rintro e w9 ⟨rfl, hb⟩; refine ⟨_, rfl, ?_⟩; have n0_ := Aq (blk_below (g := gb9202) (o := .cells #[.int .i64 a0_0, .string a0_1, .slice A0_2 l0_2.length c0_2, .int .i64 a0_3, .slice A0_4 l0_4.length c0_4] 35 (0, 0)) (by (with_reducible repeat (first | refine zN ?_ _ | refine zD ?_ | refine zA ?_ _)); exact BK9202.out) hb); have n1_ := Aq (below_step (by repeat (first | (with_reducible first | exact HB.out | apply zB | apply zC | apply zE | refine below_set ?_ GE9202.out) | exact HB.out)) hb); clear BK9202 HB; have BK9202 := n0_; have HB := n1_; clear n0_ n1_; (try clear hb); (try clear hb2); (try clear hk); (try clear hi)))
  go_ret
  exact ⟨by first | rfl | (simp [errW_none, errW_some] <;> rfl) | (simp [*, errW_none, errW_some] <;> rfl), by repeat (first | (with_reducible first | exact HB.out | apply zB | apply zC | apply zE | refine below_set ?_ GE9202.out) | exact HB.out)⟩
 ·replace c3 := Bool.eq_false_iff.mpr c3
  subst c3
  have H1 : (some (⟨#[]⟩ : ByteArray)) = some r := by rw [if_neg (show ¬ (false = true) by decide)] at H; exact H
  clear H
  have H := H1
  clear H1
  obtain rfl := Option.some.inj H
  go_enter Tryd.func17, Tryd.ntmps17
  go_wp2_with (first | ((with_reducible refine gate_dst (N := 1) rfl ?_); refine box_event ?hg (N := 1) ?hd (cs := #[.int .i64 a0_0, .string a0_1, .slice A0_2 l0_2.length c0_2, .int .i64 a0_3, .slice A0_4 l0_4.length c0_4]) (t := 35) ?hr ?_; (case hd => rfl); (case hg => rfl); (case hr => first | (go_simp; done) | (go_simp; rfl)); intro gb9202 hg w10 hbox hb; have n0_ := Aq (below_step (by repeat (first | (with_reducible first | exact HB.out | apply zB | apply zC | apply zE) | exact HB.out)) hb); have n1_ := Aq (hbox); have n2_ := Aq ((by rw [hg]; exact (below_size (by repeat (first | (with_reducible first | exact HB.out | apply zB | apply zC | apply zE) | exact HB.out))) : w.heap.size ≤ gb9202)); have n3_ := Aq ((by rw [hg]; exact (below_size (by repeat (first | (with_reducible first | exact HB.out | apply zB | apply zC | apply zE) | exact HB.out))) : w.heap.size ≤ gb9202)); clear HB; have HB := n0_; have BK9202 := n1_; have GW9202 := n2_; have GE9202 := n3_; clear n0_ n1_ n2_ n3_ hb hbox hg; have hcz11_0 : w10.cell? ⟨gb9202, 0, none⟩ = some (.int .i64 a0_0) := (blk_cell BK9202.out 0).trans rfl; have hcz11_1 : w10.cell? ⟨gb9202, 1, none⟩ = some (.string a0_1) := (blk_cell BK9202.out 1).trans rfl; have hcz11_2 : w10.cell? ⟨gb9202, 2, none⟩ = some (.slice A0_2 l0_2.length c0_2) := (blk_cell BK9202.out 2).trans rfl; have hcz11_3 : w10.cell? ⟨gb9202, 3, none⟩ = some (.int .i64 a0_3) := (blk_cell BK9202.out 3).trans rfl; have hcz11_4 : w10.cell? ⟨gb9202, 4, none⟩ = some (.slice A0_4 l0_4.length c0_4) := (blk_cell BK9202.out 4).trans rfl; have hfz11_0 := blk_frozen BK9202.out 0; have hfz11_1 := blk_frozen BK9202.out 1; have hfz11_2 := blk_frozen BK9202.out 2; have hfz11_3 := blk_frozen BK9202.out 3; have hfz11_4 := blk_frozen BK9202.out 4) | ((with_reducible refine gate_callee (f := 14) rfl ?_); refine goesL_ (some 4) rfl rfl Tryd.func14 (by kernel_rfl) rfl #[.agg #[.int .i64 a0_0, .string a0_1, .slice A0_2 l0_2.length c0_2, .int .i64 a0_3, .slice A0_4 l0_4.length c0_4]] rfl (by (try simp only [List.map_toArray, List.map_cons, List.map_nil]); first | done | rfl | (simp only [List.length_drop, List.length_take]; rfl)) ?_; (with_reducible refine (impl_ExpFormOk.calls k a0_0 a0_1 _ _ l0_2 a0_3 _ _ l0_4 false _ ?side1 ?side2 ?side3 ?side4 A2.out).mono ?_); (case side1 => repeat (first | exact (Kd.C_below HR0_2.out HB.out) | (with_reducible refine Kd.C_alloc ?_ _) | (with_reducible refine Kd.C_drewN ?_ _) | (with_reducible refine Kd.C_drew ?_))); (case side2 => exact HC0_2.out); (case side3 => repeat (first | exact (Kd.C_below HR0_4.out HB.out) | (with_reducible refine Kd.C_alloc ?_ _) | (with_reducible refine Kd.C_drewN ?_ _) | (with_reducible refine Kd.C_drew ?_))); (case side4 => exact HC0_4.out); rintro e w12 ⟨rfl, hb⟩; refine ⟨_, rfl, ?_⟩; have n0_ := Aq (blk_below (g := gb9202) (o := .cells #[.int .i64 a0_0, .string a0_1, .slice A0_2 l0_2.length c0_2, .int .i64 a0_3, .slice A0_4 l0_4.length c0_4] 35 (0, 0)) (by (with_reducible repeat (first | refine zN ?_ _ | refine zD ?_ | refine zA ?_ _)); exact BK9202.out) hb); have n1_ := Aq (below_step (by repeat (first | (with_reducible first | exact HB.out | apply zB | apply zC | apply zE | refine below_set ?_ GE9202.out) | exact HB.out)) hb); clear BK9202 HB; have BK9202 := n0_; have HB := n1_; clear n0_ n1_; (try clear hb); (try clear hb2); (try clear hk); (try clear hi)))
  go_ret
  exact ⟨by first | rfl | (simp [errW_none, errW_some] <;> rfl) | (simp [*, errW_none, errW_some] <;> rfl), by repeat (first | (with_reducible first | exact HB.out | apply zB | apply zC | apply zE | refine below_set ?_ GE9202.out) | exact HB.out)⟩
end Go.Proofs.YtmdhanegafclmaaDoor.PFnExactExpShow
