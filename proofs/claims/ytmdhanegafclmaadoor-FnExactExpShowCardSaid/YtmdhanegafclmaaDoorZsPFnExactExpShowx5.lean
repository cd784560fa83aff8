/- PFnExactExpShowx5 of the seat's texts, cut down by prune.py to what the theorem comes to. -/
import Derived.Test.YtmdhanegafclmaaDoorZsPFnExactExpShowx0
import Derived.Test.YtmdhanegafclmaaDoorZsPFnExactExpShowx3
import Derived.Test.YtmdhanegafclmaaDoorZsPFnExactExpShowx4
namespace Go.Proofs.YtmdhanegafclmaaDoor.PFnExactExpShow
open Go.RowKit Go.Proofs.YtmdhanegafclmaaDoorW.PrintWords Go.Proofs.YtmdhanegafclmaaDoorW.PrintLast Go.Proofs.YtmdhanegafclmaaDoorW.PrintMore
attribute [local go_sem] max2_int min2_int max_two min_two max_three min_three max_four min_four
set_option linter.unusedVariables false
set_option linter.unusedSimpArgs false
mutual
def spec_l1Ok.j0 : Nat → Int → Bool → Int → ByteArray → List Int → Int → List (S35) → Option (Bool)
 | 0, _, _, _, _, _, _, _ => none
 | k + 1, x1, x64, x9133000, x9133001, x9133002, x9133003, x9133004 => if x64 = true then (if x9133001.toList = ([] : List UInt8) then (if x9133003 = 0 then (if (x9133002.length : Int) > 0 then (some false) else (spec_l1Ok.l0 k x1 0 x9133000 x9133001 x9133002 x9133003 x9133004)) else (some false)) else (some false)) else (some false)
def spec_l1Ok.l0 : Nat → Int → Int → Int → ByteArray → List Int → Int → List (S35) → Option (Bool)
 | 0, _, _, _, _, _, _, _ => none
 | k + 1, x1, x5, x9133000, x9133001, x9133002, x9133003, x9133004 => if x5 < (x9133004.length : Int) then (if 0 ≤ x5 then ((spec_l1Ok.f k ((rd_T35 x9133004 x5).f0) ((rd_T35 x9133004 x5).f1) ((rd_T35 x9133004 x5).f2) ((rd_T35 x9133004 x5).f3) ((rd_T35 x9133004 x5).f4) (wrap64 (x1 + 1))).bind fun t9137 => (if t9137 = true then (spec_l1Ok.l0 k x1 (wrap64 (x5 + 1)) x9133000 x9133001 x9133002 x9133003 x9133004) else (some false))) else (none)) else (if x9133000 = 3 then (some true) else (if (x9133004.length : Int) > 1 then (if 0 ≤ (wrap64 ((x9133004.length : Int) - 1)) then (if (wrap64 ((x9133004.length : Int) - 1)) < (x9133004.length : Int) then (if ((rd_T35 x9133004 (wrap64 ((x9133004.length : Int) - 1))).f0) = 1 then (some true) else (some (((rd_T35 x9133004 (wrap64 ((x9133004.length : Int) - 1))).f0) == 2))) else (none)) else (none)) else (some false)))
def spec_l1Ok.f : Nat → Int → ByteArray → List Int → Int → List (S35) → Int → Option (Bool)
 | 0, _, _, _, _, _, _ => none
 | k + 1, a0_0, a0_1, l0_2, a0_3, l0_4, a1 => if a1 > 60 then (some false) else (if a0_0 = 1 then ((spec_l1IdOk.f k a0_1).bind fun t9133 => (if t9133 = true then (if (a0_1.size : Int) ≤ 40 then (if a0_3 ≥ 0 then ((spec_l1ScopesOk.f k l0_2).bind fun t9134 => (if t9134 = true then (some ((l0_4.length : Int) == 0)) else (some false))) else (some false)) else (some false)) else (some false))) else (if a0_0 = 2 then ((spec_l1AtomOk.f k a0_1).bind fun t9135 => (if t9135 = true then (if (a0_1.size : Int) ≤ 40 then (if a0_3 = 0 then (some ((wrap64 ((l0_2.length : Int) + (l0_4.length : Int))) == 0)) else (some false)) else (some false)) else (some false))) else (if a0_0 = 3 then (spec_l1Ok.j0 k a1 (a0_0 == 3) a0_0 a0_1 l0_2 a0_3 l0_4) else (spec_l1Ok.j0 k a1 (a0_0 == 4) a0_0 a0_1 l0_2 a0_3 l0_4))))
end
theorem spec_l1Ok.mono_l : ∀ k, (∀ y0 y1 y2 y3 y4 y5, LeO (spec_l1Ok.f k y0 y1 y2 y3 y4 y5) (spec_l1Ok.f (k + 1) y0 y1 y2 y3 y4 y5)) ∧ (∀ y0 y1 y2 y3 y4 y5 y6, LeO (spec_l1Ok.j0 k y0 y1 y2 y3 y4 y5 y6) (spec_l1Ok.j0 (k + 1) y0 y1 y2 y3 y4 y5 y6)) ∧ (∀ y0 y1 y2 y3 y4 y5 y6, LeO (spec_l1Ok.l0 k y0 y1 y2 y3 y4 y5 y6) (spec_l1Ok.l0 (k + 1) y0 y1 y2 y3 y4 y5 y6))
 | 0 => ⟨fun _ _ _ _ _ _ r h => by simp [spec_l1Ok.f] at h, fun _ _ _ _ _ _ _ r h => by simp [spec_l1Ok.j0] at h, fun _ _ _ _ _ _ _ r h => by simp [spec_l1Ok.l0] at h⟩
 | k + 1 => by
  obtain ⟨ih0, ih1, ih2⟩ := spec_l1Ok.mono_l k
  refine ⟨?_, ?_, ?_⟩
  ·intro y0 y1 y2 y3 y4 y5
   unfold spec_l1Ok.f
   repeat' first
   | (with_reducible exact ih0 _ _ _ _ _ _)
   | (with_reducible exact ih1 _ _ _ _ _ _ _)
   | (with_reducible exact ih2 _ _ _ _ _ _ _)
   | (with_reducible exact spec_l1AtomOk.mono _ _)
   | (with_reducible exact spec_l1IdOk.mono _ _)
   | (with_reducible exact spec_l1ScopesOk.mono _ _)
   | (with_reducible exact LeO.refl _)
   | (with_reducible exact LeO.none _)
   | (with_reducible refine LeO.ite ?_ ?_)
   | (with_reducible refine LeO.bind ?_ (fun _ => ?_))
   | exact ih0 _ _ _ _ _ _
   | exact ih1 _ _ _ _ _ _ _
   | exact ih2 _ _ _ _ _ _ _
   | exact spec_l1AtomOk.mono _ _
   | exact spec_l1IdOk.mono _ _
   | exact spec_l1ScopesOk.mono _ _
   | exact LeO.none _
   | refine LeO.ite ?_ ?_
   | refine LeO.bind ?_ (fun _ => ?_)
  ·intro y0 y1 y2 y3 y4 y5 y6
   unfold spec_l1Ok.j0
   repeat' first
   | (with_reducible exact ih0 _ _ _ _ _ _)
   | (with_reducible exact ih1 _ _ _ _ _ _ _)
   | (with_reducible exact ih2 _ _ _ _ _ _ _)
   | (with_reducible exact spec_l1AtomOk.mono _ _)
   | (with_reducible exact spec_l1IdOk.mono _ _)
   | (with_reducible exact spec_l1ScopesOk.mono _ _)
   | (with_reducible exact LeO.refl _)
   | (with_reducible exact LeO.none _)
   | (with_reducible refine LeO.ite ?_ ?_)
   | (with_reducible refine LeO.bind ?_ (fun _ => ?_))
   | exact ih0 _ _ _ _ _ _
   | exact ih1 _ _ _ _ _ _ _
   | exact ih2 _ _ _ _ _ _ _
   | exact spec_l1AtomOk.mono _ _
   | exact spec_l1IdOk.mono _ _
   | exact spec_l1ScopesOk.mono _ _
   | exact LeO.none _
   | refine LeO.ite ?_ ?_
   | refine LeO.bind ?_ (fun _ => ?_)
  ·intro y0 y1 y2 y3 y4 y5 y6
   unfold spec_l1Ok.l0
   repeat' first
   | (with_reducible exact ih0 _ _ _ _ _ _)
   | (with_reducible exact ih1 _ _ _ _ _ _ _)
   | (with_reducible exact ih2 _ _ _ _ _ _ _)
   | (with_reducible exact spec_l1AtomOk.mono _ _)
   | (with_reducible exact spec_l1IdOk.mono _ _)
   | (with_reducible exact spec_l1ScopesOk.mono _ _)
   | (with_reducible exact LeO.refl _)
   | (with_reducible exact LeO.none _)
   | (with_reducible refine LeO.ite ?_ ?_)
   | (with_reducible refine LeO.bind ?_ (fun _ => ?_))
   | exact ih0 _ _ _ _ _ _
   | exact ih1 _ _ _ _ _ _ _
   | exact ih2 _ _ _ _ _ _ _
   | exact spec_l1AtomOk.mono _ _
   | exact spec_l1IdOk.mono _ _
   | exact spec_l1ScopesOk.mono _ _
   | exact LeO.none _
   | refine LeO.ite ?_ ?_
   | refine LeO.bind ?_ (fun _ => ?_)
theorem spec_l1Ok.mono : ∀ a0 a1 a2 a3 a4 a5 k, LeO (spec_l1Ok.f k a0 a1 a2 a3 a4 a5) (spec_l1Ok.f (k + 1) a0 a1 a2 a3 a4 a5) := by
 intro a0 a1 a2 a3 a4 a5 k
 obtain ⟨ih0, ih1, ih2⟩ := spec_l1Ok.mono_l k
 exact ih0 a0 a1 a2 a3 a4 a5
set_option maxHeartbeats 8000000 in
set_option maxRecDepth 100000 in
theorem spec_l1Ok.calls (k : Nat) : ∀ (a0_0 : Int) (a0_1 : ByteArray) (A0_2 : Option Addr) (c0_2 : Nat) (l0_2 : List Int) (a0_3 : Int) (A0_4 : Option Addr) (c0_4 : Nat) (l0_4 : List (S35)) (a1 : Int) (r : Bool) (w : World) (hr0_2 : Kd.C (Kd.int .i64) w A0_2 l0_2.length l0_2) (hc0_2 : l0_2.length ≤ c0_2) (hr0_4 : Kd.C k35 w A0_4 l0_4.length l0_4) (hc0_4 : l0_4.length ≤ c0_4) (h : spec_l1Ok.f k a0_0 a0_1 l0_2 a0_3 l0_4 a1 = some r),
  Calls Tryd.prog 31 #[.agg #[.int .i64 a0_0, .string a0_1, .slice A0_2 l0_2.length c0_2, .int .i64 a0_3, .slice A0_4 l0_4.length c0_4], .int .i64 a1] w fun e w' => e = .returned (.bool r) ∧ Below w.heap.size w w' := by
 induction k using Nat.strongRecOn with
 | _ k ih =>
 intro a0_0 a0_1 A0_2 c0_2 l0_2 a0_3 A0_4 c0_4 l0_4 a1 r w hr0_2 hc0_2 hr0_4 hc0_4 h
 cases k with
 | zero => exact absurd h (by simp [spec_l1Ok.f])
 | succ k =>
 simp only [spec_l1Ok.f] at h
 have hu35 := Tryd.underlying35
 have HR0_2 := Aq hr0_2
 have HC0_2 := Aq hc0_2
 clear hr0_2 hc0_2
 have HR0_4 := Aq hr0_4
 have HC0_4 := Aq hc0_4
 clear hr0_4 hc0_4
 have HB := Aq (Below.refl w.heap.size w)
 have H : (if a1 > 60 then (some false) else (if a0_0 = 1 then ((spec_l1IdOk.f k a0_1).bind fun t9133 => (if t9133 = true then (if (a0_1.size : Int) ≤ 40 then (if a0_3 ≥ 0 then ((spec_l1ScopesOk.f k l0_2).bind fun t9134 => (if t9134 = true then (some ((l0_4.length : Int) == 0)) else (some false))) else (some false)) else (some false)) else (some false))) else (if a0_0 = 2 then ((spec_l1AtomOk.f k a0_1).bind fun t9135 => (if t9135 = true then (if (a0_1.size : Int) ≤ 40 then (if a0_3 = 0 then (some ((wrap64 ((l0_2.length : Int) + (l0_4.length : Int))) == 0)) else (some false)) else (some false)) else (some false))) else (if a0_0 = 3 then (spec_l1Ok.j0 k a1 (a0_0 == 3) a0_0 a0_1 l0_2 a0_3 l0_4) else (spec_l1Ok.j0 k a1 (a0_0 == 4) a0_0 a0_1 l0_2 a0_3 l0_4))))) = some r := h
 clear h
 by_cases c3 : a1 > 60
 ·rw [if_pos c3] at H
  have c3b0 : decide (60 < a1) = true := decide_eq_true c3
  clear c3
  obtain rfl := Option.some.inj H
  go_enter Tryd.func31, Tryd.ntmps31
  go_wp2_with (first | ((with_reducible refine gate_dst (N := 2) rfl ?_); (try (refine gate_guard (by rfl) ?_; dsimp only)); refine box_event ?hg (N := 2) ?hd (cs := #[.int .i64 a0_0, .string a0_1, .slice A0_2 l0_2.length c0_2, .int .i64 a0_3, .slice A0_4 l0_4.length c0_4]) (t := 35) ?hr ?_; (case hd => rfl); (case hg => rfl); (case hr => first | (go_simp; done) | (go_simp; rfl)); intro gb9132 hg w4 hbox hb; have n0_ := Aq (below_step (by repeat (first | (with_reducible first | exact HB.out | apply zB | apply zC | apply zE) | exact HB.out)) hb); have n1_ := Aq (hbox); have n2_ := Aq ((by rw [hg]; exact (below_size (by repeat (first | (with_reducible first | exact HB.out | apply zB | apply zC | apply zE) | exact HB.out))) : w.heap.size ≤ gb9132)); have n3_ := Aq ((by rw [hg]; exact (below_size (by repeat (first | (with_reducible first | exact HB.out | apply zB | apply zC | apply zE) | exact HB.out))) : w.heap.size ≤ gb9132)); clear HB; have HB := n0_; have BK9132 := n1_; have GW9132 := n2_; have GE9132 := n3_; clear n0_ n1_ n2_ n3_ hb hbox hg))
  go_ret
  exact ⟨by first | rfl | (simp [errW_none, errW_some] <;> rfl) | (simp [*, errW_none, errW_some] <;> rfl), by repeat (first | (with_reducible first | exact HB.out | apply zB | apply zC | apply zE | refine below_set ?_ GE9132.out) | exact HB.out)⟩
 ·rw [if_neg c3] at H
  have c3b0 : decide (60 < a1) = false := decide_eq_false c3
  clear c3
  by_cases c5 : a0_0 = 1
  ·rw [if_pos c5] at H
   have c5b0 : (a0_0 == 1) = true := beq_iff_eq.mpr c5
   have c5b1 : (a0_0 != 1) = false := bne_eq_false_iff_eq.mpr c5
   clear c5
   replace H := Option.bind_eq_some_iff.mp H
   obtain ⟨t9133, A60, H⟩ := H
   replace H : (if t9133 = true then (if (a0_1.size : Int) ≤ 40 then (if a0_3 ≥ 0 then ((spec_l1ScopesOk.f k l0_2).bind fun t9134 => (if t9134 = true then (some ((l0_4.length : Int) == 0)) else (some false))) else (some false)) else (some false)) else (some false)) = some r := H
   have A6 := Aq A60
   clear A60
   by_cases c7 : t9133 = true
   ·subst c7
    have H1 : (if (a0_1.size : Int) ≤ 40 then (if a0_3 ≥ 0 then ((spec_l1ScopesOk.f k l0_2).bind fun t9134 => (if t9134 = true then (some ((l0_4.length : Int) == 0)) else (some false))) else (some false)) else (some false)) = some r := by rw [if_pos rfl] at H; exact H
    clear H
    have H := H1
    clear H1
    by_cases c8 : (a0_1.size : Int) ≤ 40
    ·rw [if_pos c8] at H
     have c8b0 : decide ((a0_1.size : Int) ≤ 40) = true := decide_eq_true c8
     have c8b1 : decide (a0_1.size ≤ 40) = true := decide_eq_true (by omega)
     clear c8
     by_cases c9 : a0_3 ≥ 0
     ·rw [if_pos c9] at H
      have c9b0 : decide (0 ≤ a0_3) = true := decide_eq_true c9
      clear c9
      replace H := Option.bind_eq_some_iff.mp H
      obtain ⟨t9134, A100, H⟩ := H
      replace H : (if t9134 = true then (some ((l0_4.length : Int) == 0)) else (some false)) = some r := H
      have A10 := Aq A100
      clear A100
      by_cases c11 : t9134 = true
      ·subst c11
       have H1 : (some ((l0_4.length : Int) == 0)) = some r := by rw [if_pos rfl] at H; exact H
       clear H
       have H := H1
       clear H1
       obtain rfl := Option.some.inj H
       go_enter Tryd.func31, Tryd.ntmps31
       go_wp2_with (first | ((with_reducible refine gate_dst (N := 2) rfl ?_); (try (refine gate_guard (by rfl) ?_; dsimp only)); refine box_event ?hg (N := 2) ?hd (cs := #[.int .i64 a0_0, .string a0_1, .slice A0_2 l0_2.length c0_2, .int .i64 a0_3, .slice A0_4 l0_4.length c0_4]) (t := 35) ?hr ?_; (case hd => rfl); (case hg => rfl); (case hr => first | (go_simp; done) | (go_simp; rfl)); intro gb9132 hg w12 hbox hb; have n0_ := Aq (below_step (by repeat (first | (with_reducible first | exact HB.out | apply zB | apply zC | apply zE) | exact HB.out)) hb); have n1_ := Aq (hbox); have n2_ := Aq ((by rw [hg]; exact (below_size (by repeat (first | (with_reducible first | exact HB.out | apply zB | apply zC | apply zE) | exact HB.out))) : w.heap.size ≤ gb9132)); have n3_ := Aq ((by rw [hg]; exact (below_size (by repeat (first | (with_reducible first | exact HB.out | apply zB | apply zC | apply zE) | exact HB.out))) : w.heap.size ≤ gb9132)); clear HB; have HB := n0_; have BK9132 := n1_; have GW9132 := n2_; have GE9132 := n3_; clear n0_ n1_ n2_ n3_ hb hbox hg; have hcz13_0 : w12.cell? ⟨gb9132, 0, none⟩ = some (.int .i64 a0_0) := (blk_cell BK9132.out 0).trans rfl; have hcz13_1 : w12.cell? ⟨gb9132, 1, none⟩ = some (.string a0_1) := (blk_cell BK9132.out 1).trans rfl; have hcz13_2 : w12.cell? ⟨gb9132, 2, none⟩ = some (.slice A0_2 l0_2.length c0_2) := (blk_cell BK9132.out 2).trans rfl; have hcz13_3 : w12.cell? ⟨gb9132, 3, none⟩ = some (.int .i64 a0_3) := (blk_cell BK9132.out 3).trans rfl; have hcz13_4 : w12.cell? ⟨gb9132, 4, none⟩ = some (.slice A0_4 l0_4.length c0_4) := (blk_cell BK9132.out 4).trans rfl; have hfz13_0 := blk_frozen BK9132.out 0; have hfz13_1 := blk_frozen BK9132.out 1; have hfz13_2 := blk_frozen BK9132.out 2; have hfz13_3 := blk_frozen BK9132.out 3; have hfz13_4 := blk_frozen BK9132.out 4) | ((with_reducible refine gate_callee (f := 54) rfl ?_); refine goesL_ (some 15) rfl rfl Tryd.func54 (by kernel_rfl) rfl #[.string a0_1] rfl (by (try simp only [List.map_toArray, List.map_cons, List.map_nil]); first | done | rfl | (simp only [List.length_drop, List.length_take]; rfl)) ?_; (with_reducible refine (spec_l1IdOk.calls k a0_1 true _ A6.out).mono ?_); rintro e w' ⟨rfl, ⟨nd, rfl⟩⟩; refine ⟨_, rfl, ?_⟩) | (go_at_call 55; (with_reducible refine (spec_l1ScopesOk.calls k _ _ l0_2 true _ ?side1 ?side2 A10.out).mono ?_); (case side1 => repeat (first | exact (Kd.C_below HR0_2.out (by repeat (first | (with_reducible first | exact HB.out | apply zB | apply zC | apply zE | refine below_set ?_ GE9132.out) | exact HB.out))) | (with_reducible refine Kd.C_alloc ?_ _) | (with_reducible refine Kd.C_drewN ?_ _) | (with_reducible refine Kd.C_drew ?_))); (case side2 => exact HC0_2.out); rintro e w' ⟨rfl, ⟨nd, rfl⟩⟩))
       go_ret
       exact ⟨by first | rfl | (simp [errW_none, errW_some] <;> rfl) | (simp [*, errW_none, errW_some] <;> rfl), by repeat (first | (with_reducible first | exact HB.out | apply zB | apply zC | apply zE | refine below_set ?_ GE9132.out) | exact HB.out)⟩
      ·replace c11 := Bool.eq_false_iff.mpr c11
       subst c11
       have H1 : (some false) = some r := by rw [if_neg (show ¬ (false = true) by decide)] at H; exact H
       clear H
       have H := H1
       clear H1
       obtain rfl := Option.some.inj H
       go_enter Tryd.func31, Tryd.ntmps31
       go_wp2_with (first | ((with_reducible refine gate_dst (N := 2) rfl ?_); (try (refine gate_guard (by rfl) ?_; dsimp only)); refine box_event ?hg (N := 2) ?hd (cs := #[.int .i64 a0_0, .string a0_1, .slice A0_2 l0_2.length c0_2, .int .i64 a0_3, .slice A0_4 l0_4.length c0_4]) (t := 35) ?hr ?_; (case hd => rfl); (case hg => rfl); (case hr => first | (go_simp; done) | (go_simp; rfl)); intro gb9132 hg w14 hbox hb; have n0_ := Aq (below_step (by repeat (first | (with_reducible first | exact HB.out | apply zB | apply zC | apply zE) | exact HB.out)) hb); have n1_ := Aq (hbox); have n2_ := Aq ((by rw [hg]; exact (below_size (by repeat (first | (with_reducible first | exact HB.out | apply zB | apply zC | apply zE) | exact HB.out))) : w.heap.size ≤ gb9132)); have n3_ := Aq ((by rw [hg]; exact (below_size (by repeat (first | (with_reducible first | exact HB.out | apply zB | apply zC | apply zE) | exact HB.out))) : w.heap.size ≤ gb9132)); clear HB; have HB := n0_; have BK9132 := n1_; have GW9132 := n2_; have GE9132 := n3_; clear n0_ n1_ n2_ n3_ hb hbox hg; have hcz15_0 : w14.cell? ⟨gb9132, 0, none⟩ = some (.int .i64 a0_0) := (blk_cell BK9132.out 0).trans rfl; have hcz15_1 : w14.cell? ⟨gb9132, 1, none⟩ = some (.string a0_1) := (blk_cell BK9132.out 1).trans rfl; have hcz15_2 : w14.cell? ⟨gb9132, 2, none⟩ = some (.slice A0_2 l0_2.length c0_2) := (blk_cell BK9132.out 2).trans rfl; have hcz15_3 : w14.cell? ⟨gb9132, 3, none⟩ = some (.int .i64 a0_3) := (blk_cell BK9132.out 3).trans rfl; have hcz15_4 : w14.cell? ⟨gb9132, 4, none⟩ = some (.slice A0_4 l0_4.length c0_4) := (blk_cell BK9132.out 4).trans rfl; have hfz15_0 := blk_frozen BK9132.out 0; have hfz15_1 := blk_frozen BK9132.out 1; have hfz15_2 := blk_frozen BK9132.out 2; have hfz15_3 := blk_frozen BK9132.out 3; have hfz15_4 := blk_frozen BK9132.out 4) | ((with_reducible refine gate_callee (f := 54) rfl ?_); refine goesL_ (some 15) rfl rfl Tryd.func54 (by kernel_rfl) rfl #[.string a0_1] rfl (by (try simp only [List.map_toArray, List.map_cons, List.map_nil]); first | done | rfl | (simp only [List.length_drop, List.length_take]; rfl)) ?_; (with_reducible refine (spec_l1IdOk.calls k a0_1 true _ A6.out).mono ?_); rintro e w' ⟨rfl, ⟨nd, rfl⟩⟩; refine ⟨_, rfl, ?_⟩) | (go_at_call 55; (with_reducible refine (spec_l1ScopesOk.calls k _ _ l0_2 false _ ?side1 ?side2 A10.out).mono ?_); (case side1 => repeat (first | exact (Kd.C_below HR0_2.out (by repeat (first | (with_reducible first | exact HB.out | apply zB | apply zC | apply zE | refine below_set ?_ GE9132.out) | exact HB.out))) | (with_reducible refine Kd.C_alloc ?_ _) | (with_reducible refine Kd.C_drewN ?_ _) | (with_reducible refine Kd.C_drew ?_))); (case side2 => exact HC0_2.out); rintro e w' ⟨rfl, ⟨nd, rfl⟩⟩))
       go_ret
       exact ⟨by first | rfl | (simp [errW_none, errW_some] <;> rfl) | (simp [*, errW_none, errW_some] <;> rfl), by repeat (first | (with_reducible first | exact HB.out | apply zB | apply zC | apply zE | refine below_set ?_ GE9132.out) | exact HB.out)⟩
     ·rw [if_neg c9] at H
      have c9b0 : decide (0 ≤ a0_3) = false := decide_eq_false c9
      clear c9
      obtain rfl := Option.some.inj H
      go_enter Tryd.func31, Tryd.ntmps31
      go_wp2_with (first | ((with_reducible refine gate_dst (N := 2) rfl ?_); (try (refine gate_guard (by rfl) ?_; dsimp only)); refine box_event ?hg (N := 2) ?hd (cs := #[.int .i64 a0_0, .string a0_1, .slice A0_2 l0_2.length c0_2, .int .i64 a0_3, .slice A0_4 l0_4.length c0_4]) (t := 35) ?hr ?_; (case hd => rfl); (case hg => rfl); (case hr => first | (go_simp; done) | (go_simp; rfl)); intro gb9132 hg w16 hbox hb; have n0_ := Aq (below_step (by repeat (first | (with_reducible first | exact HB.out | apply zB | apply zC | apply zE) | exact HB.out)) hb); have n1_ := Aq (hbox); have n2_ := Aq ((by rw [hg]; exact (below_size (by repeat (first | (with_reducible first | exact HB.out | apply zB | apply zC | apply zE) | exact HB.out))) : w.heap.size ≤ gb9132)); have n3_ := Aq ((by rw [hg]; exact (below_size (by repeat (first | (with_reducible first | exact HB.out | apply zB | apply zC | apply zE) | exact HB.out))) : w.heap.size ≤ gb9132)); clear HB; have HB := n0_; have BK9132 := n1_; have GW9132 := n2_; have GE9132 := n3_; clear n0_ n1_ n2_ n3_ hb hbox hg; have hcz17_0 : w16.cell? ⟨gb9132, 0, none⟩ = some (.int .i64 a0_0) := (blk_cell BK9132.out 0).trans rfl; have hcz17_1 : w16.cell? ⟨gb9132, 1, none⟩ = some (.string a0_1) := (blk_cell BK9132.out 1).trans rfl; have hcz17_2 : w16.cell? ⟨gb9132, 2, none⟩ = some (.slice A0_2 l0_2.length c0_2) := (blk_cell BK9132.out 2).trans rfl; have hcz17_3 : w16.cell? ⟨gb9132, 3, none⟩ = some (.int .i64 a0_3) := (blk_cell BK9132.out 3).trans rfl; have hcz17_4 : w16.cell? ⟨gb9132, 4, none⟩ = some (.slice A0_4 l0_4.length c0_4) := (blk_cell BK9132.out 4).trans rfl; have hfz17_0 := blk_frozen BK9132.out 0; have hfz17_1 := blk_frozen BK9132.out 1; have hfz17_2 := blk_frozen BK9132.out 2; have hfz17_3 := blk_frozen BK9132.out 3; have hfz17_4 := blk_frozen BK9132.out 4) | ((with_reducible refine gate_callee (f := 54) rfl ?_); refine goesL_ (some 15) rfl rfl Tryd.func54 (by kernel_rfl) rfl #[.string a0_1] rfl (by (try simp only [List.map_toArray, List.map_cons, List.map_nil]); first | done | rfl | (simp only [List.length_drop, List.length_take]; rfl)) ?_; (with_reducible refine (spec_l1IdOk.calls k a0_1 true _ A6.out).mono ?_); rintro e w' ⟨rfl, ⟨nd, rfl⟩⟩; refine ⟨_, rfl, ?_⟩))
      go_ret
      exact ⟨by first | rfl | (simp [errW_none, errW_some] <;> rfl) | (simp [*, errW_none, errW_some] <;> rfl), by repeat (first | (with_reducible first | exact HB.out | apply zB | apply zC | apply zE | refine below_set ?_ GE9132.out) | exact HB.out)⟩
    ·rw [if_neg c8] at H
     have c8b0 : decide ((a0_1.size : Int) ≤ 40) = false := decide_eq_false c8
     have c8b1 : decide (a0_1.size ≤ 40) = false := decide_eq_false (by omega)
     clear c8
     obtain rfl := Option.some.inj H
     go_enter Tryd.func31, Tryd.ntmps31
     go_wp2_with (first | ((with_reducible refine gate_dst (N := 2) rfl ?_); (try (refine gate_guard (by rfl) ?_; dsimp only)); refine box_event ?hg (N := 2) ?hd (cs := #[.int .i64 a0_0, .string a0_1, .slice A0_2 l0_2.length c0_2, .int .i64 a0_3, .slice A0_4 l0_4.length c0_4]) (t := 35) ?hr ?_; (case hd => rfl); (case hg => rfl); (case hr => first | (go_simp; done) | (go_simp; rfl)); intro gb9132 hg w18 hbox hb; have n0_ := Aq (below_step (by repeat (first | (with_reducible first | exact HB.out | apply zB | apply zC | apply zE) | exact HB.out)) hb); have n1_ := Aq (hbox); have n2_ := Aq ((by rw [hg]; exact (below_size (by repeat (first | (with_reducible first | exact HB.out | apply zB | apply zC | apply zE) | exact HB.out))) : w.heap.size ≤ gb9132)); have n3_ := Aq ((by rw [hg]; exact (below_size (by repeat (first | (with_reducible first | exact HB.out | apply zB | apply zC | apply zE) | exact HB.out))) : w.heap.size ≤ gb9132)); clear HB; have HB := n0_; have BK9132 := n1_; have GW9132 := n2_; have GE9132 := n3_; clear n0_ n1_ n2_ n3_ hb hbox hg; have hcz19_0 : w18.cell? ⟨gb9132, 0, none⟩ = some (.int .i64 a0_0) := (blk_cell BK9132.out 0).trans rfl; have hcz19_1 : w18.cell? ⟨gb9132, 1, none⟩ = some (.string a0_1) := (blk_cell BK9132.out 1).trans rfl; have hcz19_2 : w18.cell? ⟨gb9132, 2, none⟩ = some (.slice A0_2 l0_2.length c0_2) := (blk_cell BK9132.out 2).trans rfl; have hcz19_3 : w18.cell? ⟨gb9132, 3, none⟩ = some (.int .i64 a0_3) := (blk_cell BK9132.out 3).trans rfl; have hcz19_4 : w18.cell? ⟨gb9132, 4, none⟩ = some (.slice A0_4 l0_4.length c0_4) := (blk_cell BK9132.out 4).trans rfl; have hfz19_0 := blk_frozen BK9132.out 0; have hfz19_1 := blk_frozen BK9132.out 1; have hfz19_2 := blk_frozen BK9132.out 2; have hfz19_3 := blk_frozen BK9132.out 3; have hfz19_4 := blk_frozen BK9132.out 4) | ((with_reducible refine gate_callee (f := 54) rfl ?_); refine goesL_ (some 15) rfl rfl Tryd.func54 (by kernel_rfl) rfl #[.string a0_1] rfl (by (try simp only [List.map_toArray, List.map_cons, List.map_nil]); first | done | rfl | (simp only [List.length_drop, List.length_take]; rfl)) ?_; (with_reducible refine (spec_l1IdOk.calls k a0_1 true _ A6.out).mono ?_); rintro e w' ⟨rfl, ⟨nd, rfl⟩⟩; refine ⟨_, rfl, ?_⟩))
     go_ret
     exact ⟨by first | rfl | (simp [errW_none, errW_some] <;> rfl) | (simp [*, errW_none, errW_some] <;> rfl), by repeat (first | (with_reducible first | exact HB.out | apply zB | apply zC | apply zE | refine below_set ?_ GE9132.out) | exact HB.out)⟩
   ·replace c7 := Bool.eq_false_iff.mpr c7
    subst c7
    have H1 : (some false) = some r := by rw [if_neg (show ¬ (false = true) by decide)] at H; exact H
    clear H
    have H := H1
    clear H1
    obtain rfl := Option.some.inj H
    go_enter Tryd.func31, Tryd.ntmps31
    go_wp2_with (first | ((with_reducible refine gate_dst (N := 2) rfl ?_); (try (refine gate_guard (by rfl) ?_; dsimp only)); refine box_event ?hg (N := 2) ?hd (cs := #[.int .i64 a0_0, .string a0_1, .slice A0_2 l0_2.length c0_2, .int .i64 a0_3, .slice A0_4 l0_4.length c0_4]) (t := 35) ?hr ?_; (case hd => rfl); (case hg => rfl); (case hr => first | (go_simp; done) | (go_simp; rfl)); intro gb9132 hg w20 hbox hb; have n0_ := Aq (below_step (by repeat (first | (with_reducible first | exact HB.out | apply zB | apply zC | apply zE) | exact HB.out)) hb); have n1_ := Aq (hbox); have n2_ := Aq ((by rw [hg]; exact (below_size (by repeat (first | (with_reducible first | exact HB.out | apply zB | apply zC | apply zE) | exact HB.out))) : w.heap.size ≤ gb9132)); have n3_ := Aq ((by rw [hg]; exact (below_size (by repeat (first | (with_reducible first | exact HB.out | apply zB | apply zC | apply zE) | exact HB.out))) : w.heap.size ≤ gb9132)); clear HB; have HB := n0_; have BK9132 := n1_; have GW9132 := n2_; have GE9132 := n3_; clear n0_ n1_ n2_ n3_ hb hbox hg; have hcz21_0 : w20.cell? ⟨gb9132, 0, none⟩ = some (.int .i64 a0_0) := (blk_cell BK9132.out 0).trans rfl; have hcz21_1 : w20.cell? ⟨gb9132, 1, none⟩ = some (.string a0_1) := (blk_cell BK9132.out 1).trans rfl; have hcz21_2 : w20.cell? ⟨gb9132, 2, none⟩ = some (.slice A0_2 l0_2.length c0_2) := (blk_cell BK9132.out 2).trans rfl; have hcz21_3 : w20.cell? ⟨gb9132, 3, none⟩ = some (.int .i64 a0_3) := (blk_cell BK9132.out 3).trans rfl; have hcz21_4 : w20.cell? ⟨gb9132, 4, none⟩ = some (.slice A0_4 l0_4.length c0_4) := (blk_cell BK9132.out 4).trans rfl; have hfz21_0 := blk_frozen BK9132.out 0; have hfz21_1 := blk_frozen BK9132.out 1; have hfz21_2 := blk_frozen BK9132.out 2; have hfz21_3 := blk_frozen BK9132.out 3; have hfz21_4 := blk_frozen BK9132.out 4) | ((with_reducible refine gate_callee (f := 54) rfl ?_); refine goesL_ (some 15) rfl rfl Tryd.func54 (by kernel_rfl) rfl #[.string a0_1] rfl (by (try simp only [List.map_toArray, List.map_cons, List.map_nil]); first | done | rfl | (simp only [List.length_drop, List.length_take]; rfl)) ?_; (with_reducible refine (spec_l1IdOk.calls k a0_1 false _ A6.out).mono ?_); rintro e w' ⟨rfl, ⟨nd, rfl⟩⟩; refine ⟨_, rfl, ?_⟩))
    go_ret
    exact ⟨by first | rfl | (simp [errW_none, errW_some] <;> rfl) | (simp [*, errW_none, errW_some] <;> rfl), by repeat (first | (with_reducible first | exact HB.out | apply zB | apply zC | apply zE | refine below_set ?_ GE9132.out) | exact HB.out)⟩
  ·rw [if_neg c5] at H
   have c5b0 : (a0_0 == 1) = false := beq_eq_false_iff_ne.mpr c5
   have c5b1 : (a0_0 != 1) = true := bne_iff_ne.mpr c5
   by_cases c22 : a0_0 = 2
   ·rw [if_pos c22] at H
    have c22b0 : (a0_0 == 2) = true := beq_iff_eq.mpr c22
    have c22b1 : (a0_0 != 2) = false := bne_eq_false_iff_eq.mpr c22
    clear c22
    replace H := Option.bind_eq_some_iff.mp H
    obtain ⟨t9135, A230, H⟩ := H
    replace H : (if t9135 = true then (if (a0_1.size : Int) ≤ 40 then (if a0_3 = 0 then (some ((wrap64 ((l0_2.length : Int) + (l0_4.length : Int))) == 0)) else (some false)) else (some false)) else (some false)) = some r := H
    have A23 := Aq A230
    clear A230
    by_cases c24 : t9135 = true
    ·subst c24
     have H1 : (if (a0_1.size : Int) ≤ 40 then (if a0_3 = 0 then (some ((wrap64 ((l0_2.length : Int) + (l0_4.length : Int))) == 0)) else (some false)) else (some false)) = some r := by rw [if_pos rfl] at H; exact H
     clear H
     have H := H1
     clear H1
     by_cases c25 : (a0_1.size : Int) ≤ 40
     ·rw [if_pos c25] at H
      have c25b0 : decide ((a0_1.size : Int) ≤ 40) = true := decide_eq_true c25
      have c25b1 : decide (a0_1.size ≤ 40) = true := decide_eq_true (by omega)
      clear c25
      by_cases c26 : a0_3 = 0
      ·rw [if_pos c26] at H
       have c26b0 : (a0_3 == 0) = true := beq_iff_eq.mpr c26
       have c26b1 : (a0_3 != 0) = false := bne_eq_false_iff_eq.mpr c26
       clear c26
       obtain rfl := Option.some.inj H
       go_enter Tryd.func31, Tryd.ntmps31
       go_wp2_with (first | ((with_reducible refine gate_dst (N := 2) rfl ?_); (try (refine gate_guard (by rfl) ?_; dsimp only)); refine box_event ?hg (N := 2) ?hd (cs := #[.int .i64 a0_0, .string a0_1, .slice A0_2 l0_2.length c0_2, .int .i64 a0_3, .slice A0_4 l0_4.length c0_4]) (t := 35) ?hr ?_; (case hd => rfl); (case hg => rfl); (case hr => first | (go_simp; done) | (go_simp; rfl)); intro gb9132 hg w27 hbox hb; have n0_ := Aq (below_step (by repeat (first | (with_reducible first | exact HB.out | apply zB | apply zC | apply zE) | exact HB.out)) hb); have n1_ := Aq (hbox); have n2_ := Aq ((by rw [hg]; exact (below_size (by repeat (first | (with_reducible first | exact HB.out | apply zB | apply zC | apply zE) | exact HB.out))) : w.heap.size ≤ gb9132)); have n3_ := Aq ((by rw [hg]; exact (below_size (by repeat (first | (with_reducible first | exact HB.out | apply zB | apply zC | apply zE) | exact HB.out))) : w.heap.size ≤ gb9132)); clear HB; have HB := n0_; have BK9132 := n1_; have GW9132 := n2_; have GE9132 := n3_; clear n0_ n1_ n2_ n3_ hb hbox hg; have hcz28_0 : w27.cell? ⟨gb9132, 0, none⟩ = some (.int .i64 a0_0) := (blk_cell BK9132.out 0).trans rfl; have hcz28_1 : w27.cell? ⟨gb9132, 1, none⟩ = some (.string a0_1) := (blk_cell BK9132.out 1).trans rfl; have hcz28_2 : w27.cell? ⟨gb9132, 2, none⟩ = some (.slice A0_2 l0_2.length c0_2) := (blk_cell BK9132.out 2).trans rfl; have hcz28_3 : w27.cell? ⟨gb9132, 3, none⟩ = some (.int .i64 a0_3) := (blk_cell BK9132.out 3).trans rfl; have hcz28_4 : w27.cell? ⟨gb9132, 4, none⟩ = some (.slice A0_4 l0_4.length c0_4) := (blk_cell BK9132.out 4).trans rfl; have hfz28_0 := blk_frozen BK9132.out 0; have hfz28_1 := blk_frozen BK9132.out 1; have hfz28_2 := blk_frozen BK9132.out 2; have hfz28_3 := blk_frozen BK9132.out 3; have hfz28_4 := blk_frozen BK9132.out 4) | ((with_reducible refine gate_callee (f := 56) rfl ?_); refine goesL_ (some 42) rfl rfl Tryd.func56 (by kernel_rfl) rfl #[.string a0_1] rfl (by (try simp only [List.map_toArray, List.map_cons, List.map_nil]); first | done | rfl | (simp only [List.length_drop, List.length_take]; rfl)) ?_; (with_reducible refine (spec_l1AtomOk.calls k a0_1 true _ A23.out).mono ?_); rintro e w' ⟨rfl, ⟨nd, rfl⟩⟩; refine ⟨_, rfl, ?_⟩))
       go_ret
       exact ⟨by first | rfl | (simp [errW_none, errW_some] <;> rfl) | (simp [*, errW_none, errW_some] <;> rfl), by repeat (first | (with_reducible first | exact HB.out | apply zB | apply zC | apply zE | refine below_set ?_ GE9132.out) | exact HB.out)⟩
      ·rw [if_neg c26] at H
       have c26b0 : (a0_3 == 0) = false := beq_eq_false_iff_ne.mpr c26
       have c26b1 : (a0_3 != 0) = true := bne_iff_ne.mpr c26
       obtain rfl := Option.some.inj H
       go_enter Tryd.func31, Tryd.ntmps31
       go_wp2_with (first | ((with_reducible refine gate_dst (N := 2) rfl ?_); (try (refine gate_guard (by rfl) ?_; dsimp only)); refine box_event ?hg (N := 2) ?hd (cs := #[.int .i64 a0_0, .string a0_1, .slice A0_2 l0_2.length c0_2, .int .i64 a0_3, .slice A0_4 l0_4.length c0_4]) (t := 35) ?hr ?_; (case hd => rfl); (case hg => rfl); (case hr => first | (go_simp; done) | (go_simp; rfl)); intro gb9132 hg w29 hbox hb; have n0_ := Aq (below_step (by repeat (first | (with_reducible first | exact HB.out | apply zB | apply zC | apply zE) | exact HB.out)) hb); have n1_ := Aq (hbox); have n2_ := Aq ((by rw [hg]; exact (below_size (by repeat (first | (with_reducible first | exact HB.out | apply zB | apply zC | apply zE) | exact HB.out))) : w.heap.size ≤ gb9132)); have n3_ := Aq ((by rw [hg]; exact (below_size (by repeat (first | (with_reducible first | exact HB.out | apply zB | apply zC | apply zE) | exact HB.out))) : w.heap.size ≤ gb9132)); clear HB; have HB := n0_; have BK9132 := n1_; have GW9132 := n2_; have GE9132 := n3_; clear n0_ n1_ n2_ n3_ hb hbox hg; have hcz30_0 : w29.cell? ⟨gb9132, 0, none⟩ = some (.int .i64 a0_0) := (blk_cell BK9132.out 0).trans rfl; have hcz30_1 : w29.cell? ⟨gb9132, 1, none⟩ = some (.string a0_1) := (blk_cell BK9132.out 1).trans rfl; have hcz30_2 : w29.cell? ⟨gb9132, 2, none⟩ = some (.slice A0_2 l0_2.length c0_2) := (blk_cell BK9132.out 2).trans rfl; have hcz30_3 : w29.cell? ⟨gb9132, 3, none⟩ = some (.int .i64 a0_3) := (blk_cell BK9132.out 3).trans rfl; have hcz30_4 : w29.cell? ⟨gb9132, 4, none⟩ = some (.slice A0_4 l0_4.length c0_4) := (blk_cell BK9132.out 4).trans rfl; have hfz30_0 := blk_frozen BK9132.out 0; have hfz30_1 := blk_frozen BK9132.out 1; have hfz30_2 := blk_frozen BK9132.out 2; have hfz30_3 := blk_frozen BK9132.out 3; have hfz30_4 := blk_frozen BK9132.out 4) | ((with_reducible refine gate_callee (f := 56) rfl ?_); refine goesL_ (some 42) rfl rfl Tryd.func56 (by kernel_rfl) rfl #[.string a0_1] rfl (by (try simp only [List.map_toArray, List.map_cons, List.map_nil]); first | done | rfl | (simp only [List.length_drop, List.length_take]; rfl)) ?_; (with_reducible refine (spec_l1AtomOk.calls k a0_1 true _ A23.out).mono ?_); rintro e w' ⟨rfl, ⟨nd, rfl⟩⟩; refine ⟨_, rfl, ?_⟩))
       go_ret
       exact ⟨by first | rfl | (simp [errW_none, errW_some] <;> rfl) | (simp [*, errW_none, errW_some] <;> rfl), by repeat (first | (with_reducible first | exact HB.out | apply zB | apply zC | apply zE | refine below_set ?_ GE9132.out) | exact HB.out)⟩
     ·rw [if_neg c25] at H
      have c25b0 : decide ((a0_1.size : Int) ≤ 40) = false := decide_eq_false c25
      have c25b1 : decide (a0_1.size ≤ 40) = false := decide_eq_false (by omega)
      clear c25
      obtain rfl := Option.some.inj H
      go_enter Tryd.func31, Tryd.ntmps31
      go_wp2_with (first | ((with_reducible refine gate_dst (N := 2) rfl ?_); (try (refine gate_guard (by rfl) ?_; dsimp only)); refine box_event ?hg (N := 2) ?hd (cs := #[.int .i64 a0_0, .string a0_1, .slice A0_2 l0_2.length c0_2, .int .i64 a0_3, .slice A0_4 l0_4.length c0_4]) (t := 35) ?hr ?_; (case hd => rfl); (case hg => rfl); (case hr => first | (go_simp; done) | (go_simp; rfl)); intro gb9132 hg w31 hbox hb; have n0_ := Aq (below_step (by repeat (first | (with_reducible first | exact HB.out | apply zB | apply zC | apply zE) | exact HB.out)) hb); have n1_ := Aq (hbox); have n2_ := Aq ((by rw [hg]; exact (below_size (by repeat (first | (with_reducible first | exact HB.out | apply zB | apply zC | apply zE) | exact HB.out))) : w.heap.size ≤ gb9132)); have n3_ := Aq ((by rw [hg]; exact (below_size (by repeat (first | (with_reducible first | exact HB.out | apply zB | apply zC | apply zE) | exact HB.out))) : w.heap.size ≤ gb9132)); clear HB; have HB := n0_; have BK9132 := n1_; have GW9132 := n2_; have GE9132 := n3_; clear n0_ n1_ n2_ n3_ hb hbox hg; have hcz32_0 : w31.cell? ⟨gb9132, 0, none⟩ = some (.int .i64 a0_0) := (blk_cell BK9132.out 0).trans rfl; have hcz32_1 : w31.cell? ⟨gb9132, 1, none⟩ = some (.string a0_1) := (blk_cell BK9132.out 1).trans rfl; have hcz32_2 : w31.cell? ⟨gb9132, 2, none⟩ = some (.slice A0_2 l0_2.length c0_2) := (blk_cell BK9132.out 2).trans rfl; have hcz32_3 : w31.cell? ⟨gb9132, 3, none⟩ = some (.int .i64 a0_3) := (blk_cell BK9132.out 3).trans rfl; have hcz32_4 : w31.cell? ⟨gb9132, 4, none⟩ = some (.slice A0_4 l0_4.length c0_4) := (blk_cell BK9132.out 4).trans rfl; have hfz32_0 := blk_frozen BK9132.out 0; have hfz32_1 := blk_frozen BK9132.out 1; have hfz32_2 := blk_frozen BK9132.out 2; have hfz32_3 := blk_frozen BK9132.out 3; have hfz32_4 := blk_frozen BK9132.out 4) | ((with_reducible refine gate_callee (f := 56) rfl ?_); refine goesL_ (some 42) rfl rfl Tryd.func56 (by kernel_rfl) rfl #[.string a0_1] rfl (by (try simp only [List.map_toArray, List.map_cons, List.map_nil]); first | done | rfl | (simp only [List.length_drop, List.length_take]; rfl)) ?_; (with_reducible refine (spec_l1AtomOk.calls k a0_1 true _ A23.out).mono ?_); rintro e w' ⟨rfl, ⟨nd, rfl⟩⟩; refine ⟨_, rfl, ?_⟩))
      go_ret
      exact ⟨by first | rfl | (simp [errW_none, errW_some] <;> rfl) | (simp [*, errW_none, errW_some] <;> rfl), by repeat (first | (with_reducible first | exact HB.out | apply zB | apply zC | apply zE | refine below_set ?_ GE9132.out) | exact HB.out)⟩
    ·replace c24 := Bool.eq_false_iff.mpr c24
     subst c24
     have H1 : (some false) = some r := by rw [if_neg (show ¬ (false = true) by decide)] at H; exact H
     clear H
     have H := H1
     clear H1
     obtain rfl := Option.some.inj H
     go_enter Tryd.func31, Tryd.ntmps31
     go_wp2_with (first | ((with_reducible refine gate_dst (N := 2) rfl ?_); (try (refine gate_guard (by rfl) ?_; dsimp only)); refine box_event ?hg (N := 2) ?hd (cs := #[.int .i64 a0_0, .string a0_1, .slice A0_2 l0_2.length c0_2, .int .i64 a0_3, .slice A0_4 l0_4.length c0_4]) (t := 35) ?hr ?_; (case hd => rfl); (case hg => rfl); (case hr => first | (go_simp; done) | (go_simp; rfl)); intro gb9132 hg w33 hbox hb; have n0_ := Aq (below_step (by repeat (first | (with_reducible first | exact HB.out | apply zB | apply zC | apply zE) | exact HB.out)) hb); have n1_ := Aq (hbox); have n2_ := Aq ((by rw [hg]; exact (below_size (by repeat (first | (with_reducible first | exact HB.out | apply zB | apply zC | apply zE) | exact HB.out))) : w.heap.size ≤ gb9132)); have n3_ := Aq ((by rw [hg]; exact (below_size (by repeat (first | (with_reducible first | exact HB.out | apply zB | apply zC | apply zE) | exact HB.out))) : w.heap.size ≤ gb9132)); clear HB; have HB := n0_; have BK9132 := n1_; have GW9132 := n2_; have GE9132 := n3_; clear n0_ n1_ n2_ n3_ hb hbox hg; have hcz34_0 : w33.cell? ⟨gb9132, 0, none⟩ = some (.int .i64 a0_0) := (blk_cell BK9132.out 0).trans rfl; have hcz34_1 : w33.cell? ⟨gb9132, 1, none⟩ = some (.string a0_1) := (blk_cell BK9132.out 1).trans rfl; have hcz34_2 : w33.cell? ⟨gb9132, 2, none⟩ = some (.slice A0_2 l0_2.length c0_2) := (blk_cell BK9132.out 2).trans rfl; have hcz34_3 : w33.cell? ⟨gb9132, 3, none⟩ = some (.int .i64 a0_3) := (blk_cell BK9132.out 3).trans rfl; have hcz34_4 : w33.cell? ⟨gb9132, 4, none⟩ = some (.slice A0_4 l0_4.length c0_4) := (blk_cell BK9132.out 4).trans rfl; have hfz34_0 := blk_frozen BK9132.out 0; have hfz34_1 := blk_frozen BK9132.out 1; have hfz34_2 := blk_frozen BK9132.out 2; have hfz34_3 := blk_frozen BK9132.out 3; have hfz34_4 := blk_frozen BK9132.out 4) | ((with_reducible refine gate_callee (f := 56) rfl ?_); refine goesL_ (some 42) rfl rfl Tryd.func56 (by kernel_rfl) rfl #[.string a0_1] rfl (by (try simp only [List.map_toArray, List.map_cons, List.map_nil]); first | done | rfl | (simp only [List.length_drop, List.length_take]; rfl)) ?_; (with_reducible refine (spec_l1AtomOk.calls k a0_1 false _ A23.out).mono ?_); rintro e w' ⟨rfl, ⟨nd, rfl⟩⟩; refine ⟨_, rfl, ?_⟩))
     go_ret
     exact ⟨by first | rfl | (simp [errW_none, errW_some] <;> rfl) | (simp [*, errW_none, errW_some] <;> rfl), by repeat (first | (with_reducible first | exact HB.out | apply zB | apply zC | apply zE | refine below_set ?_ GE9132.out) | exact HB.out)⟩
   ·rw [if_neg c22] at H
    have c22b0 : (a0_0 == 2) = false := beq_eq_false_iff_ne.mpr c22
    have c22b1 : (a0_0 != 2) = true := bne_iff_ne.mpr c22
    have HC35 := Aq H
    clear H
    go_enter Tryd.func31, Tryd.ntmps31
    go_upto_if 64 with (first | ((with_reducible refine gate_dst (N := 2) rfl ?_); (try (refine gate_guard (by rfl) ?_; dsimp only)); refine box_event ?hg (N := 2) ?hd (cs := #[.int .i64 a0_0, .string a0_1, .slice A0_2 l0_2.length c0_2, .int .i64 a0_3, .slice A0_4 l0_4.length c0_4]) (t := 35) ?hr ?_; (case hd => rfl); (case hg => rfl); (case hr => first | (go_simp; done) | (go_simp; rfl)); intro gb9132 hg w36 hbox hb; have n0_ := Aq (below_step (by repeat (first | (with_reducible first | exact HB.out | apply zB | apply zC | apply zE) | exact HB.out)) hb); have n1_ := Aq (hbox); have n2_ := Aq ((by rw [hg]; exact (below_size (by repeat (first | (with_reducible first | exact HB.out | apply zB | apply zC | apply zE) | exact HB.out))) : w.heap.size ≤ gb9132)); have n3_ := Aq ((by rw [hg]; exact (below_size (by repeat (first | (with_reducible first | exact HB.out | apply zB | apply zC | apply zE) | exact HB.out))) : w.heap.size ≤ gb9132)); clear HB; have HB := n0_; have BK9132 := n1_; have GW9132 := n2_; have GE9132 := n3_; clear n0_ n1_ n2_ n3_ hb hbox hg; have hcz37_0 : w36.cell? ⟨gb9132, 0, none⟩ = some (.int .i64 a0_0) := (blk_cell BK9132.out 0).trans rfl; have hcz37_1 : w36.cell? ⟨gb9132, 1, none⟩ = some (.string a0_1) := (blk_cell BK9132.out 1).trans rfl; have hcz37_2 : w36.cell? ⟨gb9132, 2, none⟩ = some (.slice A0_2 l0_2.length c0_2) := (blk_cell BK9132.out 2).trans rfl; have hcz37_3 : w36.cell? ⟨gb9132, 3, none⟩ = some (.int .i64 a0_3) := (blk_cell BK9132.out 3).trans rfl; have hcz37_4 : w36.cell? ⟨gb9132, 4, none⟩ = some (.slice A0_4 l0_4.length c0_4) := (blk_cell BK9132.out 4).trans rfl; have hfz37_0 := blk_frozen BK9132.out 0; have hfz37_1 := blk_frozen BK9132.out 1; have hfz37_2 := blk_frozen BK9132.out 2; have hfz37_3 := blk_frozen BK9132.out 3; have hfz37_4 := blk_frozen BK9132.out 4))
    (try simp only [Act.put, sA, sB, sC])
    go_cut [64] (fun v64 wc => ∃ (kq : Nat) (x64_34 : Bool), v64 = .bool x64_34 ∧ Aside0 (spec_l1Ok.j0 kq a1 x64_34 a0_0 a0_1 l0_2 a0_3 l0_4 = some r) ∧ Aside0 (kq ≤ k) ∧ Aside0 (wc.heap[gb9132]? = some (.cells #[.int .i64 a0_0, .string a0_1, (.slice A0_2 l0_2.length c0_2), .int .i64 a0_3, (.slice A0_4 l0_4.length c0_4)] 35 (0, 0))) ∧ Aside0 (Below w.heap.size w wc))
    case first =>
     have H := HC35.out
     clear HC35
     by_cases c38 : a0_0 = 3
     ·rw [if_pos c38] at H
      have c38b0 : (a0_0 == 3) = true := beq_iff_eq.mpr c38
      have c38b1 : (a0_0 != 3) = false := bne_eq_false_iff_eq.mpr c38
      clear c38
      (first | rw [c38b0] | (simp only [i64_w, i32_w]; rw [c38b0]) | skip)
      have H' := Aq H
      clear H
      go_wp2
      go_meet
      case rel => exact ⟨_, ((a0_0 == 3)), (by first | rfl | (simp; done) | (simp [*]; done)), H', ⟨by first | omega | exact Nat.le_refl _⟩, ⟨by (with_reducible repeat (first | refine zN ?_ _ | refine zD ?_ | refine zA ?_ _)); exact BK9132.out⟩, ⟨by repeat (first | (with_reducible first | exact HB.out | apply zB | apply zC | apply zE | refine below_set ?_ GE9132.out) | exact HB.out)⟩⟩
     ·rw [if_neg c38] at H
      have c38b0 : (a0_0 == 3) = false := beq_eq_false_iff_ne.mpr c38
      have c38b1 : (a0_0 != 3) = true := bne_iff_ne.mpr c38
      (first | rw [c38b0] | (simp only [i64_w, i32_w]; rw [c38b0]) | skip)
      have H' := Aq H
      clear H
      go_wp2
      go_meet
      case rel => exact ⟨_, ((a0_0 == 4)), (by first | rfl | (simp; done) | (simp [*]; done)), H', ⟨by first | omega | exact Nat.le_refl _⟩, ⟨by (with_reducible repeat (first | refine zN ?_ _ | refine zD ?_ | refine zA ?_ _)); exact BK9132.out⟩, ⟨by repeat (first | (with_reducible first | exact HB.out | apply zB | apply zC | apply zE | refine below_set ?_ GE9132.out) | exact HB.out)⟩⟩
    case rest =>
     clear HC35
     try clear c1
     try clear c2
     try clear p2
     try clear c3
     try clear c3b0
     try clear c5
     try clear c5b0
     try clear c5b1
     try clear p6
     try clear c7
     try clear c8
     try clear c8b0
     try clear c8b1
     try clear c9
     try clear c9b0
     try clear c11
     try clear c22
     try clear c22b0
     try clear c22b1
     try clear c24
     try clear c25
     try clear c25b0
     try clear c25b1
     try clear c26
     try clear c26b0
     try clear c26b1
     try clear c31
     try clear c38
     try clear c38b0
     try clear c38b1
     try clear hcz13_0
     try clear hcz13_1
     try clear hcz13_2
     try clear hcz13_3
     try clear hcz13_4
     try clear hcz15_0
     try clear hcz15_1
     try clear hcz15_2
     try clear hcz15_3
     try clear hcz15_4
     try clear hcz17_0
     try clear hcz17_1
     try clear hcz17_2
     try clear hcz17_3
     try clear hcz17_4
     try clear hcz19_0
     try clear hcz19_1
     try clear hcz19_2
     try clear hcz19_3
     try clear hcz19_4
     try clear hcz21_0
     try clear hcz21_1
     try clear hcz21_2
     try clear hcz21_3
     try clear hcz21_4
     try clear hcz28_0
     try clear hcz28_1
     try clear hcz28_2
     try clear hcz28_3
     try clear hcz28_4
     try clear hcz30_0
     try clear hcz30_1
     try clear hcz30_2
     try clear hcz30_3
     try clear hcz30_4
     try clear hcz32_0
     try clear hcz32_1
     try clear hcz32_2
     try clear hcz32_3
     try clear hcz32_4
     try clear hcz34_0
     try clear hcz34_1
     try clear hcz34_2
     try clear hcz34_3
     try clear hcz34_4
     try clear hcz37_0
     try clear hcz37_1
     try clear hcz37_2
     try clear hcz37_3
     try clear hcz37_4
     try clear hfz13_0
     try clear hfz13_1
     try clear hfz13_2
     try clear hfz13_3
     try clear hfz13_4
     try clear hfz15_0
     try clear hfz15_1
     try clear hfz15_2
     try clear hfz15_3
     try clear hfz15_4
     try clear hfz17_0
     try clear hfz17_1
     try clear hfz17_2
     try clear hfz17_3
     try clear hfz17_4
     try clear hfz19_0
     try clear hfz19_1
     try clear hfz19_2
     try clear hfz19_3
     try clear hfz19_4
     try clear hfz21_0
     try clear hfz21_1
     try clear hfz21_2
     try clear hfz21_3
     try clear hfz21_4
     try clear hfz28_0
     try clear hfz28_1
     try clear hfz28_2
     try clear hfz28_3
     try clear hfz28_4
     try clear hfz30_0
     try clear hfz30_1
     try clear hfz30_2
     try clear hfz30_3
     try clear hfz30_4
     try clear hfz32_0
     try clear hfz32_1
     try clear hfz32_2
     try clear hfz32_3
     try clear hfz32_4
     try clear hfz34_0
     try clear hfz34_1
     try clear hfz34_2
     try clear hfz34_3
     try clear hfz34_4
     try clear hfz37_0
     try clear hfz37_1
     try clear hfz37_2
     try clear hfz37_3
     try clear hfz37_4
     obtain ⟨kq, x64_34, rfl, HA, HJ34, BK9132, HB⟩ := hcut
     cases kq with
     | zero => exact absurd HA.out (by simp [spec_l1Ok.j0])
     | succ kj34 =>
      have H := HA.out
      clear HA
      simp only [spec_l1Ok.j0] at H
      by_cases c39 : x64_34 = true
      ·subst c39
       have H1 : (if a0_1.toList = ([] : List UInt8) then (if a0_3 = 0 then (if (l0_2.length : Int) > 0 then (some false) else (spec_l1Ok.l0 kj34 a1 0 a0_0 a0_1 l0_2 a0_3 l0_4)) else (some false)) else (some false)) = some r := by rw [if_pos rfl] at H; exact H
       clear H
       have H := H1
       clear H1
       by_cases c40 : a0_1.toList = ([] : List UInt8)
       ·rw [if_pos c40] at H
        have c40b0 : (a0_1.toList == ([] : List UInt8)) = true := beq_iff_eq.mpr c40
        have c40b1 : (a0_1.toList != ([] : List UInt8)) = false := bne_eq_false_iff_eq.mpr c40
        clear c40
        by_cases c41 : a0_3 = 0
        ·rw [if_pos c41] at H
         have c41b0 : (a0_3 == 0) = true := beq_iff_eq.mpr c41
         have c41b1 : (a0_3 != 0) = false := bne_eq_false_iff_eq.mpr c41
         clear c41
         by_cases c42 : (l0_2.length : Int) > 0
         ·rw [if_pos c42] at H
          have c42b0 : decide (0 < (l0_2.length : Int)) = true := decide_eq_true c42
          have c42b1 : decide (0 < l0_2.length) = true := decide_eq_true (by omega)
          clear c42
          obtain rfl := Option.some.inj H
          have hcz43_0 : wc.cell? ⟨gb9132, 0, none⟩ = some (.int .i64 a0_0) := (blk_cell BK9132.out 0).trans rfl
          have hcz43_1 : wc.cell? ⟨gb9132, 1, none⟩ = some (.string a0_1) := (blk_cell BK9132.out 1).trans rfl
          have hcz43_2 : wc.cell? ⟨gb9132, 2, none⟩ = some (.slice A0_2 l0_2.length c0_2) := (blk_cell BK9132.out 2).trans rfl
          have hcz43_3 : wc.cell? ⟨gb9132, 3, none⟩ = some (.int .i64 a0_3) := (blk_cell BK9132.out 3).trans rfl
          have hcz43_4 : wc.cell? ⟨gb9132, 4, none⟩ = some (.slice A0_4 l0_4.length c0_4) := (blk_cell BK9132.out 4).trans rfl
          have hfz43_0 := blk_frozen BK9132.out 0
          have hfz43_1 := blk_frozen BK9132.out 1
          have hfz43_2 := blk_frozen BK9132.out 2
          have hfz43_3 := blk_frozen BK9132.out 3
          have hfz43_4 := blk_frozen BK9132.out 4
          go_wp2
          go_ret
          exact ⟨by first | rfl | (simp [errW_none, errW_some] <;> rfl) | (simp [*, errW_none, errW_some] <;> rfl), by repeat (first | (with_reducible first | exact HB.out | apply zB | apply zC | apply zE | refine below_set ?_ GE9132.out) | exact HB.out)⟩
         ·rw [if_neg c42] at H
          have c42b0 : decide (0 < (l0_2.length : Int)) = false := decide_eq_false c42
          have c42b1 : decide (0 < l0_2.length) = false := decide_eq_false (by omega)
          clear c42
          have H' := Aq H
          clear H
          have hcz44_0 : wc.cell? ⟨gb9132, 0, none⟩ = some (.int .i64 a0_0) := (blk_cell BK9132.out 0).trans rfl
          have hcz44_1 : wc.cell? ⟨gb9132, 1, none⟩ = some (.string a0_1) := (blk_cell BK9132.out 1).trans rfl
          have hcz44_2 : wc.cell? ⟨gb9132, 2, none⟩ = some (.slice A0_2 l0_2.length c0_2) := (blk_cell BK9132.out 2).trans rfl
          have hcz44_3 : wc.cell? ⟨gb9132, 3, none⟩ = some (.int .i64 a0_3) := (blk_cell BK9132.out 3).trans rfl
          have hcz44_4 : wc.cell? ⟨gb9132, 4, none⟩ = some (.slice A0_4 l0_4.length c0_4) := (blk_cell BK9132.out 4).trans rfl
          have hfz44_0 := blk_frozen BK9132.out 0
          have hfz44_1 := blk_frozen BK9132.out 1
          have hfz44_2 := blk_frozen BK9132.out 2
          have hfz44_3 := blk_frozen BK9132.out 3
          have hfz44_4 := blk_frozen BK9132.out 4
          go_wp2
          go_loopg [5] kj34 (fun kq v5 w' => ∃ (x5_2 : Int), v5 = .int .i64 x5_2 ∧ Aside0 (spec_l1Ok.l0 kq a1 x5_2 a0_0 a0_1 l0_2 a0_3 l0_4 = some r) ∧ Aside0 (kq ≤ kj34) ∧ Aside0 (w'.heap[gb9132]? = some (.cells #[.int .i64 a0_0, .string a0_1, (.slice A0_2 l0_2.length c0_2), .int .i64 a0_3, (.slice A0_4 l0_4.length c0_4)] 35 (0, 0))) ∧ Aside0 (Below w.heap.size w w'))
          case atStart => exact ⟨(0), (by first | rfl | (simp; done) | (simp [*]; done)), H', ⟨Nat.le_refl _⟩, ⟨by (with_reducible repeat (first | refine zN ?_ _ | refine zD ?_ | refine zA ?_ _)); exact BK9132.out⟩, ⟨by repeat (first | (with_reducible first | exact HB.out | apply zB | apply zC | apply zE | refine below_set ?_ GE9132.out) | exact HB.out)⟩⟩
          case round =>
           clear H'
           try clear c1
           try clear c2
           try clear p2
           try clear c3
           try clear c3b0
           try clear c4
           try clear c5
           try clear c5b0
           try clear c5b1
           try clear p6
           try clear c7
           try clear c8
           try clear c8b0
           try clear c8b1
           try clear c9
           try clear c9b0
           try clear c11
           try clear c22
           try clear c22b0
           try clear c22b1
           try clear c24
           try clear c25
           try clear c25b0
           try clear c25b1
           try clear c26
           try clear c26b0
           try clear c26b1
           try clear c31
           try clear c38
           try clear c38b0
           try clear c38b1
           try clear c39
           try clear c40
           try clear c40b0
           try clear c40b1
           try clear c41
           try clear c41b0
           try clear c41b1
           try clear c42
           try clear c42b0
           try clear c42b1
           try clear hcz13_0
           try clear hcz13_1
           try clear hcz13_2
           try clear hcz13_3
           try clear hcz13_4
           try clear hcz15_0
           try clear hcz15_1
           try clear hcz15_2
           try clear hcz15_3
           try clear hcz15_4
           try clear hcz17_0
           try clear hcz17_1
           try clear hcz17_2
           try clear hcz17_3
           try clear hcz17_4
           try clear hcz19_0
           try clear hcz19_1
           try clear hcz19_2
           try clear hcz19_3
           try clear hcz19_4
           try clear hcz21_0
           try clear hcz21_1
           try clear hcz21_2
           try clear hcz21_3
           try clear hcz21_4
           try clear hcz28_0
           try clear hcz28_1
           try clear hcz28_2
           try clear hcz28_3
           try clear hcz28_4
           try clear hcz30_0
           try clear hcz30_1
           try clear hcz30_2
           try clear hcz30_3
           try clear hcz30_4
           try clear hcz32_0
           try clear hcz32_1
           try clear hcz32_2
           try clear hcz32_3
           try clear hcz32_4
           try clear hcz34_0
           try clear hcz34_1
           try clear hcz34_2
           try clear hcz34_3
           try clear hcz34_4
           try clear hcz37_0
           try clear hcz37_1
           try clear hcz37_2
           try clear hcz37_3
           try clear hcz37_4
           try clear hcz43_0
           try clear hcz43_1
           try clear hcz43_2
           try clear hcz43_3
           try clear hcz43_4
           try clear hcz44_0
           try clear hcz44_1
           try clear hcz44_2
           try clear hcz44_3
           try clear hcz44_4
           try clear hfz13_0
           try clear hfz13_1
           try clear hfz13_2
           try clear hfz13_3
           try clear hfz13_4
           try clear hfz15_0
           try clear hfz15_1
           try clear hfz15_2
           try clear hfz15_3
           try clear hfz15_4
           try clear hfz17_0
           try clear hfz17_1
           try clear hfz17_2
           try clear hfz17_3
           try clear hfz17_4
           try clear hfz19_0
           try clear hfz19_1
           try clear hfz19_2
           try clear hfz19_3
           try clear hfz19_4
           try clear hfz21_0
           try clear hfz21_1
           try clear hfz21_2
           try clear hfz21_3
           try clear hfz21_4
           try clear hfz28_0
           try clear hfz28_1
           try clear hfz28_2
           try clear hfz28_3
           try clear hfz28_4
           try clear hfz30_0
           try clear hfz30_1
           try clear hfz30_2
           try clear hfz30_3
           try clear hfz30_4
           try clear hfz32_0
           try clear hfz32_1
           try clear hfz32_2
           try clear hfz32_3
           try clear hfz32_4
           try clear hfz34_0
           try clear hfz34_1
           try clear hfz34_2
           try clear hfz34_3
           try clear hfz34_4
           try clear hfz37_0
           try clear hfz37_1
           try clear hfz37_2
           try clear hfz37_3
           try clear hfz37_4
           try clear hfz43_0
           try clear hfz43_1
           try clear hfz43_2
           try clear hfz43_3
           try clear hfz43_4
           try clear hfz44_0
           try clear hfz44_1
           try clear hfz44_2
           try clear hfz44_3
           try clear hfz44_4
           try clear p2
           try clear p6
           obtain ⟨x5_2, rfl, HA, HK2, BK9132, HB⟩ := hrel
           cases gk with
           | zero => exact absurd HA.out (by simp [spec_l1Ok.l0])
           | succ k2 =>
            have H := HA.out
            clear HA
            simp only [spec_l1Ok.l0] at H
            by_cases c45 : x5_2 < (l0_4.length : Int)
            ·rw [if_pos c45] at H
             have c45b0 : decide (x5_2 < (l0_4.length : Int)) = true := decide_eq_true c45
             clear c45
             by_cases c46 : 0 ≤ x5_2
             ·rw [if_pos c46] at H
              have c46b0 : decide (0 ≤ x5_2) = true := decide_eq_true c46
              clear c46
              replace H := Option.bind_eq_some_iff.mp H
              obtain ⟨t9137, A470, H⟩ := H
              replace H : (if t9137 = true then (spec_l1Ok.l0 k2 a1 (wrap64 (x5_2 + 1)) a0_0 a0_1 l0_2 a0_3 l0_4) else (some false)) = some r := H
              have A47 := Aq A470
              clear A470
              by_cases c48 : t9137 = true
              ·subst c48
               have H1 : (spec_l1Ok.l0 k2 a1 (wrap64 (x5_2 + 1)) a0_0 a0_1 l0_2 a0_3 l0_4) = some r := by rw [if_pos rfl] at H; exact H
               clear H
               have H := H1
               clear H1
               have H' := Aq H
               clear H
               have hcz49_0 : wr.cell? ⟨gb9132, 0, none⟩ = some (.int .i64 a0_0) := (blk_cell BK9132.out 0).trans rfl
               have hcz49_1 : wr.cell? ⟨gb9132, 1, none⟩ = some (.string a0_1) := (blk_cell BK9132.out 1).trans rfl
               have hcz49_2 : wr.cell? ⟨gb9132, 2, none⟩ = some (.slice A0_2 l0_2.length c0_2) := (blk_cell BK9132.out 2).trans rfl
               have hcz49_3 : wr.cell? ⟨gb9132, 3, none⟩ = some (.int .i64 a0_3) := (blk_cell BK9132.out 3).trans rfl
               have hcz49_4 : wr.cell? ⟨gb9132, 4, none⟩ = some (.slice A0_4 l0_4.length c0_4) := (blk_cell BK9132.out 4).trans rfl
               have hfz49_0 := blk_frozen BK9132.out 0
               have hfz49_1 := blk_frozen BK9132.out 1
               have hfz49_2 := blk_frozen BK9132.out 2
               have hfz49_3 := blk_frozen BK9132.out 3
               have hfz49_4 := blk_frozen BK9132.out 4
               have p9136 : 0 ≤ (x5_2 : Int) := of_decide_eq_true (by first | (with_reducible assumption) | assumption)
               have q9136 : x5_2 < (l0_4.length : Int) := of_decide_eq_true (by first | (with_reducible assumption) | assumption)
               obtain ⟨ad9136, A9136_2, c9136_2, A9136_4, c9136_4, e9136, hx9136_0, hx9136_1, hx9136_2, hx9136_3, hx9136_4, hl9136_2, hi9136_2, hl9136_4, hi9136_4⟩ := at_T35 HR0_4.out x5_2 p9136 q9136
               cases e9136
               replace hx9136_0 := (HB.out.cell (World.block_lt_of_cell? w _ hx9136_0)).trans hx9136_0
               replace hx9136_1 := (HB.out.cell (World.block_lt_of_cell? w _ hx9136_1)).trans hx9136_1
               replace hx9136_2 := (HB.out.cell (World.block_lt_of_cell? w _ hx9136_2)).trans hx9136_2
               replace hx9136_3 := (HB.out.cell (World.block_lt_of_cell? w _ hx9136_3)).trans hx9136_3
               replace hx9136_4 := (HB.out.cell (World.block_lt_of_cell? w _ hx9136_4)).trans hx9136_4
               have HR9136_2 := Aq hi9136_2
               have HC9136_2 := Aq hl9136_2
               clear hi9136_2 hl9136_2
               have HR9136_4 := Aq hi9136_4
               have HC9136_4 := Aq hl9136_4
               clear hi9136_4 hl9136_4
               replace p9136 := eq_true p9136
               replace q9136 := eq_true q9136
               go_wp2_with (first | ((with_reducible refine gate_callee (f := 31) rfl ?_); refine goesL_ (some 95) rfl rfl Tryd.func31 (by kernel_rfl) rfl #[.agg #[.int .i64 ((rd_T35 l0_4 x5_2).f0), .string ((rd_T35 l0_4 x5_2).f1), .slice A9136_2 ((rd_T35 l0_4 x5_2).f2).length c9136_2, .int .i64 ((rd_T35 l0_4 x5_2).f3), .slice A9136_4 ((rd_T35 l0_4 x5_2).f4).length c9136_4], .int .i64 (wrap64 (a1 + 1))] rfl (by (try simp only [List.map_toArray, List.map_cons, List.map_nil]); first | done | rfl | (simp only [List.length_drop, List.length_take]; rfl)) ?_; (with_reducible refine (ih k2 (by have := HJ34.out; have := HK2.out; omega) ((rd_T35 l0_4 x5_2).f0) ((rd_T35 l0_4 x5_2).f1) _ _ ((rd_T35 l0_4 x5_2).f2) ((rd_T35 l0_4 x5_2).f3) _ _ ((rd_T35 l0_4 x5_2).f4) (wrap64 (a1 + 1)) true _ ?side1 ?side2 ?side3 ?side4 A47.out).mono ?_); (case side1 => repeat (first | exact (Kd.C_below HR9136_2.out HB.out) | (with_reducible refine Kd.C_alloc ?_ _) | (with_reducible refine Kd.C_drewN ?_ _) | (with_reducible refine Kd.C_drew ?_))); (case side2 => exact HC9136_2.out); (case side3 => repeat (first | exact (Kd.C_below HR9136_4.out HB.out) | (with_reducible refine Kd.C_alloc ?_ _) | (with_reducible refine Kd.C_drewN ?_ _) | (with_reducible refine Kd.C_drew ?_))); (case side4 => exact HC9136_4.out); rintro e w50 ⟨rfl, hb⟩; refine ⟨_, rfl, ?_⟩; have n0_ := Aq (blk_below (g := gb9132) (o := .cells #[.int .i64 a0_0, .string a0_1, .slice A0_2 l0_2.length c0_2, .int .i64 a0_3, .slice (some ad9136) l0_4.length c0_4] 35 (0, 0)) (by (with_reducible repeat (first | refine zN ?_ _ | refine zD ?_ | refine zA ?_ _)); exact BK9132.out) hb); have n1_ := Aq (below_step (by repeat (first | (with_reducible first | exact HB.out | apply zB | apply zC | apply zE | refine below_set ?_ GE9132.out) | exact HB.out)) hb); clear BK9132 HB; have BK9132 := n0_; have HB := n1_; clear n0_ n1_; (try clear hb); (try clear hb2); (try clear hk); (try clear hi)))
               go_roundg k2
               case measure => have := HJ34.out; have := HK2.out; omega
               case rel => exact ⟨(wrap64 (x5_2 + 1)), (by first | rfl | (simp; done) | (simp [*]; done)), H', ⟨by have := HJ34.out; have := HK2.out; omega⟩, ⟨by (with_reducible repeat (first | refine zN ?_ _ | refine zD ?_ | refine zA ?_ _)); exact BK9132.out⟩, ⟨by repeat (first | (with_reducible first | exact HB.out | apply zB | apply zC | apply zE | refine below_set ?_ GE9132.out) | exact HB.out)⟩⟩
              ·replace c48 := Bool.eq_false_iff.mpr c48
               subst c48
               have H1 : (some false) = some r := by rw [if_neg (show ¬ (false = true) by decide)] at H; exact H
               clear H
               have H := H1
               clear H1
               obtain rfl := Option.some.inj H
               have hcz51_0 : wr.cell? ⟨gb9132, 0, none⟩ = some (.int .i64 a0_0) := (blk_cell BK9132.out 0).trans rfl
               have hcz51_1 : wr.cell? ⟨gb9132, 1, none⟩ = some (.string a0_1) := (blk_cell BK9132.out 1).trans rfl
               have hcz51_2 : wr.cell? ⟨gb9132, 2, none⟩ = some (.slice A0_2 l0_2.length c0_2) := (blk_cell BK9132.out 2).trans rfl
               have hcz51_3 : wr.cell? ⟨gb9132, 3, none⟩ = some (.int .i64 a0_3) := (blk_cell BK9132.out 3).trans rfl
               have hcz51_4 : wr.cell? ⟨gb9132, 4, none⟩ = some (.slice A0_4 l0_4.length c0_4) := (blk_cell BK9132.out 4).trans rfl
               have hfz51_0 := blk_frozen BK9132.out 0
               have hfz51_1 := blk_frozen BK9132.out 1
               have hfz51_2 := blk_frozen BK9132.out 2
               have hfz51_3 := blk_frozen BK9132.out 3
               have hfz51_4 := blk_frozen BK9132.out 4
               have p9136 : 0 ≤ (x5_2 : Int) := of_decide_eq_true (by first | (with_reducible assumption) | assumption)
               have q9136 : x5_2 < (l0_4.length : Int) := of_decide_eq_true (by first | (with_reducible assumption) | assumption)
               obtain ⟨ad9136, A9136_2, c9136_2, A9136_4, c9136_4, e9136, hx9136_0, hx9136_1, hx9136_2, hx9136_3, hx9136_4, hl9136_2, hi9136_2, hl9136_4, hi9136_4⟩ := at_T35 HR0_4.out x5_2 p9136 q9136
               cases e9136
               replace hx9136_0 := (HB.out.cell (World.block_lt_of_cell? w _ hx9136_0)).trans hx9136_0
               replace hx9136_1 := (HB.out.cell (World.block_lt_of_cell? w _ hx9136_1)).trans hx9136_1
               replace hx9136_2 := (HB.out.cell (World.block_lt_of_cell? w _ hx9136_2)).trans hx9136_2
               replace hx9136_3 := (HB.out.cell (World.block_lt_of_cell? w _ hx9136_3)).trans hx9136_3
               replace hx9136_4 := (HB.out.cell (World.block_lt_of_cell? w _ hx9136_4)).trans hx9136_4
               have HR9136_2 := Aq hi9136_2
               have HC9136_2 := Aq hl9136_2
               clear hi9136_2 hl9136_2
               have HR9136_4 := Aq hi9136_4
               have HC9136_4 := Aq hl9136_4
               clear hi9136_4 hl9136_4
               replace p9136 := eq_true p9136
               replace q9136 := eq_true q9136
               go_wp2_with (first | ((with_reducible refine gate_callee (f := 31) rfl ?_); refine goesL_ (some 95) rfl rfl Tryd.func31 (by kernel_rfl) rfl #[.agg #[.int .i64 ((rd_T35 l0_4 x5_2).f0), .string ((rd_T35 l0_4 x5_2).f1), .slice A9136_2 ((rd_T35 l0_4 x5_2).f2).length c9136_2, .int .i64 ((rd_T35 l0_4 x5_2).f3), .slice A9136_4 ((rd_T35 l0_4 x5_2).f4).length c9136_4], .int .i64 (wrap64 (a1 + 1))] rfl (by (try simp only [List.map_toArray, List.map_cons, List.map_nil]); first | done | rfl | (simp only [List.length_drop, List.length_take]; rfl)) ?_; (with_reducible refine (ih k2 (by have := HJ34.out; have := HK2.out; omega) ((rd_T35 l0_4 x5_2).f0) ((rd_T35 l0_4 x5_2).f1) _ _ ((rd_T35 l0_4 x5_2).f2) ((rd_T35 l0_4 x5_2).f3) _ _ ((rd_T35 l0_4 x5_2).f4) (wrap64 (a1 + 1)) false _ ?side1 ?side2 ?side3 ?side4 A47.out).mono ?_); (case side1 => repeat (first | exact (Kd.C_below HR9136_2.out HB.out) | (with_reducible refine Kd.C_alloc ?_ _) | (with_reducible refine Kd.C_drewN ?_ _) | (with_reducible refine Kd.C_drew ?_))); (case side2 => exact HC9136_2.out); (case side3 => repeat (first | exact (Kd.C_below HR9136_4.out HB.out) | (with_reducible refine Kd.C_alloc ?_ _) | (with_reducible refine Kd.C_drewN ?_ _) | (with_reducible refine Kd.C_drew ?_))); (case side4 => exact HC9136_4.out); rintro e w52 ⟨rfl, hb⟩; refine ⟨_, rfl, ?_⟩; have n0_ := Aq (blk_below (g := gb9132) (o := .cells #[.int .i64 a0_0, .string a0_1, .slice A0_2 l0_2.length c0_2, .int .i64 a0_3, .slice (some ad9136) l0_4.length c0_4] 35 (0, 0)) (by (with_reducible repeat (first | refine zN ?_ _ | refine zD ?_ | refine zA ?_ _)); exact BK9132.out) hb); have n1_ := Aq (below_step (by repeat (first | (with_reducible first | exact HB.out | apply zB | apply zC | apply zE | refine below_set ?_ GE9132.out) | exact HB.out)) hb); clear BK9132 HB; have BK9132 := n0_; have HB := n1_; clear n0_ n1_; (try clear hb); (try clear hb2); (try clear hk); (try clear hi)))
               go_ret
               exact ⟨by first | rfl | (simp [errW_none, errW_some] <;> rfl) | (simp [*, errW_none, errW_some] <;> rfl), by repeat (first | (with_reducible first | exact HB.out | apply zB | apply zC | apply zE | refine below_set ?_ GE9132.out) | exact HB.out)⟩
             ·rw [if_neg c46] at H
              exact absurd H (by simp)
            ·rw [if_neg c45] at H
             have c45b0 : decide (x5_2 < (l0_4.length : Int)) = false := decide_eq_false c45
             clear c45
             by_cases c53 : a0_0 = 3
             ·rw [if_pos c53] at H
              have c53b0 : (a0_0 == 3) = true := beq_iff_eq.mpr c53
              have c53b1 : (a0_0 != 3) = false := bne_eq_false_iff_eq.mpr c53
              clear c53
              obtain rfl := Option.some.inj H
              have hcz54_0 : wr.cell? ⟨gb9132, 0, none⟩ = some (.int .i64 a0_0) := (blk_cell BK9132.out 0).trans rfl
              have hcz54_1 : wr.cell? ⟨gb9132, 1, none⟩ = some (.string a0_1) := (blk_cell BK9132.out 1).trans rfl
              have hcz54_2 : wr.cell? ⟨gb9132, 2, none⟩ = some (.slice A0_2 l0_2.length c0_2) := (blk_cell BK9132.out 2).trans rfl
              have hcz54_3 : wr.cell? ⟨gb9132, 3, none⟩ = some (.int .i64 a0_3) := (blk_cell BK9132.out 3).trans rfl
              have hcz54_4 : wr.cell? ⟨gb9132, 4, none⟩ = some (.slice A0_4 l0_4.length c0_4) := (blk_cell BK9132.out 4).trans rfl
              have hfz54_0 := blk_frozen BK9132.out 0
              have hfz54_1 := blk_frozen BK9132.out 1
              have hfz54_2 := blk_frozen BK9132.out 2
              have hfz54_3 := blk_frozen BK9132.out 3
              have hfz54_4 := blk_frozen BK9132.out 4
              go_wp2
              go_ret
              exact ⟨by first | rfl | (simp [errW_none, errW_some] <;> rfl) | (simp [*, errW_none, errW_some] <;> rfl), by repeat (first | (with_reducible first | exact HB.out | apply zB | apply zC | apply zE | refine below_set ?_ GE9132.out) | exact HB.out)⟩
             ·rw [if_neg c53] at H
              have c53b0 : (a0_0 == 3) = false := beq_eq_false_iff_ne.mpr c53
              have c53b1 : (a0_0 != 3) = true := bne_iff_ne.mpr c53
              by_cases c55 : (l0_4.length : Int) > 1
              ·rw [if_pos c55] at H
               have c55b0 : decide (1 < (l0_4.length : Int)) = true := decide_eq_true c55
               have c55b1 : decide (1 < l0_4.length) = true := decide_eq_true (by omega)
               clear c55
               obtain ⟨ji56, hji56⟩ : ∃ j_ : Int, (wrap64 ((l0_4.length : Int) - 1)) = j_ := ⟨_, rfl⟩
               replace H : (if 0 ≤ (ji56) then (if (ji56) < (l0_4.length : Int) then (if ((rd_T35 l0_4 (ji56)).f0) = 1 then (some true) else (some (((rd_T35 l0_4 (ji56)).f0) == 2))) else (none)) else (none)) = some r := by first | (rw [hji56] at H; exact H) | (simp only [hji56] at H ⊢; exact H)
               have hji56w : (IntKind.i64.wrap ((l0_4.length : Int) - 1)) = ji56 := (i64_w _).trans hji56
               by_cases c57 : 0 ≤ (ji56)
               ·rw [if_pos c57] at H
                have c57b0 : decide (0 ≤ (ji56)) = true := decide_eq_true c57
                clear c57
                by_cases c58 : (ji56) < (l0_4.length : Int)
                ·rw [if_pos c58] at H
                 have c58b0 : decide ((ji56) < (l0_4.length : Int)) = true := decide_eq_true c58
                 clear c58
                 by_cases c59 : ((rd_T35 l0_4 (ji56)).f0) = 1
                 ·rw [if_pos c59] at H
                  have c59b0 : (((rd_T35 l0_4 (ji56)).f0) == 1) = true := beq_iff_eq.mpr c59
                  have c59b1 : (((rd_T35 l0_4 (ji56)).f0) != 1) = false := bne_eq_false_iff_eq.mpr c59
                  clear c59
                  obtain rfl := Option.some.inj H
                  have hcz60_0 : wr.cell? ⟨gb9132, 0, none⟩ = some (.int .i64 a0_0) := (blk_cell BK9132.out 0).trans rfl
                  have hcz60_1 : wr.cell? ⟨gb9132, 1, none⟩ = some (.string a0_1) := (blk_cell BK9132.out 1).trans rfl
                  have hcz60_2 : wr.cell? ⟨gb9132, 2, none⟩ = some (.slice A0_2 l0_2.length c0_2) := (blk_cell BK9132.out 2).trans rfl
                  have hcz60_3 : wr.cell? ⟨gb9132, 3, none⟩ = some (.int .i64 a0_3) := (blk_cell BK9132.out 3).trans rfl
                  have hcz60_4 : wr.cell? ⟨gb9132, 4, none⟩ = some (.slice A0_4 l0_4.length c0_4) := (blk_cell BK9132.out 4).trans rfl
                  have hfz60_0 := blk_frozen BK9132.out 0
                  have hfz60_1 := blk_frozen BK9132.out 1
                  have hfz60_2 := blk_frozen BK9132.out 2
                  have hfz60_3 := blk_frozen BK9132.out 3
                  have hfz60_4 := blk_frozen BK9132.out 4
                  have p9138 : 0 ≤ ((ji56) : Int) := of_decide_eq_true (by first | (with_reducible assumption) | assumption)
                  have q9138 : (ji56) < (l0_4.length : Int) := of_decide_eq_true (by first | (with_reducible assumption) | assumption)
                  obtain ⟨ad9138, A9138_2, c9138_2, A9138_4, c9138_4, e9138, hx9138_0, hx9138_1, hx9138_2, hx9138_3, hx9138_4, hl9138_2, hi9138_2, hl9138_4, hi9138_4⟩ := at_T35 HR0_4.out (ji56) p9138 q9138
                  cases e9138
                  replace hx9138_0 := (HB.out.cell (World.block_lt_of_cell? w _ hx9138_0)).trans hx9138_0
                  replace hx9138_1 := (HB.out.cell (World.block_lt_of_cell? w _ hx9138_1)).trans hx9138_1
                  replace hx9138_2 := (HB.out.cell (World.block_lt_of_cell? w _ hx9138_2)).trans hx9138_2
                  replace hx9138_3 := (HB.out.cell (World.block_lt_of_cell? w _ hx9138_3)).trans hx9138_3
                  replace hx9138_4 := (HB.out.cell (World.block_lt_of_cell? w _ hx9138_4)).trans hx9138_4
                  have HR9138_2 := Aq hi9138_2
                  have HC9138_2 := Aq hl9138_2
                  clear hi9138_2 hl9138_2
                  have HR9138_4 := Aq hi9138_4
                  have HC9138_4 := Aq hl9138_4
                  clear hi9138_4 hl9138_4
                  replace p9138 := eq_true p9138
                  replace q9138 := eq_true q9138
                  go_wp2
                  go_ret
                  exact ⟨by first | rfl | (simp [errW_none, errW_some] <;> rfl) | (simp only [← hji56]; first | rfl | (simp [errW_none, errW_some] <;> rfl)) | (simp [*, errW_none, errW_some] <;> rfl), by repeat (first | (with_reducible first | exact HB.out | apply zB | apply zC | apply zE | refine below_set ?_ GE9132.out) | exact HB.out)⟩
                 ·rw [if_neg c59] at H
                  have c59b0 : (((rd_T35 l0_4 (ji56)).f0) == 1) = false := beq_eq_false_iff_ne.mpr c59
                  have c59b1 : (((rd_T35 l0_4 (ji56)).f0) != 1) = true := bne_iff_ne.mpr c59
                  obtain rfl := Option.some.inj H
                  have hcz61_0 : wr.cell? ⟨gb9132, 0, none⟩ = some (.int .i64 a0_0) := (blk_cell BK9132.out 0).trans rfl
                  have hcz61_1 : wr.cell? ⟨gb9132, 1, none⟩ = some (.string a0_1) := (blk_cell BK9132.out 1).trans rfl
                  have hcz61_2 : wr.cell? ⟨gb9132, 2, none⟩ = some (.slice A0_2 l0_2.length c0_2) := (blk_cell BK9132.out 2).trans rfl
                  have hcz61_3 : wr.cell? ⟨gb9132, 3, none⟩ = some (.int .i64 a0_3) := (blk_cell BK9132.out 3).trans rfl
                  have hcz61_4 : wr.cell? ⟨gb9132, 4, none⟩ = some (.slice A0_4 l0_4.length c0_4) := (blk_cell BK9132.out 4).trans rfl
                  have hfz61_0 := blk_frozen BK9132.out 0
                  have hfz61_1 := blk_frozen BK9132.out 1
                  have hfz61_2 := blk_frozen BK9132.out 2
                  have hfz61_3 := blk_frozen BK9132.out 3
                  have hfz61_4 := blk_frozen BK9132.out 4
                  have p9138 : 0 ≤ ((ji56) : Int) := of_decide_eq_true (by first | (with_reducible assumption) | assumption)
                  have q9138 : (ji56) < (l0_4.length : Int) := of_decide_eq_true (by first | (with_reducible assumption) | assumption)
                  obtain ⟨ad9138, A9138_2, c9138_2, A9138_4, c9138_4, e9138, hx9138_0, hx9138_1, hx9138_2, hx9138_3, hx9138_4, hl9138_2, hi9138_2, hl9138_4, hi9138_4⟩ := at_T35 HR0_4.out (ji56) p9138 q9138
                  cases e9138
                  replace hx9138_0 := (HB.out.cell (World.block_lt_of_cell? w _ hx9138_0)).trans hx9138_0
                  replace hx9138_1 := (HB.out.cell (World.block_lt_of_cell? w _ hx9138_1)).trans hx9138_1
                  replace hx9138_2 := (HB.out.cell (World.block_lt_of_cell? w _ hx9138_2)).trans hx9138_2
                  replace hx9138_3 := (HB.out.cell (World.block_lt_of_cell? w _ hx9138_3)).trans hx9138_3
                  replace hx9138_4 := (HB.out.cell (World.block_lt_of_cell? w _ hx9138_4)).trans hx9138_4
                  have HR9138_2 := Aq hi9138_2
                  have HC9138_2 := Aq hl9138_2
                  clear hi9138_2 hl9138_2
                  have HR9138_4 := Aq hi9138_4
                  have HC9138_4 := Aq hl9138_4
                  clear hi9138_4 hl9138_4
                  replace p9138 := eq_true p9138
                  replace q9138 := eq_true q9138
                  have p9139 : 0 ≤ ((ji56) : Int) := of_decide_eq_true (by first | (with_reducible assumption) | assumption)
                  have q9139 : (ji56) < (l0_4.length : Int) := of_decide_eq_true (by first | (with_reducible assumption) | assumption)
                  obtain ⟨ad9139, A9139_2, c9139_2, A9139_4, c9139_4, e9139, hx9139_0, hx9139_1, hx9139_2, hx9139_3, hx9139_4, hl9139_2, hi9139_2, hl9139_4, hi9139_4⟩ := at_T35 HR0_4.out (ji56) p9139 q9139
                  obtain rfl : ad9138 = ad9139 := (by injection e9139)
                  replace hx9139_0 := (HB.out.cell (World.block_lt_of_cell? w _ hx9139_0)).trans hx9139_0
                  replace hx9139_1 := (HB.out.cell (World.block_lt_of_cell? w _ hx9139_1)).trans hx9139_1
                  replace hx9139_2 := (HB.out.cell (World.block_lt_of_cell? w _ hx9139_2)).trans hx9139_2
                  replace hx9139_3 := (HB.out.cell (World.block_lt_of_cell? w _ hx9139_3)).trans hx9139_3
                  replace hx9139_4 := (HB.out.cell (World.block_lt_of_cell? w _ hx9139_4)).trans hx9139_4
                  have HR9139_2 := Aq hi9139_2
                  have HC9139_2 := Aq hl9139_2
                  clear hi9139_2 hl9139_2
                  have HR9139_4 := Aq hi9139_4
                  have HC9139_4 := Aq hl9139_4
                  clear hi9139_4 hl9139_4
                  replace p9139 := eq_true p9139
                  replace q9139 := eq_true q9139
                  have ea_ := Option.some.inj (hx9138_2.symm.trans hx9139_2)
                  injection ea_ with ea_ en_ ec_
                  subst ea_
                  subst ec_
                  clear en_
                  have ea_ := Option.some.inj (hx9138_4.symm.trans hx9139_4)
                  injection ea_ with ea_ en_ ec_
                  subst ea_
                  subst ec_
                  clear en_
                  go_wp2
                  go_ret
                  exact ⟨by first | rfl | (simp [errW_none, errW_some] <;> rfl) | (simp only [← hji56]; first | rfl | (simp [errW_none, errW_some] <;> rfl)) | (simp [*, errW_none, errW_some] <;> rfl), by repeat (first | (with_reducible first | exact HB.out | apply zB | apply zC | apply zE | refine below_set ?_ GE9132.out) | exact HB.out)⟩
                ·rw [if_neg c58] at H
                 exact absurd H (by simp)
               ·rw [if_neg c57] at H
                exact absurd H (by simp)
              ·rw [if_neg c55] at H
               have c55b0 : decide (1 < (l0_4.length : Int)) = false := decide_eq_false c55
               have c55b1 : decide (1 < l0_4.length) = false := decide_eq_false (by omega)
               clear c55
               obtain rfl := Option.some.inj H
               have hcz62_0 : wr.cell? ⟨gb9132, 0, none⟩ = some (.int .i64 a0_0) := (blk_cell BK9132.out 0).trans rfl
               have hcz62_1 : wr.cell? ⟨gb9132, 1, none⟩ = some (.string a0_1) := (blk_cell BK9132.out 1).trans rfl
               have hcz62_2 : wr.cell? ⟨gb9132, 2, none⟩ = some (.slice A0_2 l0_2.length c0_2) := (blk_cell BK9132.out 2).trans rfl
               have hcz62_3 : wr.cell? ⟨gb9132, 3, none⟩ = some (.int .i64 a0_3) := (blk_cell BK9132.out 3).trans rfl
               have hcz62_4 : wr.cell? ⟨gb9132, 4, none⟩ = some (.slice A0_4 l0_4.length c0_4) := (blk_cell BK9132.out 4).trans rfl
               have hfz62_0 := blk_frozen BK9132.out 0
               have hfz62_1 := blk_frozen BK9132.out 1
               have hfz62_2 := blk_frozen BK9132.out 2
               have hfz62_3 := blk_frozen BK9132.out 3
               have hfz62_4 := blk_frozen BK9132.out 4
               go_wp2
               go_ret
               exact ⟨by first | rfl | (simp [errW_none, errW_some] <;> rfl) | (simp [*, errW_none, errW_some] <;> rfl), by repeat (first | (with_reducible first | exact HB.out | apply zB | apply zC | apply zE | refine below_set ?_ GE9132.out) | exact HB.out)⟩
        ·rw [if_neg c41] at H
         have c41b0 : (a0_3 == 0) = false := beq_eq_false_iff_ne.mpr c41
         have c41b1 : (a0_3 != 0) = true := bne_iff_ne.mpr c41
         obtain rfl := Option.some.inj H
         have hcz63_0 : wc.cell? ⟨gb9132, 0, none⟩ = some (.int .i64 a0_0) := (blk_cell BK9132.out 0).trans rfl
         have hcz63_1 : wc.cell? ⟨gb9132, 1, none⟩ = some (.string a0_1) := (blk_cell BK9132.out 1).trans rfl
         have hcz63_2 : wc.cell? ⟨gb9132, 2, none⟩ = some (.slice A0_2 l0_2.length c0_2) := (blk_cell BK9132.out 2).trans rfl
         have hcz63_3 : wc.cell? ⟨gb9132, 3, none⟩ = some (.int .i64 a0_3) := (blk_cell BK9132.out 3).trans rfl
         have hcz63_4 : wc.cell? ⟨gb9132, 4, none⟩ = some (.slice A0_4 l0_4.length c0_4) := (blk_cell BK9132.out 4).trans rfl
         have hfz63_0 := blk_frozen BK9132.out 0
         have hfz63_1 := blk_frozen BK9132.out 1
         have hfz63_2 := blk_frozen BK9132.out 2
         have hfz63_3 := blk_frozen BK9132.out 3
         have hfz63_4 := blk_frozen BK9132.out 4
         go_wp2
         go_ret
         exact ⟨by first | rfl | (simp [errW_none, errW_some] <;> rfl) | (simp [*, errW_none, errW_some] <;> rfl), by repeat (first | (with_reducible first | exact HB.out | apply zB | apply zC | apply zE | refine below_set ?_ GE9132.out) | exact HB.out)⟩
       ·rw [if_neg c40] at H
        have c40b0 : (a0_1.toList == ([] : List UInt8)) = false := beq_eq_false_iff_ne.mpr c40
        have c40b1 : (a0_1.toList != ([] : List UInt8)) = true := bne_iff_ne.mpr c40
        obtain rfl := Option.some.inj H
        have hcz64_0 : wc.cell? ⟨gb9132, 0, none⟩ = some (.int .i64 a0_0) := (blk_cell BK9132.out 0).trans rfl
        have hcz64_1 : wc.cell? ⟨gb9132, 1, none⟩ = some (.string a0_1) := (blk_cell BK9132.out 1).trans rfl
        have hcz64_2 : wc.cell? ⟨gb9132, 2, none⟩ = some (.slice A0_2 l0_2.length c0_2) := (blk_cell BK9132.out 2).trans rfl
        have hcz64_3 : wc.cell? ⟨gb9132, 3, none⟩ = some (.int .i64 a0_3) := (blk_cell BK9132.out 3).trans rfl
        have hcz64_4 : wc.cell? ⟨gb9132, 4, none⟩ = some (.slice A0_4 l0_4.length c0_4) := (blk_cell BK9132.out 4).trans rfl
        have hfz64_0 := blk_frozen BK9132.out 0
        have hfz64_1 := blk_frozen BK9132.out 1
        have hfz64_2 := blk_frozen BK9132.out 2
        have hfz64_3 := blk_frozen BK9132.out 3
        have hfz64_4 := blk_frozen BK9132.out 4
        go_wp2
        go_ret
        exact ⟨by first | rfl | (simp [errW_none, errW_some] <;> rfl) | (simp [*, errW_none, errW_some] <;> rfl), by repeat (first | (with_reducible first | exact HB.out | apply zB | apply zC | apply zE | refine below_set ?_ GE9132.out) | exact HB.out)⟩
      ·replace c39 := Bool.eq_false_iff.mpr c39
       subst c39
       have H1 : (some false) = some r := by rw [if_neg (show ¬ (false = true) by decide)] at H; exact H
       clear H
       have H := H1
       clear H1
       obtain rfl := Option.some.inj H
       go_wp2
       go_ret
       exact ⟨by first | rfl | (simp [errW_none, errW_some] <;> rfl) | (simp [*, errW_none, errW_some] <;> rfl), by repeat (first | (with_reducible first | exact HB.out | apply zB | apply zC | apply zE | refine below_set ?_ GE9132.out) | exact HB.out)⟩
end Go.Proofs.YtmdhanegafclmaaDoor.PFnExactExpShow
