/- PFnExpFindx11 of the seat's texts, cut down by prune.py to what the theorem comes to. -/
import Derived.Test.YtmdhanegafclmaaZfPFnExpFindx0
import Derived.Test.YtmdhanegafclmaaZfPFnExpFindx6
import Derived.Test.YtmdhanegafclmaaZfPFnExpFindx7
import Derived.Test.YtmdhanegafclmaaZfPFnExpFindx9
import Derived.Test.YtmdhanegafclmaaZfPFnExpFindx10
namespace Go.Proofs.Ytmdhanegafclmaa.PFnExpFind
open Go.RowKit Go.Proofs.YtmdhanegafclmaaW.PrintWords Go.Proofs.YtmdhanegafclmaaW.PrintLast Go.Proofs.YtmdhanegafclmaaW.PrintMore
attribute [local go_sem] max2_int min2_int max_two min_two max_three min_three max_four min_four
set_option linter.unusedVariables false
set_option linter.unusedSimpArgs false
mutual
def laws_FnExpFind.j0 : Nat → List (S42) → ByteArray → Int → Bool → Int → ByteArray → List Int → Int → List (S35) → Option (Bool)
 | 0, _, _, _, _, _, _, _, _, _ => none
 | k + 1, x3, x5, x6, x41, x3381000, x3381001, x3381002, x3381003, x3381004 => if x41 = true then (some false) else (laws_FnExpFind.l0 k x3 x5 x6 0 (⟨#[]⟩ : ByteArray) 0 x3381000 x3381001 x3381002 x3381003 x3381004)
def laws_FnExpFind.l0 : Nat → List (S42) → ByteArray → Int → Int → ByteArray → Int → Int → ByteArray → List Int → Int → List (S35) → Option (Bool)
 | 0, _, _, _, _, _, _, _, _, _, _, _ => none
 | k + 1, x3, x5, x6, x9, x10, x11, x3381000, x3381001, x3381002, x3381003, x3381004 => if x11 < (x3.length : Int) then (if 0 ≤ x11 then ((laws_wxFits.f k ((rd_T42 x3 x11).f0) ((rd_T42 x3 x11).f1) ((rd_T42 x3 x11).f2) x3381000 x3381001 x3381002 x3381003 x3381004).bind fun t3386 => (if t3386 = true then (laws_FnExpFind.l1 k x3 x5 x6 (wrap64 (x9 + 1)) x10 x11 true 0 x3381000 x3381001 x3381002 x3381003 x3381004) else (laws_FnExpFind.l0 k x3 x5 x6 x9 x10 (wrap64 (x11 + 1)) x3381000 x3381001 x3381002 x3381003 x3381004))) else (none)) else (if x3381000 = 1 then (if x9 = 0 then (if x6 = 0 then (some (x5.toList == ([] : List UInt8))) else (some false)) else (if x10.toList = ([] : List UInt8) then (if x6 = 2 then (if x5.toList = ([] : List UInt8) then (some true) else (some false)) else (some false)) else (if x6 = 1 then (some (x5.toList == x10.toList)) else (some false)))) else (if x6 = 0 then (some (x5.toList == ([] : List UInt8))) else (some false)))
def laws_FnExpFind.l1 : Nat → List (S42) → ByteArray → Int → Int → ByteArray → Int → Bool → Int → Int → ByteArray → List Int → Int → List (S35) → Option (Bool)
 | 0, _, _, _, _, _, _, _, _, _, _, _, _, _ => none
 | k + 1, x3, x5, x6, x9, x10, x11, x12, x13, x3381000, x3381001, x3381002, x3381003, x3381004 => if x13 < (x3.length : Int) then (if x12 = true then (if 0 ≤ x13 then ((laws_wxFits.f k ((rd_T42 x3 x13).f0) ((rd_T42 x3 x13).f1) ((rd_T42 x3 x13).f2) x3381000 x3381001 x3381002 x3381003 x3381004).bind fun t3388 => (if t3388 = true then (if 0 ≤ x11 then (if x11 < (x3.length : Int) then ((laws_wxWithin.f k ((rd_T42 x3 x13).f1) ((rd_T42 x3 x11).f1)).bind fun t3391 => (laws_FnExpFind.l1 k x3 x5 x6 x9 x10 x11 t3391 (wrap64 (x13 + 1)) x3381000 x3381001 x3381002 x3381003 x3381004)) else (none)) else (none)) else (laws_FnExpFind.l1 k x3 x5 x6 x9 x10 x11 true (wrap64 (x13 + 1)) x3381000 x3381001 x3381002 x3381003 x3381004))) else (none)) else (laws_FnExpFind.l1 k x3 x5 x6 x9 x10 x11 false (wrap64 (x13 + 1)) x3381000 x3381001 x3381002 x3381003 x3381004)) else (if x12 = true then (if 0 ≤ x11 then (if x11 < (x3.length : Int) then (laws_FnExpFind.l0 k x3 x5 x6 x9 ((rd_T42 x3 x11).f2) (wrap64 (x11 + 1)) x3381000 x3381001 x3381002 x3381003 x3381004) else (none)) else (none)) else (laws_FnExpFind.l0 k x3 x5 x6 x9 x10 (wrap64 (x11 + 1)) x3381000 x3381001 x3381002 x3381003 x3381004))
end
def laws_FnExpFind.f (k : Nat) (l0 : List Int) : Option (Bool) := if (l0.length : Int) > 1048576 then (some true) else ((spec_DrawExpFind.f k l0).bind fun bt3368 => ((impl_ExpFind.f k bt3368.1 bt3368.2.1 bt3368.2.2.1 bt3368.2.2.2.1 bt3368.2.2.2.2.1 bt3368.2.2.2.2.2).bind fun bt3381 => ((spec_ExpFind.f k bt3368.1 bt3368.2.1 bt3368.2.2.1 bt3368.2.2.2.1 bt3368.2.2.2.2.1 bt3368.2.2.2.2.2).bind fun bt3383 => (if bt3381.1.toList = bt3383.1.toList then (laws_FnExpFind.j0 k bt3368.1 bt3381.1 bt3381.2 (bt3381.2 != bt3383.2) bt3368.2.1 bt3368.2.2.1 bt3368.2.2.2.1 bt3368.2.2.2.2.1 bt3368.2.2.2.2.2) else (laws_FnExpFind.j0 k bt3368.1 bt3381.1 bt3381.2 true bt3368.2.1 bt3368.2.2.1 bt3368.2.2.2.1 bt3368.2.2.2.2.1 bt3368.2.2.2.2.2)))))
theorem laws_FnExpFind.mono_l : ∀ k, (∀ y0 y1 y2 y3 y4 y5 y6 y7 y8, LeO (laws_FnExpFind.j0 k y0 y1 y2 y3 y4 y5 y6 y7 y8) (laws_FnExpFind.j0 (k + 1) y0 y1 y2 y3 y4 y5 y6 y7 y8)) ∧ (∀ y0 y1 y2 y3 y4 y5 y6 y7 y8 y9 y10, LeO (laws_FnExpFind.l0 k y0 y1 y2 y3 y4 y5 y6 y7 y8 y9 y10) (laws_FnExpFind.l0 (k + 1) y0 y1 y2 y3 y4 y5 y6 y7 y8 y9 y10)) ∧ (∀ y0 y1 y2 y3 y4 y5 y6 y7 y8 y9 y10 y11 y12, LeO (laws_FnExpFind.l1 k y0 y1 y2 y3 y4 y5 y6 y7 y8 y9 y10 y11 y12) (laws_FnExpFind.l1 (k + 1) y0 y1 y2 y3 y4 y5 y6 y7 y8 y9 y10 y11 y12))
 | 0 => ⟨fun _ _ _ _ _ _ _ _ _ r h => by simp [laws_FnExpFind.j0] at h, fun _ _ _ _ _ _ _ _ _ _ _ r h => by simp [laws_FnExpFind.l0] at h, fun _ _ _ _ _ _ _ _ _ _ _ _ _ r h => by simp [laws_FnExpFind.l1] at h⟩
 | k + 1 => by
  obtain ⟨ih0, ih1, ih2⟩ := laws_FnExpFind.mono_l k
  refine ⟨?_, ?_, ?_⟩
  ·intro y0 y1 y2 y3 y4 y5 y6 y7 y8
   unfold laws_FnExpFind.j0
   repeat' first
   | (with_reducible exact ih0 _ _ _ _ _ _ _ _ _)
   | (with_reducible exact ih1 _ _ _ _ _ _ _ _ _ _ _)
   | (with_reducible exact ih2 _ _ _ _ _ _ _ _ _ _ _ _ _)
   | (with_reducible exact impl_ExpFind.mono _ _ _ _ _ _ _)
   | (with_reducible exact laws_wxFits.mono _ _ _ _ _ _ _ _ _)
   | (with_reducible exact laws_wxWithin.mono _ _ _)
   | (with_reducible exact spec_DrawExpFind.mono _ _)
   | (with_reducible exact spec_ExpFind.mono _ _ _ _ _ _ _)
   | (with_reducible exact LeO.refl _)
   | (with_reducible exact LeO.none _)
   | (with_reducible refine LeO.ite ?_ ?_)
   | (with_reducible refine LeO.bind ?_ (fun _ => ?_))
   | exact ih0 _ _ _ _ _ _ _ _ _
   | exact ih1 _ _ _ _ _ _ _ _ _ _ _
   | exact ih2 _ _ _ _ _ _ _ _ _ _ _ _ _
   | exact impl_ExpFind.mono _ _ _ _ _ _ _
   | exact laws_wxFits.mono _ _ _ _ _ _ _ _ _
   | exact laws_wxWithin.mono _ _ _
   | exact spec_DrawExpFind.mono _ _
   | exact spec_ExpFind.mono _ _ _ _ _ _ _
   | exact LeO.none _
   | refine LeO.ite ?_ ?_
   | refine LeO.bind ?_ (fun _ => ?_)
  ·intro y0 y1 y2 y3 y4 y5 y6 y7 y8 y9 y10
   unfold laws_FnExpFind.l0
   repeat' first
   | (with_reducible exact ih0 _ _ _ _ _ _ _ _ _)
   | (with_reducible exact ih1 _ _ _ _ _ _ _ _ _ _ _)
   | (with_reducible exact ih2 _ _ _ _ _ _ _ _ _ _ _ _ _)
   | (with_reducible exact impl_ExpFind.mono _ _ _ _ _ _ _)
   | (with_reducible exact laws_wxFits.mono _ _ _ _ _ _ _ _ _)
   | (with_reducible exact laws_wxWithin.mono _ _ _)
   | (with_reducible exact spec_DrawExpFind.mono _ _)
   | (with_reducible exact spec_ExpFind.mono _ _ _ _ _ _ _)
   | (with_reducible exact LeO.refl _)
   | (with_reducible exact LeO.none _)
   | (with_reducible refine LeO.ite ?_ ?_)
   | (with_reducible refine LeO.bind ?_ (fun _ => ?_))
   | exact ih0 _ _ _ _ _ _ _ _ _
   | exact ih1 _ _ _ _ _ _ _ _ _ _ _
   | exact ih2 _ _ _ _ _ _ _ _ _ _ _ _ _
   | exact impl_ExpFind.mono _ _ _ _ _ _ _
   | exact laws_wxFits.mono _ _ _ _ _ _ _ _ _
   | exact laws_wxWithin.mono _ _ _
   | exact spec_DrawExpFind.mono _ _
   | exact spec_ExpFind.mono _ _ _ _ _ _ _
   | exact LeO.none _
   | refine LeO.ite ?_ ?_
   | refine LeO.bind ?_ (fun _ => ?_)
  ·intro y0 y1 y2 y3 y4 y5 y6 y7 y8 y9 y10 y11 y12
   unfold laws_FnExpFind.l1
   repeat' first
   | (with_reducible exact ih0 _ _ _ _ _ _ _ _ _)
   | (with_reducible exact ih1 _ _ _ _ _ _ _ _ _ _ _)
   | (with_reducible exact ih2 _ _ _ _ _ _ _ _ _ _ _ _ _)
   | (with_reducible exact impl_ExpFind.mono _ _ _ _ _ _ _)
   | (with_reducible exact laws_wxFits.mono _ _ _ _ _ _ _ _ _)
   | (with_reducible exact laws_wxWithin.mono _ _ _)
   | (with_reducible exact spec_DrawExpFind.mono _ _)
   | (with_reducible exact spec_ExpFind.mono _ _ _ _ _ _ _)
   | (with_reducible exact LeO.refl _)
   | (with_reducible exact LeO.none _)
   | (with_reducible refine LeO.ite ?_ ?_)
   | (with_reducible refine LeO.bind ?_ (fun _ => ?_))
   | exact ih0 _ _ _ _ _ _ _ _ _
   | exact ih1 _ _ _ _ _ _ _ _ _ _ _
   | exact ih2 _ _ _ _ _ _ _ _ _ _ _ _ _
   | exact impl_ExpFind.mono _ _ _ _ _ _ _
   | exact laws_wxFits.mono _ _ _ _ _ _ _ _ _
   | exact laws_wxWithin.mono _ _ _
   | exact spec_DrawExpFind.mono _ _
   | exact spec_ExpFind.mono _ _ _ _ _ _ _
   | exact LeO.none _
   | refine LeO.ite ?_ ?_
   | refine LeO.bind ?_ (fun _ => ?_)
theorem laws_FnExpFind.mono : ∀ a0 k, LeO (laws_FnExpFind.f k a0) (laws_FnExpFind.f (k + 1) a0) := by
 intro a0 k
 obtain ⟨ih0, ih1, ih2⟩ := laws_FnExpFind.mono_l k
 unfold laws_FnExpFind.f
 repeat' first
   | (with_reducible exact ih0 _ _ _ _ _ _ _ _ _)
   | (with_reducible exact ih1 _ _ _ _ _ _ _ _ _ _ _)
   | (with_reducible exact ih2 _ _ _ _ _ _ _ _ _ _ _ _ _)
   | (with_reducible exact impl_ExpFind.mono _ _ _ _ _ _ _)
   | (with_reducible exact laws_wxFits.mono _ _ _ _ _ _ _ _ _)
   | (with_reducible exact laws_wxWithin.mono _ _ _)
   | (with_reducible exact spec_DrawExpFind.mono _ _)
   | (with_reducible exact spec_ExpFind.mono _ _ _ _ _ _ _)
   | (with_reducible exact LeO.refl _)
   | (with_reducible exact LeO.none _)
   | (with_reducible refine LeO.ite ?_ ?_)
   | (with_reducible refine LeO.bind ?_ (fun _ => ?_))
   | exact ih0 _ _ _ _ _ _ _ _ _
   | exact ih1 _ _ _ _ _ _ _ _ _ _ _
   | exact ih2 _ _ _ _ _ _ _ _ _ _ _ _ _
   | exact impl_ExpFind.mono _ _ _ _ _ _ _
   | exact laws_wxFits.mono _ _ _ _ _ _ _ _ _
   | exact laws_wxWithin.mono _ _ _
   | exact spec_DrawExpFind.mono _ _
   | exact spec_ExpFind.mono _ _ _ _ _ _ _
   | exact LeO.none _
   | refine LeO.ite ?_ ?_
   | refine LeO.bind ?_ (fun _ => ?_)
def laws_FnExpFind.T19 : Bool × List (List Nat × List Nat) := (true, [([], []), ([0], [0]), ([1], [1]), ([1], [1]), ([2, 3, 1], [1, 2, 3]), ([4, 1], [1, 4]), ([1], [1]), ([5, 6, 1, 1], [1, 5, 6]), ([7, 1], [1, 7]), ([8, 7, 1], [1, 8]), ([9], [9]), ([9], [9]), ([10, 11, 9], [9, 10, 11]), ([12, 9], [9, 12]), ([13, 9], [9, 13]), ([9], [9]), ([9], [9]), ([15, 16, 9], [9, 15, 16]), ([17, 9], [9, 17]), ([18, 9], [9, 18]), ([14, 19, 9, 9], [9, 14, 19]), ([9, 20, 1], [1, 9, 20]), ([1, 21], [1, 21]), ([22, 20, 0, 1, 2, 3, 4, 5, 6, 7, 8, 9, 10, 11, 12, 13, 14, 15, 16, 17, 18, 19, 20, 21, 22], [0, 22])])
def laws_FnExpFind.B19 : List Nat := [0, 1, 3, 3, 15, 31, 3, 127, 255, 511, 1023, 1023, 4095, 8191, 16383, 1023, 1023, 99327, 230399, 492543, 1048575, 2097151, 4194303, 8388607]
theorem laws_FnExpFind.tab19 : rtab .any (opsOf Try.f6 19) = laws_FnExpFind.T19 := by kernel_rfl
theorem laws_FnExpFind.bits19 : waitsOk laws_FnExpFind.T19.2 laws_FnExpFind.B19 = true := by kernel_rfl
set_option maxHeartbeats 8000000 in
set_option maxRecDepth 100000 in
theorem laws_FnExpFind.calls (k : Nat) (A0 : Option Addr) (c0 : Nat) (l0 : List Int) (r : Bool) (w : World) (hr0 : Kd.C (Kd.int .u8) w A0 l0.length l0) (hc0 : l0.length ≤ c0) (h : laws_FnExpFind.f k l0 = some r) :
  Calls Try.prog 6 #[.slice A0 l0.length c0] w fun e w' => e = .returned (.bool r) ∧ Below w.heap.size w w' := by
 have hu35 := Try.underlying35
 have hu42 := Try.underlying42
 have HR0 := Aq hr0
 have HC0 := Aq hc0
 clear hr0 hc0
 have HB := Aq (Below.refl w.heap.size w)
 have H : (if (l0.length : Int) > 1048576 then (some true) else ((spec_DrawExpFind.f k l0).bind fun bt3368 => ((impl_ExpFind.f k bt3368.1 bt3368.2.1 bt3368.2.2.1 bt3368.2.2.2.1 bt3368.2.2.2.2.1 bt3368.2.2.2.2.2).bind fun bt3381 => ((spec_ExpFind.f k bt3368.1 bt3368.2.1 bt3368.2.2.1 bt3368.2.2.2.1 bt3368.2.2.2.2.1 bt3368.2.2.2.2.2).bind fun bt3383 => (if bt3381.1.toList = bt3383.1.toList then (laws_FnExpFind.j0 k bt3368.1 bt3381.1 bt3381.2 (bt3381.2 != bt3383.2) bt3368.2.1 bt3368.2.2.1 bt3368.2.2.2.1 bt3368.2.2.2.2.1 bt3368.2.2.2.2.2) else (laws_FnExpFind.j0 k bt3368.1 bt3381.1 bt3381.2 true bt3368.2.1 bt3368.2.2.1 bt3368.2.2.2.1 bt3368.2.2.2.2.1 bt3368.2.2.2.2.2)))))) = some r := h
 clear h
 by_cases c2 : (l0.length : Int) > 1048576
 ·rw [if_pos c2] at H
  have c2b0 : decide (1048576 < (l0.length : Int)) = true := decide_eq_true c2
  have c2b1 : decide (1048576 < l0.length) = true := decide_eq_true (by omega)
  clear c2
  obtain rfl := Option.some.inj H
  go_enter Try.func6, Try.ntmps6
  go_wp2
  go_ret
  exact ⟨by first | rfl | (simp [errW_none, errW_some] <;> rfl) | (simp [*, errW_none, errW_some] <;> rfl), by repeat (first | (with_reducible first | exact HB.out | apply zB | apply zC | apply zE) | exact HB.out)⟩
 ·rw [if_neg c2] at H
  have c2b0 : decide (1048576 < (l0.length : Int)) = false := decide_eq_false c2
  have c2b1 : decide (1048576 < l0.length) = false := decide_eq_false (by omega)
  clear c2
  replace H := Option.bind_eq_some_iff.mp H
  obtain ⟨⟨t3368, t3371, t3372, t3373, t3376, t3377⟩, A30, H⟩ := H
  replace H : ((impl_ExpFind.f k t3368 t3371 t3372 t3373 t3376 t3377).bind fun bt3381 => ((spec_ExpFind.f k t3368 t3371 t3372 t3373 t3376 t3377).bind fun bt3383 => (if bt3381.1.toList = bt3383.1.toList then (laws_FnExpFind.j0 k t3368 bt3381.1 bt3381.2 (bt3381.2 != bt3383.2) t3371 t3372 t3373 t3376 t3377) else (laws_FnExpFind.j0 k t3368 bt3381.1 bt3381.2 true t3371 t3372 t3373 t3376 t3377)))) = some r := H
  have A3 := Aq A30
  clear A30
  replace H := Option.bind_eq_some_iff.mp H
  obtain ⟨⟨t3381, t3382⟩, A40, H⟩ := H
  replace H : ((spec_ExpFind.f k t3368 t3371 t3372 t3373 t3376 t3377).bind fun bt3383 => (if t3381.toList = bt3383.1.toList then (laws_FnExpFind.j0 k t3368 t3381 t3382 (t3382 != bt3383.2) t3371 t3372 t3373 t3376 t3377) else (laws_FnExpFind.j0 k t3368 t3381 t3382 true t3371 t3372 t3373 t3376 t3377))) = some r := H
  have A4 := Aq A40
  clear A40
  replace H := Option.bind_eq_some_iff.mp H
  obtain ⟨⟨t3383, t3384⟩, A50, H⟩ := H
  replace H : (if t3381.toList = t3383.toList then (laws_FnExpFind.j0 k t3368 t3381 t3382 (t3382 != t3384) t3371 t3372 t3373 t3376 t3377) else (laws_FnExpFind.j0 k t3368 t3381 t3382 true t3371 t3372 t3373 t3376 t3377)) = some r := H
  have A5 := Aq A50
  clear A50
  have HC6 := Aq H
  clear H
  go_enter Try.func6, Try.ntmps6
  go_upto_region 6 with (first | ((with_reducible refine gate_callee (f := 17) rfl ?_); refine goesL_ (some 19) rfl rfl Try.func17 (by kernel_rfl) rfl #[.slice A0 l0.length c0] rfl (by (try simp only [List.map_toArray, List.map_cons, List.map_nil]); first | done | rfl | (simp only [List.length_drop, List.length_take]; rfl)) ?_; (with_reducible refine (spec_DrawExpFind.calls k _ _ l0 t3368 t3371 t3372 t3373 t3376 t3377 _ ?side1 ?side2 A3.out).mono ?_); (case side1 => repeat (first | exact HR0.out | (with_reducible refine Kd.C_alloc ?_ _) | (with_reducible refine Kd.C_drewN ?_ _) | (with_reducible refine Kd.C_drew ?_))); (case side2 => exact HC0.out); rintro e w7 ⟨v3369, v3374, v3378, rfl, ho0, ho1, ho2, hb⟩; refine ⟨_, rfl, ?_⟩; have n0_ := Aq (Kd.N_lower (Kd.N_mono (ok' := fun k_ => some k_ ≠ (v3374 : Value).ownBlock ∧ some k_ ≠ (v3378 : Value).ownBlock) ho0 (fun k_ hk_ => ⟨hk_.2.1, hk_.2.2⟩)) (below_size (by repeat (first | (with_reducible first | exact HB.out | apply zB | apply zC | apply zE) | exact HB.out)))); have n1_ := Aq (Kd.R_lower (Kd.R_mono (ok' := fun k_ => True) ho1 (fun _ hk_ => trivial)) (below_size (by repeat (first | (with_reducible first | exact HB.out | apply zB | apply zC | apply zE) | exact HB.out)))); have n2_ := Aq (Kd.N_lower (Kd.N_mono (ok' := fun k_ => some k_ ≠ (v3369 : Value).ownBlock ∧ some k_ ≠ (v3374 : Value).ownBlock) ho2 (fun k_ hk_ => ⟨hk_.2.1, hk_.2.2⟩)) (below_size (by repeat (first | (with_reducible first | exact HB.out | apply zB | apply zC | apply zE) | exact HB.out)))); have n3_ := Aq (below_step (by repeat (first | (with_reducible first | exact HB.out | apply zB | apply zC | apply zE) | exact HB.out)) hb); clear HB; have HO3370 := n0_; have HO3375 := n1_; have HO3379 := n2_; have HB := n3_; clear n0_ n1_ n2_ n3_; (try clear hb); (try clear hb2); (try clear hk); (try clear hi); (try clear ho0); (try clear ho1); (try clear ho2)) | ((with_reducible refine gate_dst (N := 4) rfl ?_); refine box_event ?hg (N := 4) ?hd (cs := #[.int .i64 0, .string (⟨#[]⟩ : ByteArray), .slice none 0 0, .int .i64 0, .slice none 0 0]) (t := 35) ?hr ?_; (case hd => rfl); (case hg => rfl); (case hr => first | (go_simp; done) | (go_simp; rfl)); intro gb3380 hg w8 hbox hb; have n0_ := Aq (Kd.N_below (Kd.N_elderB (by (with_reducible repeat (first | apply Kd.N_alloc | apply Kd.N_drewN | apply Kd.N_drew)); exact HO3370.out) gb3380 (Nat.le_of_eq hg.symm)) hb); have n1_ := Aq (Kd.R_below (by (with_reducible repeat (first | apply Kd.R_alloc | apply Kd.R_drewN | apply Kd.R_drew)); exact HO3375.out) hb); have n2_ := Aq (Kd.N_below (Kd.N_elderB (by (with_reducible repeat (first | apply Kd.N_alloc | apply Kd.N_drewN | apply Kd.N_drew)); exact HO3379.out) gb3380 (Nat.le_of_eq hg.symm)) hb); have n3_ := Aq (below_step (by repeat (first | (with_reducible first | exact HB.out | apply zB | apply zC | apply zE) | exact HB.out)) hb); have n4_ := Aq (hbox); have n5_ := Aq ((by rw [hg]; exact (below_size (by repeat (first | (with_reducible first | exact HB.out | apply zB | apply zC | apply zE) | exact HB.out))) : w.heap.size ≤ gb3380)); have n6_ := Aq ((by rw [hg]; exact (below_size (by repeat (first | (with_reducible first | exact HB.out | apply zB | apply zC | apply zE) | exact HB.out))) : w.heap.size ≤ gb3380)); clear HO3370 HO3375 HO3379 HB; have HO3370 := n0_; have HO3375 := n1_; have HO3379 := n2_; have HB := n3_; have BK3380 := n4_; have GW3380 := n5_; have GE3380 := n6_; clear n0_ n1_ n2_ n3_ n4_ n5_ n6_ hb hbox hg; have hcz9_0 : w8.cell? ⟨gb3380, 0, none⟩ = some (.int .i64 0) := (blk_cell BK3380.out 0).trans rfl; have hcz9_1 : w8.cell? ⟨gb3380, 1, none⟩ = some (.string (⟨#[]⟩ : ByteArray)) := (blk_cell BK3380.out 1).trans rfl; have hcz9_2 : w8.cell? ⟨gb3380, 2, none⟩ = some (.slice none 0 0) := (blk_cell BK3380.out 2).trans rfl; have hcz9_3 : w8.cell? ⟨gb3380, 3, none⟩ = some (.int .i64 0) := (blk_cell BK3380.out 3).trans rfl; have hcz9_4 : w8.cell? ⟨gb3380, 4, none⟩ = some (.slice none 0 0) := (blk_cell BK3380.out 4).trans rfl; have hfz9_0 := blk_frozen BK3380.out 0; have hfz9_1 := blk_frozen BK3380.out 1; have hfz9_2 := blk_frozen BK3380.out 2; have hfz9_3 := blk_frozen BK3380.out 3; have hfz9_4 := blk_frozen BK3380.out 4; obtain ⟨Ao10, co10, eo10⟩ := Kd.R_slice HO3375.out; subst eo10; obtain ⟨Ao11, co11, eo11⟩ := Kd.N_slice HO3379.out; subst eo11) | ((with_reducible refine gate_store (t := 35) (p := 4) rfl ?_); refine store_event (t := 35) (p := 4) (v := ?vo_w12) (w1 := (((((w8.setCell ⟨gb3380, 0, none⟩ (.int .i64 t3371)).setCell ⟨gb3380, 1, none⟩ (.string t3372)).setCell ⟨gb3380, 2, none⟩ (.slice Ao10 t3373.length co10)).setCell ⟨gb3380, 3, none⟩ (.int .i64 t3376)).setCell ⟨gb3380, 4, none⟩ (.slice Ao11 t3377.length co11))) ?hg ?ho ?hn ?hr ?_; (case ho => rfl); (case hg => rfl); (case hn => rfl); (case hr => first | (go_simp; done) | (go_simp; rfl)); intro w12 hw; have n0_ : Aside0 (Kd.N k42 42 w12 w.heap.size (fun k_ => some k_ ≠ (.slice Ao10 t3373.length co10 : Value).ownBlock ∧ some k_ ≠ (.slice Ao11 t3377.length co11 : Value).ownBlock ∧ k_ ≠ gb3380) v3369 t3368) := ⟨(by rw [hw]; exact (by (with_reducible repeat (first | apply Kd.N_alloc | apply Kd.N_drewN | apply Kd.N_drew)); exact Kd.N_mono (Kd.N_far (p := ⟨gb3380, 4, none⟩) (Kd.N_far (p := ⟨gb3380, 3, none⟩) (Kd.N_far (p := ⟨gb3380, 2, none⟩) (Kd.N_far (p := ⟨gb3380, 1, none⟩) (Kd.N_far (p := ⟨gb3380, 0, none⟩) (Kd.N_mono HO3370.out (fun k_ hk => (⟨hk, hk.2⟩ : _ ∧ k_ ≠ gb3380))) (fun _ hk => hk.2) (.int .i64 t3371)) (fun _ hk => hk.2) (.string t3372)) (fun _ hk => hk.2) (.slice Ao10 t3373.length co10)) (fun _ hk => hk.2) (.int .i64 t3376)) (fun _ hk => hk.2) (.slice Ao11 t3377.length co11)) (fun _ hk => ⟨hk.1.1.1, ⟨hk.1.1.2, hk.1.2⟩⟩)))⟩; have n1_ : Aside0 (Kd.R (Kd.int .i64) 3 w12 w.heap.size (fun _ => True) (.slice Ao10 t3373.length co10) t3373) := ⟨(by rw [hw]; exact (by (with_reducible repeat (first | apply Kd.R_alloc | apply Kd.R_drewN | apply Kd.R_drew)); exact Kd.R_mono (Kd.R_far (p := ⟨gb3380, 4, none⟩) (Kd.R_far (p := ⟨gb3380, 3, none⟩) (Kd.R_far (p := ⟨gb3380, 2, none⟩) (Kd.R_far (p := ⟨gb3380, 1, none⟩) (Kd.R_far (p := ⟨gb3380, 0, none⟩) (Kd.R_types HO3375.out BK3380.out (by decide)) (fun _ hk => hk.2) (.int .i64 t3371)) (fun _ hk => hk.2) (.string t3372)) (fun _ hk => hk.2) (.slice Ao10 t3373.length co10)) (fun _ hk => hk.2) (.int .i64 t3376)) (fun _ hk => hk.2) (.slice Ao11 t3377.length co11)) (fun _ hk => trivial)))⟩; have n2_ : Aside0 (Kd.N k35 35 w12 w.heap.size (fun k_ => some k_ ≠ (v3369 : Value).ownBlock ∧ some k_ ≠ (.slice Ao10 t3373.length co10 : Value).ownBlock ∧ k_ ≠ gb3380) (.slice Ao11 t3377.length co11) t3377) := ⟨(by rw [hw]; exact (by (with_reducible repeat (first | apply Kd.N_alloc | apply Kd.N_drewN | apply Kd.N_drew)); exact Kd.N_mono (Kd.N_far (p := ⟨gb3380, 4, none⟩) (Kd.N_far (p := ⟨gb3380, 3, none⟩) (Kd.N_far (p := ⟨gb3380, 2, none⟩) (Kd.N_far (p := ⟨gb3380, 1, none⟩) (Kd.N_far (p := ⟨gb3380, 0, none⟩) (Kd.N_mono HO3379.out (fun k_ hk => (⟨hk, hk.2⟩ : _ ∧ k_ ≠ gb3380))) (fun _ hk => hk.2) (.int .i64 t3371)) (fun _ hk => hk.2) (.string t3372)) (fun _ hk => hk.2) (.slice Ao10 t3373.length co10)) (fun _ hk => hk.2) (.int .i64 t3376)) (fun _ hk => hk.2) (.slice Ao11 t3377.length co11)) (fun _ hk => ⟨hk.1.1.1, ⟨hk.1.1.2, hk.1.2⟩⟩)))⟩; have n3_ : Aside0 (w12.heap[gb3380]? = some (.cells #[.int .i64 t3371, .string t3372, .slice Ao10 t3373.length co10, .int .i64 t3376, .slice Ao11 t3377.length co11] 35 (0, 0))) := ⟨(by rw [hw]; exact (by (with_reducible repeat (first | refine zN ?_ _ | refine zD ?_ | refine zA ?_ _)); refine blk_put (cs := #[.int .i64 t3371, .string t3372, .slice Ao10 t3373.length co10, .int .i64 t3376, .slice none 0 0]) ?_ 4 _ rfl; (with_reducible repeat (first | refine zN ?_ _ | refine zD ?_ | refine zA ?_ _)); refine blk_put (cs := #[.int .i64 t3371, .string t3372, .slice Ao10 t3373.length co10, .int .i64 0, .slice none 0 0]) ?_ 3 _ rfl; (with_reducible repeat (first | refine zN ?_ _ | refine zD ?_ | refine zA ?_ _)); refine blk_put (cs := #[.int .i64 t3371, .string t3372, .slice none 0 0, .int .i64 0, .slice none 0 0]) ?_ 2 _ rfl; (with_reducible repeat (first | refine zN ?_ _ | refine zD ?_ | refine zA ?_ _)); refine blk_put (cs := #[.int .i64 t3371, .string (⟨#[]⟩ : ByteArray), .slice none 0 0, .int .i64 0, .slice none 0 0]) ?_ 1 _ rfl; (with_reducible repeat (first | refine zN ?_ _ | refine zD ?_ | refine zA ?_ _)); refine blk_put (cs := #[.int .i64 0, .string (⟨#[]⟩ : ByteArray), .slice none 0 0, .int .i64 0, .slice none 0 0]) ?_ 0 _ rfl; (with_reducible repeat (first | refine zN ?_ _ | refine zD ?_ | refine zA ?_ _)); exact BK3380.out))⟩; have n4_ : Aside0 (Below w.heap.size w w12) := ⟨(by rw [hw]; exact (by repeat (first | (with_reducible first | exact HB.out | apply zB | apply zC | apply zE | refine below_set ?_ GE3380.out) | exact HB.out)))⟩; clear hw HO3370 HO3375 HO3379 BK3380 HB; have HO3370 := n0_; have HO3375 := n1_; have HO3379 := n2_; have BK3380 := n3_; have HB := n4_; clear n0_ n1_ n2_ n3_ n4_; have hcz13_0 : w12.cell? ⟨gb3380, 0, none⟩ = some (.int .i64 t3371) := (blk_cell BK3380.out 0).trans rfl; have hcz13_1 : w12.cell? ⟨gb3380, 1, none⟩ = some (.string t3372) := (blk_cell BK3380.out 1).trans rfl; have hcz13_2 : w12.cell? ⟨gb3380, 2, none⟩ = some (.slice Ao10 t3373.length co10) := (blk_cell BK3380.out 2).trans rfl; have hcz13_3 : w12.cell? ⟨gb3380, 3, none⟩ = some (.int .i64 t3376) := (blk_cell BK3380.out 3).trans rfl; have hcz13_4 : w12.cell? ⟨gb3380, 4, none⟩ = some (.slice Ao11 t3377.length co11) := (blk_cell BK3380.out 4).trans rfl; have hfz13_0 := blk_frozen BK3380.out 0; have hfz13_1 := blk_frozen BK3380.out 1; have hfz13_2 := blk_frozen BK3380.out 2; have hfz13_3 := blk_frozen BK3380.out 3; have hfz13_4 := blk_frozen BK3380.out 4; obtain ⟨Ao14, co14, eo14⟩ := Kd.N_slice HO3370.out; subst eo14) | ((with_reducible refine gate_callee (f := 18) rfl ?_); refine goesL_ (some 25) rfl rfl Try.func18 (by kernel_rfl) rfl #[.slice Ao14 t3368.length co14, .agg #[.int .i64 t3371, .string t3372, .slice Ao10 t3373.length co10, .int .i64 t3376, .slice Ao11 t3377.length co11]] rfl (by (try simp only [List.map_toArray, List.map_cons, List.map_nil]); first | done | rfl | (simp only [List.length_drop, List.length_take]; rfl)) ?_; (with_reducible refine (impl_ExpFind.calls k (fun k_ => (some k_ ≠ (.slice Ao10 t3373.length co10 : Value).ownBlock ∧ (some k_ ≠ (.slice Ao11 t3377.length co11 : Value).ownBlock ∧ k_ ≠ gb3380))) _ _ t3368 t3371 t3372 _ _ t3373 t3376 _ _ t3377 t3381 t3382 _ ?side1 ?side2 ?side3 ?side4 ?side5 A4.out).mono ?_); (case side1 => exact Kd.N_V (HO3370.out)); (case side2 => repeat (first | exact (Kd.R_reads' HO3375.out).2.2 | (with_reducible refine Kd.C_alloc ?_ _) | (with_reducible refine Kd.C_drewN ?_ _) | (with_reducible refine Kd.C_drew ?_))); (case side3 => exact (Kd.R_reads' HO3375.out).2.1); (case side4 => repeat (first | exact (Kd.N_reads' HO3379.out).2.2 | (with_reducible refine Kd.C_alloc ?_ _) | (with_reducible refine Kd.C_drewN ?_ _) | (with_reducible refine Kd.C_drew ?_))); (case side5 => exact (Kd.N_reads' HO3379.out).2.1); rintro e w15 ⟨rfl, hb⟩; refine ⟨_, rfl, ?_⟩; have n0_ := Aq (Kd.N_below (by (with_reducible repeat (first | apply Kd.N_alloc | apply Kd.N_drewN | apply Kd.N_drew)); exact HO3370.out) hb); have n1_ := Aq (Kd.R_below (by (with_reducible repeat (first | apply Kd.R_alloc | apply Kd.R_drewN | apply Kd.R_drew)); exact HO3375.out) hb); have n2_ := Aq (Kd.N_below (by (with_reducible repeat (first | apply Kd.N_alloc | apply Kd.N_drewN | apply Kd.N_drew)); exact HO3379.out) hb); have n3_ := Aq (blk_below (g := gb3380) (o := .cells #[.int .i64 t3371, .string t3372, .slice Ao10 t3373.length co10, .int .i64 t3376, .slice Ao11 t3377.length co11] 35 (0, 0)) (by (with_reducible repeat (first | refine zN ?_ _ | refine zD ?_ | refine zA ?_ _)); exact BK3380.out) hb); have n4_ := Aq (below_step (by repeat (first | (with_reducible first | exact HB.out | apply zB | apply zC | apply zE | refine below_set ?_ GE3380.out) | exact HB.out)) hb); clear HO3370 HO3375 HO3379 BK3380 HB; have HO3370 := n0_; have HO3375 := n1_; have HO3379 := n2_; have BK3380 := n3_; have HB := n4_; clear n0_ n1_ n2_ n3_ n4_; (try clear hb); (try clear hb2); (try clear hk); (try clear hi); have hcz16_0 : w15.cell? ⟨gb3380, 0, none⟩ = some (.int .i64 t3371) := (blk_cell BK3380.out 0).trans rfl; have hcz16_1 : w15.cell? ⟨gb3380, 1, none⟩ = some (.string t3372) := (blk_cell BK3380.out 1).trans rfl; have hcz16_2 : w15.cell? ⟨gb3380, 2, none⟩ = some (.slice Ao10 t3373.length co10) := (blk_cell BK3380.out 2).trans rfl; have hcz16_3 : w15.cell? ⟨gb3380, 3, none⟩ = some (.int .i64 t3376) := (blk_cell BK3380.out 3).trans rfl; have hcz16_4 : w15.cell? ⟨gb3380, 4, none⟩ = some (.slice Ao11 t3377.length co11) := (blk_cell BK3380.out 4).trans rfl; have hfz16_0 := blk_frozen BK3380.out 0; have hfz16_1 := blk_frozen BK3380.out 1; have hfz16_2 := blk_frozen BK3380.out 2; have hfz16_3 := blk_frozen BK3380.out 3; have hfz16_4 := blk_frozen BK3380.out 4) | ((with_reducible refine gate_callee (f := 19) rfl ?_); refine goesL_ (some 31) rfl rfl Try.func19 (by kernel_rfl) rfl #[.slice Ao14 t3368.length co14, .agg #[.int .i64 t3371, .string t3372, .slice Ao10 t3373.length co10, .int .i64 t3376, .slice Ao11 t3377.length co11]] rfl (by (try simp only [List.map_toArray, List.map_cons, List.map_nil]); first | done | rfl | (simp only [List.length_drop, List.length_take]; rfl)) ?_; (with_reducible refine (spec_ExpFind.calls k _ _ t3368 t3371 t3372 _ _ t3373 t3376 _ _ t3377 t3383 t3384 _ ?side1 ?side2 ?side3 ?side4 ?side5 ?side6 A5.out).mono ?_); (case side1 => repeat (first | exact (Kd.N_reads' HO3370.out).2.2 | (with_reducible refine Kd.C_alloc ?_ _) | (with_reducible refine Kd.C_drewN ?_ _) | (with_reducible refine Kd.C_drew ?_))); (case side2 => exact (Kd.N_reads' HO3370.out).2.1); (case side3 => repeat (first | exact (Kd.R_reads' HO3375.out).2.2 | (with_reducible refine Kd.C_alloc ?_ _) | (with_reducible refine Kd.C_drewN ?_ _) | (with_reducible refine Kd.C_drew ?_))); (case side4 => exact (Kd.R_reads' HO3375.out).2.1); (case side5 => repeat (first | exact (Kd.N_reads' HO3379.out).2.2 | (with_reducible refine Kd.C_alloc ?_ _) | (with_reducible refine Kd.C_drewN ?_ _) | (with_reducible refine Kd.C_drew ?_))); (case side6 => exact (Kd.N_reads' HO3379.out).2.1); rintro e w17 ⟨rfl, hb⟩; refine ⟨_, rfl, ?_⟩; have n0_ := Aq (Kd.N_below (by (with_reducible repeat (first | apply Kd.N_alloc | apply Kd.N_drewN | apply Kd.N_drew)); exact HO3370.out) hb); have n1_ := Aq (Kd.R_below (by (with_reducible repeat (first | apply Kd.R_alloc | apply Kd.R_drewN | apply Kd.R_drew)); exact HO3375.out) hb); have n2_ := Aq (Kd.N_below (by (with_reducible repeat (first | apply Kd.N_alloc | apply Kd.N_drewN | apply Kd.N_drew)); exact HO3379.out) hb); have n3_ := Aq (blk_below (g := gb3380) (o := .cells #[.int .i64 t3371, .string t3372, .slice Ao10 t3373.length co10, .int .i64 t3376, .slice Ao11 t3377.length co11] 35 (0, 0)) (by (with_reducible repeat (first | refine zN ?_ _ | refine zD ?_ | refine zA ?_ _)); exact BK3380.out) hb); have n4_ := Aq (below_step (by repeat (first | (with_reducible first | exact HB.out | apply zB | apply zC | apply zE | refine below_set ?_ GE3380.out) | exact HB.out)) hb); clear HO3370 HO3375 HO3379 BK3380 HB; have HO3370 := n0_; have HO3375 := n1_; have HO3379 := n2_; have BK3380 := n3_; have HB := n4_; clear n0_ n1_ n2_ n3_ n4_; (try clear hb); (try clear hb2); (try clear hk); (try clear hi)))
  (try simp only [Act.put, sA, sB, sC])
  go_cut [41] (fun v41 wc => ∃ (kq : Nat) (x41_5 : Bool), v41 = .bool x41_5 ∧ Aside0 (laws_FnExpFind.j0 kq t3368 t3381 t3382 x41_5 t3371 t3372 t3373 t3376 t3377 = some r) ∧ Aside0 (kq ≤ k) ∧ Aside0 (Kd.N k42 42 wc w.heap.size (fun k_ => some k_ ≠ ((.slice Ao10 t3373.length co10) : Value).ownBlock ∧ some k_ ≠ ((.slice Ao11 t3377.length co11) : Value).ownBlock ∧ k_ ≠ gb3380) (.slice Ao14 t3368.length co14) t3368) ∧ Aside0 (Kd.R (Kd.int .i64) 3 wc w.heap.size (fun _ => True) (.slice Ao10 t3373.length co10) t3373) ∧ Aside0 (Kd.N k35 35 wc w.heap.size (fun k_ => some k_ ≠ ((.slice Ao14 t3368.length co14) : Value).ownBlock ∧ some k_ ≠ ((.slice Ao10 t3373.length co10) : Value).ownBlock ∧ k_ ≠ gb3380) (.slice Ao11 t3377.length co11) t3377) ∧ Aside0 (wc.heap[gb3380]? = some (.cells #[.int .i64 t3371, .string t3372, (.slice Ao10 t3373.length co10), .int .i64 t3376, (.slice Ao11 t3377.length co11)] 35 (0, 0))) ∧ Aside0 (Below w.heap.size w wc))
  case first =>
   have H := HC6.out
   clear HC6
   by_cases c18 : t3381.toList = t3383.toList
   ·rw [if_pos c18] at H
    have c18b0 : (t3381.toList == t3383.toList) = true := beq_iff_eq.mpr c18
    have c18b1 : (t3381.toList != t3383.toList) = false := bne_eq_false_iff_eq.mpr c18
    clear c18
    (first | rw [c18b0] | (simp only [i64_w, i32_w]; rw [c18b0]) | skip)
    have H' := Aq H
    clear H
    go_wp2
    go_meet
    case rel => exact ⟨_, ((t3382 != t3384)), (by first | rfl | (simp; done) | (simp [*]; done)), H', ⟨by first | omega | exact Nat.le_refl _⟩, ⟨by (with_reducible repeat (first | apply Kd.N_alloc | apply Kd.N_drewN | apply Kd.N_drew)); exact HO3370.out⟩, ⟨by (with_reducible repeat (first | apply Kd.R_alloc | apply Kd.R_drewN | apply Kd.R_drew)); exact HO3375.out⟩, ⟨by (with_reducible repeat (first | apply Kd.N_alloc | apply Kd.N_drewN | apply Kd.N_drew)); exact HO3379.out⟩, ⟨by (with_reducible repeat (first | refine zN ?_ _ | refine zD ?_ | refine zA ?_ _)); exact BK3380.out⟩, ⟨by repeat (first | (with_reducible first | exact HB.out | apply zB | apply zC | apply zE | refine below_set ?_ GE3380.out) | exact HB.out)⟩⟩
   ·rw [if_neg c18] at H
    have c18b0 : (t3381.toList == t3383.toList) = false := beq_eq_false_iff_ne.mpr c18
    have c18b1 : (t3381.toList != t3383.toList) = true := bne_iff_ne.mpr c18
    (first | rw [c18b0] | (simp only [i64_w, i32_w]; rw [c18b0]) | skip)
    have H' := Aq H
    clear H
    go_wp2
    go_meet
    case rel => exact ⟨_, (true), (by first | rfl | (simp; done) | (simp [*]; done)), H', ⟨by first | omega | exact Nat.le_refl _⟩, ⟨by (with_reducible repeat (first | apply Kd.N_alloc | apply Kd.N_drewN | apply Kd.N_drew)); exact HO3370.out⟩, ⟨by (with_reducible repeat (first | apply Kd.R_alloc | apply Kd.R_drewN | apply Kd.R_drew)); exact HO3375.out⟩, ⟨by (with_reducible repeat (first | apply Kd.N_alloc | apply Kd.N_drewN | apply Kd.N_drew)); exact HO3379.out⟩, ⟨by (with_reducible repeat (first | refine zN ?_ _ | refine zD ?_ | refine zA ?_ _)); exact BK3380.out⟩, ⟨by repeat (first | (with_reducible first | exact HB.out | apply zB | apply zC | apply zE | refine below_set ?_ GE3380.out) | exact HB.out)⟩⟩
  case rest =>
   clear HC6
   try clear c1
   try clear c2
   try clear c2b0
   try clear c2b1
   try clear p2
   try clear c6
   try clear c17
   try clear c18
   try clear c18b0
   try clear c18b1
   try clear hcz13_0
   try clear hcz13_1
   try clear hcz13_2
   try clear hcz13_3
   try clear hcz13_4
   try clear hcz16_0
   try clear hcz16_1
   try clear hcz16_2
   try clear hcz16_3
   try clear hcz16_4
   try clear hcz9_0
   try clear hcz9_1
   try clear hcz9_2
   try clear hcz9_3
   try clear hcz9_4
   try clear hfz13_0
   try clear hfz13_1
   try clear hfz13_2
   try clear hfz13_3
   try clear hfz13_4
   try clear hfz16_0
   try clear hfz16_1
   try clear hfz16_2
   try clear hfz16_3
   try clear hfz16_4
   try clear hfz9_0
   try clear hfz9_1
   try clear hfz9_2
   try clear hfz9_3
   try clear hfz9_4
   obtain ⟨kq, x41_5, rfl, HA, HJ5, HO_3, HO_3381002, HO_3381004, BK3380, HB⟩ := hcut
   cases kq with
   | zero => exact absurd HA.out (by simp [laws_FnExpFind.j0])
   | succ kj5 =>
    have H := HA.out
    clear HA
    simp only [laws_FnExpFind.j0] at H
    by_cases c19 : x41_5 = true
    ·subst c19
     have H1 : (some false) = some r := by rw [if_pos rfl] at H; exact H
     clear H
     have H := H1
     clear H1
     obtain rfl := Option.some.inj H
     go_wp2
     go_ret
     exact ⟨by first | rfl | (simp [errW_none, errW_some] <;> rfl) | (simp [*, errW_none, errW_some] <;> rfl), by repeat (first | (with_reducible first | exact HB.out | apply zB | apply zC | apply zE | refine below_set ?_ GE3380.out) | exact HB.out)⟩
    ·replace c19 := Bool.eq_false_iff.mpr c19
     subst c19
     have H1 : (laws_FnExpFind.l0 kj5 t3368 t3381 t3382 0 (⟨#[]⟩ : ByteArray) 0 t3371 t3372 t3373 t3376 t3377) = some r := by rw [if_neg (show ¬ (false = true) by decide)] at H; exact H
     clear H
     have H := H1
     clear H1
     have H' := Aq H
     clear H
     go_wp2
     go_loopg [9, 10, 11] kj5 (fun kq v9 v10 v11 w' => ∃ (x9_2 : Int) (x10_2 : ByteArray) (x11_2 : Int), v9 = .int .i64 x9_2 ∧ v10 = .string x10_2 ∧ v11 = .int .i64 x11_2 ∧ Aside0 (laws_FnExpFind.l0 kq t3368 t3381 t3382 x9_2 x10_2 x11_2 t3371 t3372 t3373 t3376 t3377 = some r) ∧ Aside0 (kq ≤ kj5) ∧ Aside0 (Kd.N k42 42 w' w.heap.size (fun k_ => some k_ ≠ ((.slice Ao10 t3373.length co10) : Value).ownBlock ∧ some k_ ≠ ((.slice Ao11 t3377.length co11) : Value).ownBlock ∧ k_ ≠ gb3380) (.slice Ao14 t3368.length co14) t3368) ∧ Aside0 (Kd.R (Kd.int .i64) 3 w' w.heap.size (fun _ => True) (.slice Ao10 t3373.length co10) t3373) ∧ Aside0 (Kd.N k35 35 w' w.heap.size (fun k_ => some k_ ≠ ((.slice Ao14 t3368.length co14) : Value).ownBlock ∧ some k_ ≠ ((.slice Ao10 t3373.length co10) : Value).ownBlock ∧ k_ ≠ gb3380) (.slice Ao11 t3377.length co11) t3377) ∧ Aside0 (w'.heap[gb3380]? = some (.cells #[.int .i64 t3371, .string t3372, (.slice Ao10 t3373.length co10), .int .i64 t3376, (.slice Ao11 t3377.length co11)] 35 (0, 0))) ∧ Aside0 (Below w.heap.size w w'))
     case atStart => exact ⟨(0), ((⟨#[]⟩ : ByteArray)), (0), (by first | rfl | (simp; done) | (simp [*]; done)), (by first | rfl | (simp; done) | (simp [*]; done)), (by first | rfl | (simp; done) | (simp [*]; done)), H', ⟨Nat.le_refl _⟩, ⟨by (with_reducible repeat (first | apply Kd.N_alloc | apply Kd.N_drewN | apply Kd.N_drew)); exact HO_3.out⟩, ⟨by (with_reducible repeat (first | apply Kd.R_alloc | apply Kd.R_drewN | apply Kd.R_drew)); exact HO_3381002.out⟩, ⟨by (with_reducible repeat (first | apply Kd.N_alloc | apply Kd.N_drewN | apply Kd.N_drew)); exact HO_3381004.out⟩, ⟨by (with_reducible repeat (first | refine zN ?_ _ | refine zD ?_ | refine zA ?_ _)); exact BK3380.out⟩, ⟨by repeat (first | (with_reducible first | exact HB.out | apply zB | apply zC | apply zE | refine below_set ?_ GE3380.out) | exact HB.out)⟩⟩
     case round =>
      clear H'
      try clear c1
      try clear c2
      try clear c2b0
      try clear c2b1
      try clear p2
      try clear c6
      try clear c17
      try clear c18
      try clear c18b0
      try clear c18b1
      try clear c19
      try clear hcz13_0
      try clear hcz13_1
      try clear hcz13_2
      try clear hcz13_3
      try clear hcz13_4
      try clear hcz16_0
      try clear hcz16_1
      try clear hcz16_2
      try clear hcz16_3
      try clear hcz16_4
      try clear hcz9_0
      try clear hcz9_1
      try clear hcz9_2
      try clear hcz9_3
      try clear hcz9_4
      try clear hfz13_0
      try clear hfz13_1
      try clear hfz13_2
      try clear hfz13_3
      try clear hfz13_4
      try clear hfz16_0
      try clear hfz16_1
      try clear hfz16_2
      try clear hfz16_3
      try clear hfz16_4
      try clear hfz9_0
      try clear hfz9_1
      try clear hfz9_2
      try clear hfz9_3
      try clear hfz9_4
      try clear p2
      obtain ⟨x9_2, x10_2, x11_2, rfl, rfl, rfl, HA, HK2, HO_3, HO_3381002, HO_3381004, BK3380, HB⟩ := hrel
      cases gk with
      | zero => exact absurd HA.out (by simp [laws_FnExpFind.l0])
      | succ k2 =>
       have H := HA.out
       clear HA
       simp only [laws_FnExpFind.l0] at H
       by_cases c20 : x11_2 < (t3368.length : Int)
       ·rw [if_pos c20] at H
        have c20b0 : decide (x11_2 < (t3368.length : Int)) = true := decide_eq_true c20
        clear c20
        by_cases c21 : 0 ≤ x11_2
        ·rw [if_pos c21] at H
         have c21b0 : decide (0 ≤ x11_2) = true := decide_eq_true c21
         clear c21
         replace H := Option.bind_eq_some_iff.mp H
         obtain ⟨t3386, A220, H⟩ := H
         replace H : (if t3386 = true then (laws_FnExpFind.l1 k2 t3368 t3381 t3382 (wrap64 (x9_2 + 1)) x10_2 x11_2 true 0 t3371 t3372 t3373 t3376 t3377) else (laws_FnExpFind.l0 k2 t3368 t3381 t3382 x9_2 x10_2 (wrap64 (x11_2 + 1)) t3371 t3372 t3373 t3376 t3377)) = some r := H
         have A22 := Aq A220
         clear A220
         by_cases c23 : t3386 = true
         ·subst c23
          have H1 : (laws_FnExpFind.l1 k2 t3368 t3381 t3382 (wrap64 (x9_2 + 1)) x10_2 x11_2 true 0 t3371 t3372 t3373 t3376 t3377) = some r := by rw [if_pos rfl] at H; exact H
          clear H
          have H := H1
          clear H1
          have H' := Aq H
          clear H
          try go_wp2
          have n0_ := Aq (Kd.N_drew HO_3.out)
          have n1_ := Aq (Kd.R_drew HO_3381002.out)
          have n2_ := Aq (Kd.N_drew HO_3381004.out)
          have n3_ := Aq (zD BK3380.out)
          have n4_ := Aq (zE HB.out)
          clear HO_3 HO_3381002 HO_3381004 BK3380 HB
          have HO_3 := n0_
          have HO_3381002 := n1_
          have HO_3381004 := n2_
          have BK3380 := n3_
          have HB := n4_
          clear n0_ n1_ n2_ n3_ n4_
          have p3385 : 0 ≤ (x11_2 : Int) := of_decide_eq_true (by first | (with_reducible assumption) | assumption)
          have q3385 : x11_2 < (t3368.length : Int) := of_decide_eq_true (by first | (with_reducible assumption) | assumption)
          obtain ⟨ad3385, A3385_1, c3385_1, e3385, hx3385_0, hx3385_1, hx3385_2, hl3385_1, hi3385_1⟩ := at_T42 (Kd.N_reads' HO_3.out).2.2 x11_2 p3385 q3385
          cases e3385
          obtain ⟨ce3385, hce3385, hMe3385, hcc3385⟩ := Kd.N_get HO_3.out z42 x11_2 p3385 (by first | exact q3385 | exact of_decide_eq_true (by first | (with_reducible assumption) | assumption) | (have e_ := (Kd.N_reads' HO_3.out).1; omega))
          obtain ⟨ua3385_1, uc3385_1, rfl, ul3385_1, ge3385_1⟩ := k42_openF hMe3385
          have hv3385_1 := hcc3385 1 _ rfl
          rw [add_field _ _ 1 (by omega)] at hv3385_1
          replace hv3385_1 := Option.some.inj (hv3385_1.symm.trans hx3385_1)
          injection hv3385_1 with hva_ hvn_ hvc_
          rw [hva_] at ge3385_1
          rw [hvc_] at ul3385_1
          have HL3385_1 := Aq (show Kd.V (Kd.int .i64) 3 _ w.heap.size _ _ ((rd_T42 t3368 x11_2).f1) from Kd.V_mk ul3385_1 ge3385_1)
          clear hva_ hvn_ hvc_ ge3385_1 ul3385_1 hcc3385 hce3385
          have HR3385_1 := Aq hi3385_1
          have HC3385_1 := Aq hl3385_1
          clear hi3385_1 hl3385_1
          replace p3385 := eq_true p3385
          replace q3385 := eq_true q3385
          refine start_ (n := 7) (S := fun w' => w'.cell? ⟨gb3380, 0, none⟩ = some (.int .i64 t3371) ∧ w'.cell? ⟨gb3380, 1, none⟩ = some (.string t3372) ∧ w'.cell? ⟨gb3380, 2, none⟩ = some (.slice Ao10 t3373.length co10) ∧ w'.cell? ⟨gb3380, 3, none⟩ = some (.int .i64 t3376) ∧ w'.cell? ⟨gb3380, 4, none⟩ = some (.slice Ao11 t3377.length co11) ∧ w'.cell? (ad3385.add ((x11_2).toNat * 3)) = some (.string ((rd_T42 t3368 x11_2).f0)) ∧ w'.cell? ⟨(ad3385.add ((x11_2).toNat * 3)).block, (ad3385.add ((x11_2).toNat * 3)).off + 1, none⟩ = some (.slice A3385_1 ((rd_T42 t3368 x11_2).f1).length c3385_1) ∧ w'.cell? ⟨(ad3385.add ((x11_2).toNat * 3)).block, (ad3385.add ((x11_2).toNat * 3)).off + 2, none⟩ = some (.string ((rd_T42 t3368 x11_2).f2))) (ds := []) #[false, false, false, false, false, false, false] (by kernel_rfl) rfl rfl ⟨(blk_cell BK3380.out 0).trans rfl, (blk_cell BK3380.out 1).trans rfl, (blk_cell BK3380.out 2).trans rfl, (blk_cell BK3380.out 3).trans rfl, (blk_cell BK3380.out 4).trans rfl, hx3385_0, hx3385_1, hx3385_2⟩ (fun hHeld => ?_)
          generalize wr.drew = w24 at HO_3 HO_3381002 HO_3381004 BK3380 HB HL3385_1 HR3385_1 hx3385_0 hx3385_1 hx3385_2 hHeld ⊢
          refine pure_ (i := 0) (N := some 48) (v := ?_) (a' := ?_) #[true, false, false, false, false, false, false] rfl rfl (by kernel_rfl) (fun _ _ _ h => h) (Or.inl ⟨by rfl, ?_⟩) ?_ ?_
          rotate_left
          ·intro w'
           go_simp
           with_reducible rfl
          rotate_left
          ·simp only [Act.put, sA, sB, sC, i64_w, i32_w]
           rfl
          refine pure_ (i := 1) (N := some 49) (v := ?_) (a' := ?_) #[true, true, false, false, false, false, false] rfl rfl (by kernel_rfl) (fun _ _ _ h => h) (Or.inl ⟨by rfl, ?_⟩) ?_ ?_
          rotate_left
          ·intro w'
           go_simp
           with_reducible rfl
          rotate_left
          ·simp only [Act.put, sA, sB, sC, i64_w, i32_w]
           rfl
          refine pure_ (i := 2) (N := some 50) (v := ?_) (a' := ?_) #[true, true, true, false, false, false, false] rfl rfl (by kernel_rfl) (fun _ _ _ h => h) (Or.inl ⟨by rfl, ?_⟩) ?_ ?_
          rotate_left
          ·intro w'
           go_simp
           with_reducible rfl
          rotate_left
          ·simp only [Act.put, sA, sB, sC, i64_w, i32_w]
           rfl
          refine take_ (i := 3) (N := some 51) (v := ?_) (a' := ?_) #[true, true, true, true, false, false, false] rfl rfl (by kernel_rfl) (fun _ _ _ h => h) (Or.inl ⟨by rfl, ?_⟩) hHeld ?_ ?_
          rotate_left
          ·rintro w' ⟨s0, s1, s2, s3, s4, s5, s6, s7⟩
           go_simp
           with_reducible rfl
          rotate_left
          ·simp only [Act.put, sA, sB, sC, i64_w, i32_w]
           rfl
          refine take_ (i := 4) (N := some 52) (v := ?_) (a' := ?_) #[true, true, true, true, true, false, false] rfl rfl (by kernel_rfl) (fun _ _ _ h => h) (Or.inl ⟨by rfl, ?_⟩) hHeld ?_ ?_
          rotate_left
          ·rintro w' ⟨s0, s1, s2, s3, s4, s5, s6, s7⟩
           go_simp
           with_reducible rfl
          rotate_left
          ·simp only [Act.put, sA, sB, sC, i64_w, i32_w]
           rfl
          refine one_ (i := 5) (N := some 53) #[true, true, true, true, true, true, false] rfl rfl (by kernel_rfl) (by decide) (fun K hK => ?_)
          refine goes_ Try.func20 (by kernel_rfl) rfl #[.agg #[.string ((rd_T42 t3368 x11_2).f0), .slice A3385_1 ((rd_T42 t3368 x11_2).f1).length c3385_1, .string ((rd_T42 t3368 x11_2).f2)], .agg #[.int .i64 t3371, .string t3372, .slice Ao10 t3373.length co10, .int .i64 t3376, .slice Ao11 t3377.length co11]] (by rfl) rfl rfl (by (try simp only [List.map_toArray, List.map_cons, List.map_nil]); first | done | rfl | (simp only [List.length_drop, List.length_take]; rfl)) ?_
          with_reducible refine (laws_wxFits.calls k2 ((rd_T42 t3368 x11_2).f0) _ _ ((rd_T42 t3368 x11_2).f1) ((rd_T42 t3368 x11_2).f2) t3371 t3372 _ _ t3373 t3376 _ _ t3377 true _ ?side1 ?side2 ?side3 ?side4 ?side5 ?side6 A22.out).mono ?_
          (case side1 => repeat (first | exact (by repeat (first | (with_reducible exact HR3385_1.out) | (with_reducible refine Kd.C_alloc ?_ _) | (with_reducible refine Kd.C_drewN ?_ _) | (with_reducible refine Kd.C_drew ?_) | exact HR3385_1.out | exact (Kd.V_reads' HL3385_1.out).2.2)) | (with_reducible refine Kd.C_alloc ?_ _) | (with_reducible refine Kd.C_drewN ?_ _) | (with_reducible refine Kd.C_drew ?_)))
          (case side2 => exact HC3385_1.out)
          (case side3 => repeat (first | exact (Kd.R_reads' HO_3381002.out).2.2 | (with_reducible refine Kd.C_alloc ?_ _) | (with_reducible refine Kd.C_drewN ?_ _) | (with_reducible refine Kd.C_drew ?_)))
          (case side4 => exact (Kd.R_reads' HO_3381002.out).2.1)
          (case side5 => repeat (first | exact (Kd.N_reads' HO_3381004.out).2.2 | (with_reducible refine Kd.C_alloc ?_ _) | (with_reducible refine Kd.C_drewN ?_ _) | (with_reducible refine Kd.C_drew ?_)))
          (case side6 => exact (Kd.N_reads' HO_3381004.out).2.1)
          rintro e w25 ⟨rfl, hb⟩
          have HS5_ := (hb.cell (World.block_lt_of_cell? _ _ (hHeld.2.2.2.2.2.1))).trans (hHeld.2.2.2.2.2.1)
          have HS6_ := (hb.cell (World.block_lt_of_cell? _ _ (hHeld.2.2.2.2.2.2.1))).trans (hHeld.2.2.2.2.2.2.1)
          have HS7_ := (hb.cell (World.block_lt_of_cell? _ _ (hHeld.2.2.2.2.2.2.2))).trans (hHeld.2.2.2.2.2.2.2)
          refine ⟨_, rfl, ?_⟩
          have n0_ := Aq (Kd.N_below (by (with_reducible repeat (first | apply Kd.N_alloc | apply Kd.N_drewN | apply Kd.N_drew)); exact HO_3.out) hb)
          have n1_ := Aq (Kd.R_below (by (with_reducible repeat (first | apply Kd.R_alloc | apply Kd.R_drewN | apply Kd.R_drew)); exact HO_3381002.out) hb)
          have n2_ := Aq (Kd.N_below (by (with_reducible repeat (first | apply Kd.N_alloc | apply Kd.N_drewN | apply Kd.N_drew)); exact HO_3381004.out) hb)
          have n3_ := Aq (Kd.V_below (by (with_reducible repeat (first | apply Kd.V_alloc | apply Kd.V_drewN | apply Kd.V_drew)); exact HL3385_1.out) hb)
          have n4_ := Aq (blk_below (g := gb3380) (o := .cells #[.int .i64 t3371, .string t3372, .slice Ao10 t3373.length co10, .int .i64 t3376, .slice Ao11 t3377.length co11] 35 (0, 0)) (by (with_reducible repeat (first | refine zN ?_ _ | refine zD ?_ | refine zA ?_ _)); exact BK3380.out) hb)
          have n5_ := Aq (Kd.C_below (by repeat (first | (with_reducible exact HR3385_1.out) | (with_reducible refine Kd.C_alloc ?_ _) | (with_reducible refine Kd.C_drewN ?_ _) | (with_reducible refine Kd.C_drew ?_) | exact HR3385_1.out | exact (Kd.V_reads' HL3385_1.out).2.2)) hb)
          have n6_ := Aq (below_step (by repeat (first | (with_reducible first | exact HB.out | apply zB | apply zC | apply zE | refine below_set ?_ GE3380.out) | exact HB.out)) hb)
          clear HO_3 HO_3381002 HO_3381004 HL3385_1 BK3380 HR3385_1 HB
          have HO_3 := n0_
          have HO_3381002 := n1_
          have HO_3381004 := n2_
          have HL3385_1 := n3_
          have BK3380 := n4_
          have HR3385_1 := n5_
          have HB := n6_
          clear n0_ n1_ n2_ n3_ n4_ n5_ n6_
          (try clear hb)
          (try clear hb2)
          (try clear hk)
          (try clear hi)
          refine hK.out _ _ ⟨(blk_cell BK3380.out 0).trans rfl, (blk_cell BK3380.out 1).trans rfl, (blk_cell BK3380.out 2).trans rfl, (blk_cell BK3380.out 3).trans rfl, (blk_cell BK3380.out 4).trans rfl, HS5_, HS6_, HS7_⟩ (fun hHeld => ?_)
          clear hK K
          refine norm_ (a' := ?_) ?_ ?_
          rotate_left
          ·show Act.put _ (some 53) _ = _
           simp only [Act.put, sA, sB, sC, i64_w, i32_w]
           rfl
          refine pure_ (i := 6) (N := some 54) (v := ?_) (a' := ?_) #[true, true, true, true, true, true, true] rfl rfl (by kernel_rfl) (fun _ _ _ h => h) (Or.inl ⟨by rfl, ?_⟩) ?_ ?_
          rotate_left
          ·intro w'
           go_simp
           with_reducible rfl
          rotate_left
          ·simp only [Act.put, sA, sB, sC, i64_w, i32_w]
           rfl
          refine done_ (by kernel_rfl) ?_
          try go_wp2
          go_loopg [12, 13] k2 (fun kq v12 v13 w' => ∃ (x12_3 : Bool) (x13_3 : Int), v12 = .bool x12_3 ∧ v13 = .int .i64 x13_3 ∧ Aside0 (laws_FnExpFind.l1 kq t3368 t3381 t3382 (wrap64 (x9_2 + 1)) x10_2 x11_2 x12_3 x13_3 t3371 t3372 t3373 t3376 t3377 = some r) ∧ Aside0 (kq ≤ k2) ∧ Aside0 (Kd.N k42 42 w' w.heap.size (fun k_ => some k_ ≠ ((.slice Ao10 t3373.length co10) : Value).ownBlock ∧ some k_ ≠ ((.slice Ao11 t3377.length co11) : Value).ownBlock ∧ k_ ≠ gb3380) (.slice (some ad3385) t3368.length co14) t3368) ∧ Aside0 (Kd.R (Kd.int .i64) 3 w' w.heap.size (fun _ => True) (.slice Ao10 t3373.length co10) t3373) ∧ Aside0 (Kd.N k35 35 w' w.heap.size (fun k_ => some k_ ≠ ((.slice (some ad3385) t3368.length co14) : Value).ownBlock ∧ some k_ ≠ ((.slice Ao10 t3373.length co10) : Value).ownBlock ∧ k_ ≠ gb3380) (.slice Ao11 t3377.length co11) t3377) ∧ Aside0 (w'.heap[gb3380]? = some (.cells #[.int .i64 t3371, .string t3372, (.slice Ao10 t3373.length co10), .int .i64 t3376, (.slice Ao11 t3377.length co11)] 35 (0, 0))) ∧ Aside0 (Kd.C (Kd.int .i64) w' A3385_1 ((rd_T42 t3368 x11_2).f1).length ((rd_T42 t3368 x11_2).f1)) ∧ Aside0 (Below w.heap.size w w'))
          case atStart => exact ⟨(true), (0), (by first | rfl | (simp; done) | (simp [*]; done)), (by first | rfl | (simp; done) | (simp [*]; done)), H', ⟨Nat.le_refl _⟩, ⟨by (with_reducible repeat (first | apply Kd.N_alloc | apply Kd.N_drewN | apply Kd.N_drew)); exact HO_3.out⟩, ⟨by (with_reducible repeat (first | apply Kd.R_alloc | apply Kd.R_drewN | apply Kd.R_drew)); exact HO_3381002.out⟩, ⟨by (with_reducible repeat (first | apply Kd.N_alloc | apply Kd.N_drewN | apply Kd.N_drew)); exact HO_3381004.out⟩, ⟨by (with_reducible repeat (first | refine zN ?_ _ | refine zD ?_ | refine zA ?_ _)); exact BK3380.out⟩, ⟨by repeat (first | (with_reducible exact HR3385_1.out) | (with_reducible refine Kd.C_alloc ?_ _) | (with_reducible refine Kd.C_drewN ?_ _) | (with_reducible refine Kd.C_drew ?_) | exact HR3385_1.out | exact (Kd.V_reads' HL3385_1.out).2.2)⟩, ⟨by repeat (first | (with_reducible first | exact HB.out | apply zB | apply zC | apply zE | refine below_set ?_ GE3380.out) | exact HB.out)⟩⟩
          case round =>
           clear H'
           try clear c1
           try clear c2
           try clear c2b0
           try clear c2b1
           try clear p2
           try clear c3
           try clear p3
           try clear q3
           try clear hx3
           try clear c6
           try clear p6
           try clear c17
           try clear c18
           try clear c18b0
           try clear c18b1
           try clear c19
           try clear c20
           try clear c20b0
           try clear c21
           try clear c21b0
           try clear c23
           try clear hcz13_0
           try clear hcz13_1
           try clear hcz13_2
           try clear hcz13_3
           try clear hcz13_4
           try clear hcz16_0
           try clear hcz16_1
           try clear hcz16_2
           try clear hcz16_3
           try clear hcz16_4
           try clear hcz9_0
           try clear hcz9_1
           try clear hcz9_2
           try clear hcz9_3
           try clear hcz9_4
           try clear hfz13_0
           try clear hfz13_1
           try clear hfz13_2
           try clear hfz13_3
           try clear hfz13_4
           try clear hfz16_0
           try clear hfz16_1
           try clear hfz16_2
           try clear hfz16_3
           try clear hfz16_4
           try clear hfz9_0
           try clear hfz9_1
           try clear hfz9_2
           try clear hfz9_3
           try clear hfz9_4
           try clear hx3385_0
           try clear hx3385_1
           try clear hx3385_2
           try clear p2
           try clear p3385
           try clear q3385
           obtain ⟨x12_3, x13_3, rfl, rfl, HA, HK3, HO_3, HO_3381002, HO_3381004, BK3380, HR3385_1, HB⟩ := hrel
           cases gk with
           | zero => exact absurd HA.out (by simp [laws_FnExpFind.l1])
           | succ k3 =>
            have H := HA.out
            clear HA
            simp only [laws_FnExpFind.l1] at H
            by_cases c26 : x13_3 < (t3368.length : Int)
            ·rw [if_pos c26] at H
             have c26b0 : decide (x13_3 < (t3368.length : Int)) = true := decide_eq_true c26
             clear c26
             by_cases c27 : x12_3 = true
             ·subst c27
              have H1 : (if 0 ≤ x13_3 then ((laws_wxFits.f k3 ((rd_T42 t3368 x13_3).f0) ((rd_T42 t3368 x13_3).f1) ((rd_T42 t3368 x13_3).f2) t3371 t3372 t3373 t3376 t3377).bind fun t3388 => (if t3388 = true then (if 0 ≤ x11_2 then (if x11_2 < (t3368.length : Int) then ((laws_wxWithin.f k3 ((rd_T42 t3368 x13_3).f1) ((rd_T42 t3368 x11_2).f1)).bind fun t3391 => (laws_FnExpFind.l1 k3 t3368 t3381 t3382 (wrap64 (x9_2 + 1)) x10_2 x11_2 t3391 (wrap64 (x13_3 + 1)) t3371 t3372 t3373 t3376 t3377)) else (none)) else (none)) else (laws_FnExpFind.l1 k3 t3368 t3381 t3382 (wrap64 (x9_2 + 1)) x10_2 x11_2 true (wrap64 (x13_3 + 1)) t3371 t3372 t3373 t3376 t3377))) else (none)) = some r := by rw [if_pos rfl] at H; exact H
              clear H
              have H := H1
              clear H1
              by_cases c28 : 0 ≤ x13_3
              ·rw [if_pos c28] at H
               have c28b0 : decide (0 ≤ x13_3) = true := decide_eq_true c28
               clear c28
               replace H := Option.bind_eq_some_iff.mp H
               obtain ⟨t3388, A290, H⟩ := H
               replace H : (if t3388 = true then (if 0 ≤ x11_2 then (if x11_2 < (t3368.length : Int) then ((laws_wxWithin.f k3 ((rd_T42 t3368 x13_3).f1) ((rd_T42 t3368 x11_2).f1)).bind fun t3391 => (laws_FnExpFind.l1 k3 t3368 t3381 t3382 (wrap64 (x9_2 + 1)) x10_2 x11_2 t3391 (wrap64 (x13_3 + 1)) t3371 t3372 t3373 t3376 t3377)) else (none)) else (none)) else (laws_FnExpFind.l1 k3 t3368 t3381 t3382 (wrap64 (x9_2 + 1)) x10_2 x11_2 true (wrap64 (x13_3 + 1)) t3371 t3372 t3373 t3376 t3377)) = some r := H
               have A29 := Aq A290
               clear A290
               by_cases c30 : t3388 = true
               ·subst c30
                have H1 : (if 0 ≤ x11_2 then (if x11_2 < (t3368.length : Int) then ((laws_wxWithin.f k3 ((rd_T42 t3368 x13_3).f1) ((rd_T42 t3368 x11_2).f1)).bind fun t3391 => (laws_FnExpFind.l1 k3 t3368 t3381 t3382 (wrap64 (x9_2 + 1)) x10_2 x11_2 t3391 (wrap64 (x13_3 + 1)) t3371 t3372 t3373 t3376 t3377)) else (none)) else (none)) = some r := by rw [if_pos rfl] at H; exact H
                clear H
                have H := H1
                clear H1
                by_cases c31 : 0 ≤ x11_2
                ·rw [if_pos c31] at H
                 have c31b0 : decide (0 ≤ x11_2) = true := decide_eq_true c31
                 clear c31
                 by_cases c32 : x11_2 < (t3368.length : Int)
                 ·rw [if_pos c32] at H
                  have c32b0 : decide (x11_2 < (t3368.length : Int)) = true := decide_eq_true c32
                  clear c32
                  replace H := Option.bind_eq_some_iff.mp H
                  obtain ⟨t3391, A330, H⟩ := H
                  replace H : (laws_FnExpFind.l1 k3 t3368 t3381 t3382 (wrap64 (x9_2 + 1)) x10_2 x11_2 t3391 (wrap64 (x13_3 + 1)) t3371 t3372 t3373 t3376 t3377) = some r := H
                  have A33 := Aq A330
                  clear A330
                  have H' := Aq H
                  clear H
                  try go_wp2
                  have n0_ := Aq (Kd.N_drew HO_3.out)
                  have n1_ := Aq (Kd.R_drew HO_3381002.out)
                  have n2_ := Aq (Kd.N_drew HO_3381004.out)
                  have n3_ := Aq (zD BK3380.out)
                  have n4_ := Aq (Kd.C_drew HR3385_1.out)
                  have n5_ := Aq (zE HB.out)
                  clear HO_3 HO_3381002 HO_3381004 BK3380 HR3385_1 HB
                  have HO_3 := n0_
                  have HO_3381002 := n1_
                  have HO_3381004 := n2_
                  have BK3380 := n3_
                  have HR3385_1 := n4_
                  have HB := n5_
                  clear n0_ n1_ n2_ n3_ n4_ n5_
                  have p3387 : 0 ≤ (x13_3 : Int) := of_decide_eq_true (by first | (with_reducible assumption) | assumption)
                  have q3387 : x13_3 < (t3368.length : Int) := of_decide_eq_true (by first | (with_reducible assumption) | assumption)
                  obtain ⟨ad3387, A3387_1, c3387_1, e3387, hx3387_0, hx3387_1, hx3387_2, hl3387_1, hi3387_1⟩ := at_T42 (Kd.N_reads' HO_3.out).2.2 x13_3 p3387 q3387
                  obtain rfl : ad3385 = ad3387 := (by injection e3387)
                  obtain ⟨ce3387, hce3387, hMe3387, hcc3387⟩ := Kd.N_get HO_3.out z42 x13_3 p3387 (by first | exact q3387 | exact of_decide_eq_true (by first | (with_reducible assumption) | assumption) | (have e_ := (Kd.N_reads' HO_3.out).1; omega))
                  obtain ⟨ua3387_1, uc3387_1, rfl, ul3387_1, ge3387_1⟩ := k42_openF hMe3387
                  have hv3387_1 := hcc3387 1 _ rfl
                  rw [add_field _ _ 1 (by omega)] at hv3387_1
                  replace hv3387_1 := Option.some.inj (hv3387_1.symm.trans hx3387_1)
                  injection hv3387_1 with hva_ hvn_ hvc_
                  rw [hva_] at ge3387_1
                  rw [hvc_] at ul3387_1
                  have HL3387_1 := Aq (show Kd.V (Kd.int .i64) 3 _ w.heap.size _ _ ((rd_T42 t3368 x13_3).f1) from Kd.V_mk ul3387_1 ge3387_1)
                  clear hva_ hvn_ hvc_ ge3387_1 ul3387_1 hcc3387 hce3387
                  have HR3387_1 := Aq hi3387_1
                  have HC3387_1 := Aq hl3387_1
                  clear hi3387_1 hl3387_1
                  replace p3387 := eq_true p3387
                  replace q3387 := eq_true q3387
                  have p3389 : 0 ≤ (x13_3 : Int) := of_decide_eq_true (by first | (with_reducible assumption) | assumption)
                  have q3389 : x13_3 < (t3368.length : Int) := of_decide_eq_true (by first | (with_reducible assumption) | assumption)
                  obtain ⟨ad3389, A3389_1, c3389_1, e3389, hx3389_0, hx3389_1, hx3389_2, hl3389_1, hi3389_1⟩ := at_T42 (Kd.N_reads' HO_3.out).2.2 x13_3 p3389 q3389
                  obtain rfl : ad3385 = ad3389 := (by injection e3389)
                  obtain ⟨rfl, rfl⟩ : A3387_1 = A3389_1 ∧ c3387_1 = c3389_1 := (by have hq_ := Option.some.inj (show some _ = some _ from (by first | exact hw3387_1.symm.trans hx3389_1 | exact hx3387_1.symm.trans hx3389_1)); injection hq_ with hqa_ hqn_ hqc_; exact ⟨hqa_, hqc_⟩)
                  obtain ⟨ce3389, hce3389, hMe3389, hcc3389⟩ := Kd.N_get HO_3.out z42 x13_3 p3389 (by first | exact q3389 | exact of_decide_eq_true (by first | (with_reducible assumption) | assumption) | (have e_ := (Kd.N_reads' HO_3.out).1; omega))
                  obtain ⟨ua3389_1, uc3389_1, rfl, ul3389_1, ge3389_1⟩ := k42_openF hMe3389
                  have hv3389_1 := hcc3389 1 _ rfl
                  rw [add_field _ _ 1 (by omega)] at hv3389_1
                  replace hv3389_1 := Option.some.inj (hv3389_1.symm.trans hx3389_1)
                  injection hv3389_1 with hva_ hvn_ hvc_
                  rw [hva_] at ge3389_1
                  rw [hvc_] at ul3389_1
                  have HL3389_1 := Aq (show Kd.V (Kd.int .i64) 3 _ w.heap.size _ _ ((rd_T42 t3368 x13_3).f1) from Kd.V_mk ul3389_1 ge3389_1)
                  clear hva_ hvn_ hvc_ ge3389_1 ul3389_1 hcc3389 hce3389
                  have HR3389_1 := Aq hi3389_1
                  have HC3389_1 := Aq hl3389_1
                  clear hi3389_1 hl3389_1
                  replace p3389 := eq_true p3389
                  replace q3389 := eq_true q3389
                  have p3390 : 0 ≤ (x11_2 : Int) := of_decide_eq_true (by first | (with_reducible assumption) | assumption)
                  have q3390 : x11_2 < (t3368.length : Int) := of_decide_eq_true (by first | (with_reducible assumption) | assumption)
                  obtain ⟨ad3390, A3390_1, c3390_1, e3390, hx3390_0, hx3390_1, hx3390_2, hl3390_1, hi3390_1⟩ := at_T42 (Kd.N_reads' HO_3.out).2.2 x11_2 p3390 q3390
                  obtain rfl : ad3385 = ad3390 := (by injection e3390)
                  obtain ⟨ce3390, hce3390, hMe3390, hcc3390⟩ := Kd.N_get HO_3.out z42 x11_2 p3390 (by first | exact q3390 | exact of_decide_eq_true (by first | (with_reducible assumption) | assumption) | (have e_ := (Kd.N_reads' HO_3.out).1; omega))
                  obtain ⟨ua3390_1, uc3390_1, rfl, ul3390_1, ge3390_1⟩ := k42_openF hMe3390
                  have hv3390_1 := hcc3390 1 _ rfl
                  rw [add_field _ _ 1 (by omega)] at hv3390_1
                  replace hv3390_1 := Option.some.inj (hv3390_1.symm.trans hx3390_1)
                  injection hv3390_1 with hva_ hvn_ hvc_
                  rw [hva_] at ge3390_1
                  rw [hvc_] at ul3390_1
                  have HL3390_1 := Aq (show Kd.V (Kd.int .i64) 3 _ w.heap.size _ _ ((rd_T42 t3368 x11_2).f1) from Kd.V_mk ul3390_1 ge3390_1)
                  clear hva_ hvn_ hvc_ ge3390_1 ul3390_1 hcc3390 hce3390
                  have HR3390_1 := Aq hi3390_1
                  have HC3390_1 := Aq hl3390_1
                  clear hi3390_1 hl3390_1
                  replace p3390 := eq_true p3390
                  replace q3390 := eq_true q3390
                  refine start_ (n := 24) (S := fun w' => w'.cell? ⟨gb3380, 0, none⟩ = some (.int .i64 t3371) ∧ w'.cell? ⟨gb3380, 1, none⟩ = some (.string t3372) ∧ w'.cell? ⟨gb3380, 2, none⟩ = some (.slice Ao10 t3373.length co10) ∧ w'.cell? ⟨gb3380, 3, none⟩ = some (.int .i64 t3376) ∧ w'.cell? ⟨gb3380, 4, none⟩ = some (.slice Ao11 t3377.length co11) ∧ w'.cell? (ad3385.add ((x13_3).toNat * 3)) = some (.string ((rd_T42 t3368 x13_3).f0)) ∧ w'.cell? ⟨(ad3385.add ((x13_3).toNat * 3)).block, (ad3385.add ((x13_3).toNat * 3)).off + 1, none⟩ = some (.slice A3387_1 ((rd_T42 t3368 x13_3).f1).length c3387_1) ∧ w'.cell? ⟨(ad3385.add ((x13_3).toNat * 3)).block, (ad3385.add ((x13_3).toNat * 3)).off + 2, none⟩ = some (.string ((rd_T42 t3368 x13_3).f2)) ∧ w'.cell? (ad3385.add ((x13_3).toNat * 3)) = some (.string ((rd_T42 t3368 x13_3).f0)) ∧ w'.cell? ⟨(ad3385.add ((x13_3).toNat * 3)).block, (ad3385.add ((x13_3).toNat * 3)).off + 1, none⟩ = some (.slice A3387_1 ((rd_T42 t3368 x13_3).f1).length c3387_1) ∧ w'.cell? ⟨(ad3385.add ((x13_3).toNat * 3)).block, (ad3385.add ((x13_3).toNat * 3)).off + 2, none⟩ = some (.string ((rd_T42 t3368 x13_3).f2)) ∧ w'.cell? (ad3385.add ((x11_2).toNat * 3)) = some (.string ((rd_T42 t3368 x11_2).f0)) ∧ w'.cell? ⟨(ad3385.add ((x11_2).toNat * 3)).block, (ad3385.add ((x11_2).toNat * 3)).off + 1, none⟩ = some (.slice A3390_1 ((rd_T42 t3368 x11_2).f1).length c3390_1) ∧ w'.cell? ⟨(ad3385.add ((x11_2).toNat * 3)).block, (ad3385.add ((x11_2).toNat * 3)).off + 2, none⟩ = some (.string ((rd_T42 t3368 x11_2).f2))) (ds := []) #[false, false, false, false, false, false, false, false, false, false, false, false, false, false, false, false, false, false, false, false, false, false, false, false] (by kernel_rfl) rfl rfl ⟨(blk_cell BK3380.out 0).trans rfl, (blk_cell BK3380.out 1).trans rfl, (blk_cell BK3380.out 2).trans rfl, (blk_cell BK3380.out 3).trans rfl, (blk_cell BK3380.out 4).trans rfl, hx3387_0, hx3387_1, hx3387_2, hx3389_0, hx3389_1, hx3389_2, hx3390_0, hx3390_1, hx3390_2⟩ (fun hHeld => ?_); refine with_tabW laws_FnExpFind.tab19 laws_FnExpFind.bits19 (fun HT_ HW_ => ?_)
                  generalize wr.drew = w34 at HO_3 HO_3381002 HO_3381004 BK3380 HR3385_1 HB HL3387_1 HL3389_1 HL3390_1 HR3387_1 HR3389_1 HR3390_1 hx3387_0 hx3387_1 hx3387_2 hx3389_0 hx3389_1 hx3389_2 hx3390_0 hx3390_1 hx3390_2 hHeld ⊢
                  refine pure_ (i := 0) (N := some 63) (v := ?_) (a' := ?_) #[true, false, false, false, false, false, false, false, false, false, false, false, false, false, false, false, false, false, false, false, false, false, false, false] rfl rfl (any_of HT_.out (by kernel_rfl)) (fun _ _ _ h => h) (Or.inl ⟨by rfl, ?_⟩) ?_ ?_
                  rotate_left
                  ·intro w'
                   go_simp
                   with_reducible rfl
                  rotate_left
                  ·simp only [Act.put, sA, sB, sC, i64_w, i32_w]
                   rfl
                  refine pure_ (i := 1) (N := some 64) (v := ?_) (a' := ?_) #[true, true, false, false, false, false, false, false, false, false, false, false, false, false, false, false, false, false, false, false, false, false, false, false] rfl rfl (any_of HT_.out (by kernel_rfl)) (fun _ _ _ h => h) (Or.inl ⟨by rfl, ?_⟩) ?_ ?_
                  rotate_left
                  ·intro w'
                   go_simp
                   with_reducible rfl
                  rotate_left
                  ·simp only [Act.put, sA, sB, sC, i64_w, i32_w]
                   rfl
                  refine pure_ (i := 2) (N := some 65) (v := ?_) (a' := ?_) #[true, true, true, false, false, false, false, false, false, false, false, false, false, false, false, false, false, false, false, false, false, false, false, false] rfl rfl (any_of HT_.out (by kernel_rfl)) (fun _ _ _ h => h) (Or.inl ⟨by rfl, ?_⟩) ?_ ?_
                  rotate_left
                  ·intro w'
                   go_simp
                   with_reducible rfl
                  rotate_left
                  ·simp only [Act.put, sA, sB, sC, i64_w, i32_w]
                   rfl
                  refine pure_ (i := 3) (N := some 66) (v := ?_) (a' := ?_) #[true, true, true, true, false, false, false, false, false, false, false, false, false, false, false, false, false, false, false, false, false, false, false, false] rfl rfl (any_of HT_.out (by kernel_rfl)) (fun _ _ _ h => h) (Or.inl ⟨by rfl, ?_⟩) ?_ ?_
                  rotate_left
                  ·intro w'
                   go_simp
                   with_reducible rfl
                  rotate_left
                  ·simp only [Act.put, sA, sB, sC, i64_w, i32_w]
                   rfl
                  refine pure_ (i := 4) (N := some 67) (v := ?_) (a' := ?_) #[true, true, true, true, true, false, false, false, false, false, false, false, false, false, false, false, false, false, false, false, false, false, false, false] rfl rfl (any_of HT_.out (by kernel_rfl)) (fun _ _ _ h => h) (Or.inl ⟨by rfl, ?_⟩) ?_ ?_
                  rotate_left
                  ·intro w'
                   go_simp
                   with_reducible rfl
                  rotate_left
                  ·simp only [Act.put, sA, sB, sC, i64_w, i32_w]
                   rfl
                  refine take_ (i := 5) (N := some 68) (v := ?_) (a' := ?_) #[true, true, true, true, true, true, false, false, false, false, false, false, false, false, false, false, false, false, false, false, false, false, false, false] rfl rfl (take_ofW HT_.out HW_.out (by kernel_rfl)) (fun _ _ _ h => h) (Or.inl ⟨by rfl, ?_⟩) hHeld ?_ ?_
                  rotate_left
                  ·rintro w' ⟨s0, s1, s2, s3, s4, s5, s6, s7, s8, s9, s10, s11, s12, s13⟩
                   go_simp
                   with_reducible rfl
                  rotate_left
                  ·simp only [Act.put, sA, sB, sC, i64_w, i32_w]
                   rfl
                  refine take_ (i := 6) (N := some 69) (v := ?_) (a' := ?_) #[true, true, true, true, true, true, true, false, false, false, false, false, false, false, false, false, false, false, false, false, false, false, false, false] rfl rfl (take_ofW HT_.out HW_.out (by kernel_rfl)) (fun _ _ _ h => h) (Or.inl ⟨by rfl, ?_⟩) hHeld ?_ ?_
                  rotate_left
                  ·rintro w' ⟨s0, s1, s2, s3, s4, s5, s6, s7, s8, s9, s10, s11, s12, s13⟩
                   go_simp
                   with_reducible rfl
                  rotate_left
                  ·simp only [Act.put, sA, sB, sC, i64_w, i32_w]
                   rfl
                  refine one_ (i := 7) (N := some 70) #[true, true, true, true, true, true, true, true, false, false, false, false, false, false, false, false, false, false, false, false, false, false, false, false] rfl rfl (one_of HT_.out (by kernel_rfl)) (by decide) (fun K hK => ?_)
                  refine goes_ Try.func20 (by kernel_rfl) rfl #[.agg #[.string ((rd_T42 t3368 x13_3).f0), .slice A3387_1 ((rd_T42 t3368 x13_3).f1).length c3387_1, .string ((rd_T42 t3368 x13_3).f2)], .agg #[.int .i64 t3371, .string t3372, .slice Ao10 t3373.length co10, .int .i64 t3376, .slice Ao11 t3377.length co11]] (by rfl) rfl rfl (by (try simp only [List.map_toArray, List.map_cons, List.map_nil]); first | done | rfl | (simp only [List.length_drop, List.length_take]; rfl)) ?_
                  with_reducible refine (laws_wxFits.calls k3 ((rd_T42 t3368 x13_3).f0) _ _ ((rd_T42 t3368 x13_3).f1) ((rd_T42 t3368 x13_3).f2) t3371 t3372 _ _ t3373 t3376 _ _ t3377 true _ ?side1 ?side2 ?side3 ?side4 ?side5 ?side6 A29.out).mono ?_
                  (case side1 => repeat (first | exact (by repeat (first | (with_reducible exact HR3387_1.out) | (with_reducible refine Kd.C_alloc ?_ _) | (with_reducible refine Kd.C_drewN ?_ _) | (with_reducible refine Kd.C_drew ?_) | exact HR3387_1.out | exact (Kd.V_reads' HL3387_1.out).2.2)) | (with_reducible refine Kd.C_alloc ?_ _) | (with_reducible refine Kd.C_drewN ?_ _) | (with_reducible refine Kd.C_drew ?_)))
                  (case side2 => exact HC3387_1.out)
                  (case side3 => repeat (first | exact (Kd.R_reads' HO_3381002.out).2.2 | (with_reducible refine Kd.C_alloc ?_ _) | (with_reducible refine Kd.C_drewN ?_ _) | (with_reducible refine Kd.C_drew ?_)))
                  (case side4 => exact (Kd.R_reads' HO_3381002.out).2.1)
                  (case side5 => repeat (first | exact (Kd.N_reads' HO_3381004.out).2.2 | (with_reducible refine Kd.C_alloc ?_ _) | (with_reducible refine Kd.C_drewN ?_ _) | (with_reducible refine Kd.C_drew ?_)))
                  (case side6 => exact (Kd.N_reads' HO_3381004.out).2.1)
                  rintro e w35 ⟨rfl, hb⟩
                  try have HR3389_1 := Aq (Kd.C_below HR3389_1.out hb)
                  try have HR3390_1 := Aq (Kd.C_below HR3390_1.out hb)
                  have HS5_ := (hb.cell (World.block_lt_of_cell? _ _ (hHeld.2.2.2.2.2.1))).trans (hHeld.2.2.2.2.2.1)
                  have HS6_ := (hb.cell (World.block_lt_of_cell? _ _ (hHeld.2.2.2.2.2.2.1))).trans (hHeld.2.2.2.2.2.2.1)
                  have HS7_ := (hb.cell (World.block_lt_of_cell? _ _ (hHeld.2.2.2.2.2.2.2.1))).trans (hHeld.2.2.2.2.2.2.2.1)
                  have HS8_ := (hb.cell (World.block_lt_of_cell? _ _ (hHeld.2.2.2.2.2.2.2.2.1))).trans (hHeld.2.2.2.2.2.2.2.2.1)
                  have HS9_ := (hb.cell (World.block_lt_of_cell? _ _ (hHeld.2.2.2.2.2.2.2.2.2.1))).trans (hHeld.2.2.2.2.2.2.2.2.2.1)
                  have HS10_ := (hb.cell (World.block_lt_of_cell? _ _ (hHeld.2.2.2.2.2.2.2.2.2.2.1))).trans (hHeld.2.2.2.2.2.2.2.2.2.2.1)
                  have HS11_ := (hb.cell (World.block_lt_of_cell? _ _ (hHeld.2.2.2.2.2.2.2.2.2.2.2.1))).trans (hHeld.2.2.2.2.2.2.2.2.2.2.2.1)
                  have HS12_ := (hb.cell (World.block_lt_of_cell? _ _ (hHeld.2.2.2.2.2.2.2.2.2.2.2.2.1))).trans (hHeld.2.2.2.2.2.2.2.2.2.2.2.2.1)
                  have HS13_ := (hb.cell (World.block_lt_of_cell? _ _ (hHeld.2.2.2.2.2.2.2.2.2.2.2.2.2))).trans (hHeld.2.2.2.2.2.2.2.2.2.2.2.2.2)
                  refine ⟨_, rfl, ?_⟩
                  have n0_ := Aq (Kd.N_below (by (with_reducible repeat (first | apply Kd.N_alloc | apply Kd.N_drewN | apply Kd.N_drew)); exact HO_3.out) hb)
                  have n1_ := Aq (Kd.R_below (by (with_reducible repeat (first | apply Kd.R_alloc | apply Kd.R_drewN | apply Kd.R_drew)); exact HO_3381002.out) hb)
                  have n2_ := Aq (Kd.N_below (by (with_reducible repeat (first | apply Kd.N_alloc | apply Kd.N_drewN | apply Kd.N_drew)); exact HO_3381004.out) hb)
                  have n3_ := Aq (Kd.V_below (by (with_reducible repeat (first | apply Kd.V_alloc | apply Kd.V_drewN | apply Kd.V_drew)); exact HL3387_1.out) hb)
                  have n4_ := Aq (blk_below (g := gb3380) (o := .cells #[.int .i64 t3371, .string t3372, .slice Ao10 t3373.length co10, .int .i64 t3376, .slice Ao11 t3377.length co11] 35 (0, 0)) (by (with_reducible repeat (first | refine zN ?_ _ | refine zD ?_ | refine zA ?_ _)); exact BK3380.out) hb)
                  have n5_ := Aq (Kd.C_below (by repeat (first | (with_reducible exact HR3385_1.out) | (with_reducible refine Kd.C_alloc ?_ _) | (with_reducible refine Kd.C_drewN ?_ _) | (with_reducible refine Kd.C_drew ?_) | exact HR3385_1.out | exact (Kd.V_reads' HL3385_1.out).2.2)) hb)
                  have n6_ := Aq (Kd.C_below (by repeat (first | (with_reducible exact HR3387_1.out) | (with_reducible refine Kd.C_alloc ?_ _) | (with_reducible refine Kd.C_drewN ?_ _) | (with_reducible refine Kd.C_drew ?_) | exact HR3387_1.out | exact (Kd.V_reads' HL3387_1.out).2.2)) hb)
                  have n7_ := Aq (below_step (by repeat (first | (with_reducible first | exact HB.out | apply zB | apply zC | apply zE | refine below_set ?_ GE3380.out) | exact HB.out)) hb)
                  clear HO_3 HO_3381002 HO_3381004 HL3387_1 BK3380 HR3385_1 HR3387_1 HB
                  have HO_3 := n0_
                  have HO_3381002 := n1_
                  have HO_3381004 := n2_
                  have HL3387_1 := n3_
                  have BK3380 := n4_
                  have HR3385_1 := n5_
                  have HR3387_1 := n6_
                  have HB := n7_
                  clear n0_ n1_ n2_ n3_ n4_ n5_ n6_ n7_
                  (try clear hb)
                  (try clear hb2)
                  (try clear hk)
                  (try clear hi)
                  refine hK.out _ _ ⟨(blk_cell BK3380.out 0).trans rfl, (blk_cell BK3380.out 1).trans rfl, (blk_cell BK3380.out 2).trans rfl, (blk_cell BK3380.out 3).trans rfl, (blk_cell BK3380.out 4).trans rfl, HS5_, HS6_, HS7_, HS8_, HS9_, HS10_, HS11_, HS12_, HS13_⟩ (fun hHeld => ?_)
                  clear hK K
                  refine norm_ (a' := ?_) ?_ ?_
                  rotate_left
                  ·show Act.put _ (some 70) _ = _
                   simp only [Act.put, sA, sB, sC, i64_w, i32_w]
                   rfl
                  refine pure_ (i := 8) (N := some 71) (v := ?_) (a' := ?_) #[true, true, true, true, true, true, true, true, true, false, false, false, false, false, false, false, false, false, false, false, false, false, false, false] rfl rfl (any_of HT_.out (by kernel_rfl)) (fun _ _ _ h => h) (Or.inl ⟨by rfl, ?_⟩) ?_ ?_
                  rotate_left
                  ·intro w'
                   go_simp
                   with_reducible rfl
                  rotate_left
                  ·simp only [Act.put, sA, sB, sC, i64_w, i32_w]
                   rfl
                  refine pure_ (i := 9) (N := some 72) (v := ?_) (a' := ?_) #[true, true, true, true, true, true, true, true, true, true, false, false, false, false, false, false, false, false, false, false, false, false, false, false] rfl rfl (any_of HT_.out (by kernel_rfl)) (fun _ _ _ h => h) (Or.inl ⟨by rfl, ?_⟩) ?_ ?_
                  rotate_left
                  ·intro w'
                   go_simp
                   with_reducible rfl
                  rotate_left
                  ·simp only [Act.put, sA, sB, sC, i64_w, i32_w]
                   rfl
                  refine pure_ (i := 10) (N := some 73) (v := ?_) (a' := ?_) #[true, true, true, true, true, true, true, true, true, true, true, false, false, false, false, false, false, false, false, false, false, false, false, false] rfl rfl (any_of HT_.out (by kernel_rfl)) (fun _ _ _ h => h) (Or.inl ⟨by rfl, ?_⟩) ?_ ?_
                  rotate_left
                  ·intro w'
                   go_simp
                   with_reducible rfl
                  rotate_left
                  ·simp only [Act.put, sA, sB, sC, i64_w, i32_w]
                   rfl
                  refine pure_ (i := 11) (N := some 74) (v := ?_) (a' := ?_) #[true, true, true, true, true, true, true, true, true, true, true, true, false, false, false, false, false, false, false, false, false, false, false, false] rfl rfl (any_of HT_.out (by kernel_rfl)) (fun _ _ _ h => h) (Or.inl ⟨by rfl, ?_⟩) ?_ ?_
                  rotate_left
                  ·intro w'
                   go_simp
                   with_reducible rfl
                  rotate_left
                  ·simp only [Act.put, sA, sB, sC, i64_w, i32_w]
                   rfl
                  refine pure_ (i := 12) (N := some 75) (v := ?_) (a' := ?_) #[true, true, true, true, true, true, true, true, true, true, true, true, true, false, false, false, false, false, false, false, false, false, false, false] rfl rfl (any_of HT_.out (by kernel_rfl)) (fun _ _ _ h => h) (Or.inl ⟨by rfl, ?_⟩) ?_ ?_
                  rotate_left
                  ·intro w'
                   go_simp
                   with_reducible rfl
                  rotate_left
                  ·simp only [Act.put, sA, sB, sC, i64_w, i32_w]
                   rfl
                  refine pure_ (i := 13) (N := some 76) (v := ?_) (a' := ?_) #[true, true, true, true, true, true, true, true, true, true, true, true, true, true, false, false, false, false, false, false, false, false, false, false] rfl rfl (any_of HT_.out (by kernel_rfl)) (fun _ _ _ h => h) (Or.inl ⟨by rfl, ?_⟩) ?_ ?_
                  rotate_left
                  ·intro w'
                   go_simp
                   with_reducible rfl
                  rotate_left
                  ·simp only [Act.put, sA, sB, sC, i64_w, i32_w]
                   rfl
                  refine pure_ (i := 15) (N := some 78) (v := ?_) (a' := ?_) #[true, true, true, true, true, true, true, true, true, true, true, true, true, true, false, true, false, false, false, false, false, false, false, false] rfl rfl (any_of HT_.out (by kernel_rfl)) (fun _ _ _ h => h) (Or.inl ⟨by rfl, ?_⟩) ?_ ?_
                  rotate_left
                  ·intro w'
                   go_simp
                   with_reducible rfl
                  rotate_left
                  ·simp only [Act.put, sA, sB, sC, i64_w, i32_w]
                   rfl
                  refine pure_ (i := 16) (N := some 79) (v := ?_) (a' := ?_) #[true, true, true, true, true, true, true, true, true, true, true, true, true, true, false, true, true, false, false, false, false, false, false, false] rfl rfl (any_of HT_.out (by kernel_rfl)) (fun _ _ _ h => h) (Or.inl ⟨by rfl, ?_⟩) ?_ ?_
                  rotate_left
                  ·intro w'
                   go_simp
                   with_reducible rfl
                  rotate_left
                  ·simp only [Act.put, sA, sB, sC, i64_w, i32_w]
                   rfl
                  refine pure_ (i := 17) (N := some 80) (v := ?_) (a' := ?_) #[true, true, true, true, true, true, true, true, true, true, true, true, true, true, false, true, true, true, false, false, false, false, false, false] rfl rfl (any_of HT_.out (by kernel_rfl)) (fun _ _ _ h => h) (Or.inl ⟨by rfl, ?_⟩) ?_ ?_
                  rotate_left
                  ·intro w'
                   go_simp
                   with_reducible rfl
                  rotate_left
                  ·simp only [Act.put, sA, sB, sC, i64_w, i32_w]
                   rfl
                  refine pure_ (i := 18) (N := some 81) (v := ?_) (a' := ?_) #[true, true, true, true, true, true, true, true, true, true, true, true, true, true, false, true, true, true, true, false, false, false, false, false] rfl rfl (any_of HT_.out (by kernel_rfl)) (fun _ _ _ h => h) (Or.inl ⟨by rfl, ?_⟩) ?_ ?_
                  rotate_left
                  ·intro w'
                   go_simp
                   with_reducible rfl
                  rotate_left
                  ·simp only [Act.put, sA, sB, sC, i64_w, i32_w]
                   rfl
                  refine take_ (i := 14) (N := some 77) (v := ?_) (a' := ?_) #[true, true, true, true, true, true, true, true, true, true, true, true, true, true, true, true, true, true, true, false, false, false, false, false] rfl rfl (take_ofW HT_.out HW_.out (by kernel_rfl)) (fun _ _ _ h => h) (Or.inl ⟨by rfl, ?_⟩) hHeld ?_ ?_
                  rotate_left
                  ·rintro w' ⟨s0, s1, s2, s3, s4, s5, s6, s7, s8, s9, s10, s11, s12, s13⟩
                   go_simp
                   with_reducible rfl
                  rotate_left
                  ·simp only [Act.put, sA, sB, sC, i64_w, i32_w]
                   rfl
                  refine take_ (i := 19) (N := some 82) (v := ?_) (a' := ?_) #[true, true, true, true, true, true, true, true, true, true, true, true, true, true, true, true, true, true, true, true, false, false, false, false] rfl rfl (take_ofW HT_.out HW_.out (by kernel_rfl)) (fun _ _ _ h => h) (Or.inl ⟨by rfl, ?_⟩) hHeld ?_ ?_
                  rotate_left
                  ·rintro w' ⟨s0, s1, s2, s3, s4, s5, s6, s7, s8, s9, s10, s11, s12, s13⟩
                   go_simp
                   with_reducible rfl
                  rotate_left
                  ·simp only [Act.put, sA, sB, sC, i64_w, i32_w]
                   rfl
                  refine one_ (i := 20) (N := some 83) #[true, true, true, true, true, true, true, true, true, true, true, true, true, true, true, true, true, true, true, true, true, false, false, false] rfl rfl (one_of HT_.out (by kernel_rfl)) (by decide) (fun K hK => ?_)
                  refine goes_ Try.func21 (by kernel_rfl) rfl #[.slice A3387_1 ((rd_T42 t3368 x13_3).f1).length c3387_1, .slice A3390_1 ((rd_T42 t3368 x11_2).f1).length c3390_1] (by rfl) rfl rfl (by (try simp only [List.map_toArray, List.map_cons, List.map_nil]); first | done | rfl | (simp only [List.length_drop, List.length_take]; rfl)) ?_
                  with_reducible refine (laws_wxWithin.calls k3 _ _ ((rd_T42 t3368 x13_3).f1) _ _ ((rd_T42 t3368 x11_2).f1) t3391 _ ?side1 ?side2 ?side3 ?side4 A33.out).mono ?_
                  (case side1 => repeat (first | exact (by repeat (first | (with_reducible exact HR3389_1.out) | (with_reducible refine Kd.C_alloc ?_ _) | (with_reducible refine Kd.C_drewN ?_ _) | (with_reducible refine Kd.C_drew ?_) | exact HR3389_1.out | exact (Kd.V_reads' HL3389_1.out).2.2)) | (with_reducible refine Kd.C_alloc ?_ _) | (with_reducible refine Kd.C_drewN ?_ _) | (with_reducible refine Kd.C_drew ?_)))
                  (case side2 => exact HC3389_1.out)
                  (case side3 => repeat (first | exact (by repeat (first | (with_reducible exact HR3390_1.out) | (with_reducible refine Kd.C_alloc ?_ _) | (with_reducible refine Kd.C_drewN ?_ _) | (with_reducible refine Kd.C_drew ?_) | exact HR3390_1.out | exact (Kd.V_reads' HL3390_1.out).2.2)) | (with_reducible refine Kd.C_alloc ?_ _) | (with_reducible refine Kd.C_drewN ?_ _) | (with_reducible refine Kd.C_drew ?_)))
                  (case side4 => exact HC3390_1.out)
                  rintro e w' ⟨rfl, ⟨nd, rfl⟩⟩
                  refine ⟨_, rfl, ?_⟩
                  refine hK.out _ _ ⟨(blk_cell BK3380.out 0).trans rfl, (blk_cell BK3380.out 1).trans rfl, (blk_cell BK3380.out 2).trans rfl, (blk_cell BK3380.out 3).trans rfl, (blk_cell BK3380.out 4).trans rfl, hHeld.2.2.2.2.2.1, hHeld.2.2.2.2.2.2.1, hHeld.2.2.2.2.2.2.2.1, hHeld.2.2.2.2.2.2.2.2.1, hHeld.2.2.2.2.2.2.2.2.2.1, hHeld.2.2.2.2.2.2.2.2.2.2.1, hHeld.2.2.2.2.2.2.2.2.2.2.2.1, hHeld.2.2.2.2.2.2.2.2.2.2.2.2.1, hHeld.2.2.2.2.2.2.2.2.2.2.2.2.2⟩ (fun hHeld => ?_)
                  clear hK K
                  refine norm_ (a' := ?_) ?_ ?_
                  rotate_left
                  ·show Act.put _ (some 83) _ = _
                   simp only [Act.put, sA, sB, sC, i64_w, i32_w]
                   rfl
                  refine pure_ (i := 21) (N := some 84) (v := ?_) (a' := ?_) #[true, true, true, true, true, true, true, true, true, true, true, true, true, true, true, true, true, true, true, true, true, true, false, false] rfl rfl (any_of HT_.out (by kernel_rfl)) (fun _ _ _ h => h) (Or.inl ⟨by rfl, ?_⟩) ?_ ?_
                  rotate_left
                  ·intro w'
                   go_simp
                   with_reducible rfl
                  rotate_left
                  ·simp only [Act.put, sA, sB, sC, i64_w, i32_w]
                   rfl
                  refine pure_ (i := 22) (N := some 85) (v := ?_) (a' := ?_) #[true, true, true, true, true, true, true, true, true, true, true, true, true, true, true, true, true, true, true, true, true, true, true, false] rfl rfl (any_of HT_.out (by kernel_rfl)) (fun _ _ _ h => h) (Or.inl ⟨by rfl, ?_⟩) ?_ ?_
                  rotate_left
                  ·intro w'
                   go_simp
                   with_reducible rfl
                  rotate_left
                  ·simp only [Act.put, sA, sB, sC, i64_w, i32_w]
                   rfl
                  refine pure_ (i := 23) (N := some 12) (v := ?_) (a' := ?_) #[true, true, true, true, true, true, true, true, true, true, true, true, true, true, true, true, true, true, true, true, true, true, true, true] rfl rfl (any_of HT_.out (by kernel_rfl)) (fun _ _ _ h => h) (Or.inl ⟨by rfl, ?_⟩) ?_ ?_
                  rotate_left
                  ·intro w'
                   go_simp
                   with_reducible rfl
                  rotate_left
                  ·simp only [Act.put, sA, sB, sC, i64_w, i32_w]
                   rfl
                  refine done_ (done_of HT_.out (by kernel_rfl)) ?_
                  try go_wp2
                  go_roundg k3
                  case measure => have := HJ5.out; have := HK2.out; have := HK3.out; omega
                  case rel => exact ⟨(t3391), (wrap64 (x13_3 + 1)), (by first | rfl | (simp; done) | (simp [*]; done)), (by first | rfl | (simp; done) | (simp [*]; done)), H', ⟨by have := HJ5.out; have := HK2.out; have := HK3.out; omega⟩, ⟨by (with_reducible repeat (first | apply Kd.N_alloc | apply Kd.N_drewN | apply Kd.N_drew)); exact HO_3.out⟩, ⟨by (with_reducible repeat (first | apply Kd.R_alloc | apply Kd.R_drewN | apply Kd.R_drew)); exact HO_3381002.out⟩, ⟨by (with_reducible repeat (first | apply Kd.N_alloc | apply Kd.N_drewN | apply Kd.N_drew)); exact HO_3381004.out⟩, ⟨by (with_reducible repeat (first | refine zN ?_ _ | refine zD ?_ | refine zA ?_ _)); exact BK3380.out⟩, ⟨by repeat (first | (with_reducible exact HR3385_1.out) | (with_reducible refine Kd.C_alloc ?_ _) | (with_reducible refine Kd.C_drewN ?_ _) | (with_reducible refine Kd.C_drew ?_) | exact HR3385_1.out | exact (Kd.V_reads' HL3385_1.out).2.2)⟩, ⟨by repeat (first | (with_reducible first | exact HB.out | apply zB | apply zC | apply zE | refine below_set ?_ GE3380.out) | exact HB.out)⟩⟩
                 ·rw [if_neg c32] at H
                  exact absurd H (by simp)
                ·rw [if_neg c31] at H
                 exact absurd H (by simp)
               ·replace c30 := Bool.eq_false_iff.mpr c30
                subst c30
                have H1 : (laws_FnExpFind.l1 k3 t3368 t3381 t3382 (wrap64 (x9_2 + 1)) x10_2 x11_2 true (wrap64 (x13_3 + 1)) t3371 t3372 t3373 t3376 t3377) = some r := by rw [if_neg (show ¬ (false = true) by decide)] at H; exact H
                clear H
                have H := H1
                clear H1
                have H' := Aq H
                clear H
                try go_wp2
                have n0_ := Aq (Kd.N_drew HO_3.out)
                have n1_ := Aq (Kd.R_drew HO_3381002.out)
                have n2_ := Aq (Kd.N_drew HO_3381004.out)
                have n3_ := Aq (zD BK3380.out)
                have n4_ := Aq (Kd.C_drew HR3385_1.out)
                have n5_ := Aq (zE HB.out)
                clear HO_3 HO_3381002 HO_3381004 BK3380 HR3385_1 HB
                have HO_3 := n0_
                have HO_3381002 := n1_
                have HO_3381004 := n2_
                have BK3380 := n3_
                have HR3385_1 := n4_
                have HB := n5_
                clear n0_ n1_ n2_ n3_ n4_ n5_
                have p3387 : 0 ≤ (x13_3 : Int) := of_decide_eq_true (by first | (with_reducible assumption) | assumption)
                have q3387 : x13_3 < (t3368.length : Int) := of_decide_eq_true (by first | (with_reducible assumption) | assumption)
                obtain ⟨ad3387, A3387_1, c3387_1, e3387, hx3387_0, hx3387_1, hx3387_2, hl3387_1, hi3387_1⟩ := at_T42 (Kd.N_reads' HO_3.out).2.2 x13_3 p3387 q3387
                obtain rfl : ad3385 = ad3387 := (by injection e3387)
                obtain ⟨ce3387, hce3387, hMe3387, hcc3387⟩ := Kd.N_get HO_3.out z42 x13_3 p3387 (by first | exact q3387 | exact of_decide_eq_true (by first | (with_reducible assumption) | assumption) | (have e_ := (Kd.N_reads' HO_3.out).1; omega))
                obtain ⟨ua3387_1, uc3387_1, rfl, ul3387_1, ge3387_1⟩ := k42_openF hMe3387
                have hv3387_1 := hcc3387 1 _ rfl
                rw [add_field _ _ 1 (by omega)] at hv3387_1
                replace hv3387_1 := Option.some.inj (hv3387_1.symm.trans hx3387_1)
                injection hv3387_1 with hva_ hvn_ hvc_
                rw [hva_] at ge3387_1
                rw [hvc_] at ul3387_1
                have HL3387_1 := Aq (show Kd.V (Kd.int .i64) 3 _ w.heap.size _ _ ((rd_T42 t3368 x13_3).f1) from Kd.V_mk ul3387_1 ge3387_1)
                clear hva_ hvn_ hvc_ ge3387_1 ul3387_1 hcc3387 hce3387
                have HR3387_1 := Aq hi3387_1
                have HC3387_1 := Aq hl3387_1
                clear hi3387_1 hl3387_1
                replace p3387 := eq_true p3387
                replace q3387 := eq_true q3387
                refine start_ (n := 24) (S := fun w' => w'.cell? ⟨gb3380, 0, none⟩ = some (.int .i64 t3371) ∧ w'.cell? ⟨gb3380, 1, none⟩ = some (.string t3372) ∧ w'.cell? ⟨gb3380, 2, none⟩ = some (.slice Ao10 t3373.length co10) ∧ w'.cell? ⟨gb3380, 3, none⟩ = some (.int .i64 t3376) ∧ w'.cell? ⟨gb3380, 4, none⟩ = some (.slice Ao11 t3377.length co11) ∧ w'.cell? (ad3385.add ((x13_3).toNat * 3)) = some (.string ((rd_T42 t3368 x13_3).f0)) ∧ w'.cell? ⟨(ad3385.add ((x13_3).toNat * 3)).block, (ad3385.add ((x13_3).toNat * 3)).off + 1, none⟩ = some (.slice A3387_1 ((rd_T42 t3368 x13_3).f1).length c3387_1) ∧ w'.cell? ⟨(ad3385.add ((x13_3).toNat * 3)).block, (ad3385.add ((x13_3).toNat * 3)).off + 2, none⟩ = some (.string ((rd_T42 t3368 x13_3).f2))) (ds := []) #[false, false, false, false, false, false, false, false, false, false, false, false, false, false, false, false, false, false, false, false, false, false, false, false] (by kernel_rfl) rfl rfl ⟨(blk_cell BK3380.out 0).trans rfl, (blk_cell BK3380.out 1).trans rfl, (blk_cell BK3380.out 2).trans rfl, (blk_cell BK3380.out 3).trans rfl, (blk_cell BK3380.out 4).trans rfl, hx3387_0, hx3387_1, hx3387_2⟩ (fun hHeld => ?_); refine with_tabW laws_FnExpFind.tab19 laws_FnExpFind.bits19 (fun HT_ HW_ => ?_)
                generalize wr.drew = w36 at HO_3 HO_3381002 HO_3381004 BK3380 HR3385_1 HB HL3387_1 HR3387_1 hx3387_0 hx3387_1 hx3387_2 hHeld ⊢
                refine pure_ (i := 0) (N := some 63) (v := ?_) (a' := ?_) #[true, false, false, false, false, false, false, false, false, false, false, false, false, false, false, false, false, false, false, false, false, false, false, false] rfl rfl (any_of HT_.out (by kernel_rfl)) (fun _ _ _ h => h) (Or.inl ⟨by rfl, ?_⟩) ?_ ?_
                rotate_left
                ·intro w'
                 go_simp
                 with_reducible rfl
                rotate_left
                ·simp only [Act.put, sA, sB, sC, i64_w, i32_w]
                 rfl
                refine pure_ (i := 1) (N := some 64) (v := ?_) (a' := ?_) #[true, true, false, false, false, false, false, false, false, false, false, false, false, false, false, false, false, false, false, false, false, false, false, false] rfl rfl (any_of HT_.out (by kernel_rfl)) (fun _ _ _ h => h) (Or.inl ⟨by rfl, ?_⟩) ?_ ?_
                rotate_left
                ·intro w'
                 go_simp
                 with_reducible rfl
                rotate_left
                ·simp only [Act.put, sA, sB, sC, i64_w, i32_w]
                 rfl
                refine pure_ (i := 2) (N := some 65) (v := ?_) (a' := ?_) #[true, true, true, false, false, false, false, false, false, false, false, false, false, false, false, false, false, false, false, false, false, false, false, false] rfl rfl (any_of HT_.out (by kernel_rfl)) (fun _ _ _ h => h) (Or.inl ⟨by rfl, ?_⟩) ?_ ?_
                rotate_left
                ·intro w'
                 go_simp
                 with_reducible rfl
                rotate_left
                ·simp only [Act.put, sA, sB, sC, i64_w, i32_w]
                 rfl
                refine pure_ (i := 3) (N := some 66) (v := ?_) (a' := ?_) #[true, true, true, true, false, false, false, false, false, false, false, false, false, false, false, false, false, false, false, false, false, false, false, false] rfl rfl (any_of HT_.out (by kernel_rfl)) (fun _ _ _ h => h) (Or.inl ⟨by rfl, ?_⟩) ?_ ?_
                rotate_left
                ·intro w'
                 go_simp
                 with_reducible rfl
                rotate_left
                ·simp only [Act.put, sA, sB, sC, i64_w, i32_w]
                 rfl
                refine pure_ (i := 4) (N := some 67) (v := ?_) (a' := ?_) #[true, true, true, true, true, false, false, false, false, false, false, false, false, false, false, false, false, false, false, false, false, false, false, false] rfl rfl (any_of HT_.out (by kernel_rfl)) (fun _ _ _ h => h) (Or.inl ⟨by rfl, ?_⟩) ?_ ?_
                rotate_left
                ·intro w'
                 go_simp
                 with_reducible rfl
                rotate_left
                ·simp only [Act.put, sA, sB, sC, i64_w, i32_w]
                 rfl
                refine take_ (i := 5) (N := some 68) (v := ?_) (a' := ?_) #[true, true, true, true, true, true, false, false, false, false, false, false, false, false, false, false, false, false, false, false, false, false, false, false] rfl rfl (take_ofW HT_.out HW_.out (by kernel_rfl)) (fun _ _ _ h => h) (Or.inl ⟨by rfl, ?_⟩) hHeld ?_ ?_
                rotate_left
                ·rintro w' ⟨s0, s1, s2, s3, s4, s5, s6, s7⟩
                 go_simp
                 with_reducible rfl
                rotate_left
                ·simp only [Act.put, sA, sB, sC, i64_w, i32_w]
                 rfl
                refine take_ (i := 6) (N := some 69) (v := ?_) (a' := ?_) #[true, true, true, true, true, true, true, false, false, false, false, false, false, false, false, false, false, false, false, false, false, false, false, false] rfl rfl (take_ofW HT_.out HW_.out (by kernel_rfl)) (fun _ _ _ h => h) (Or.inl ⟨by rfl, ?_⟩) hHeld ?_ ?_
                rotate_left
                ·rintro w' ⟨s0, s1, s2, s3, s4, s5, s6, s7⟩
                 go_simp
                 with_reducible rfl
                rotate_left
                ·simp only [Act.put, sA, sB, sC, i64_w, i32_w]
                 rfl
                refine one_ (i := 7) (N := some 70) #[true, true, true, true, true, true, true, true, false, false, false, false, false, false, false, false, false, false, false, false, false, false, false, false] rfl rfl (one_of HT_.out (by kernel_rfl)) (by decide) (fun K hK => ?_)
                refine goes_ Try.func20 (by kernel_rfl) rfl #[.agg #[.string ((rd_T42 t3368 x13_3).f0), .slice A3387_1 ((rd_T42 t3368 x13_3).f1).length c3387_1, .string ((rd_T42 t3368 x13_3).f2)], .agg #[.int .i64 t3371, .string t3372, .slice Ao10 t3373.length co10, .int .i64 t3376, .slice Ao11 t3377.length co11]] (by rfl) rfl rfl (by (try simp only [List.map_toArray, List.map_cons, List.map_nil]); first | done | rfl | (simp only [List.length_drop, List.length_take]; rfl)) ?_
                with_reducible refine (laws_wxFits.calls k3 ((rd_T42 t3368 x13_3).f0) _ _ ((rd_T42 t3368 x13_3).f1) ((rd_T42 t3368 x13_3).f2) t3371 t3372 _ _ t3373 t3376 _ _ t3377 false _ ?side1 ?side2 ?side3 ?side4 ?side5 ?side6 A29.out).mono ?_
                (case side1 => repeat (first | exact (by repeat (first | (with_reducible exact HR3387_1.out) | (with_reducible refine Kd.C_alloc ?_ _) | (with_reducible refine Kd.C_drewN ?_ _) | (with_reducible refine Kd.C_drew ?_) | exact HR3387_1.out | exact (Kd.V_reads' HL3387_1.out).2.2)) | (with_reducible refine Kd.C_alloc ?_ _) | (with_reducible refine Kd.C_drewN ?_ _) | (with_reducible refine Kd.C_drew ?_)))
                (case side2 => exact HC3387_1.out)
                (case side3 => repeat (first | exact (Kd.R_reads' HO_3381002.out).2.2 | (with_reducible refine Kd.C_alloc ?_ _) | (with_reducible refine Kd.C_drewN ?_ _) | (with_reducible refine Kd.C_drew ?_)))
                (case side4 => exact (Kd.R_reads' HO_3381002.out).2.1)
                (case side5 => repeat (first | exact (Kd.N_reads' HO_3381004.out).2.2 | (with_reducible refine Kd.C_alloc ?_ _) | (with_reducible refine Kd.C_drewN ?_ _) | (with_reducible refine Kd.C_drew ?_)))
                (case side6 => exact (Kd.N_reads' HO_3381004.out).2.1)
                rintro e w37 ⟨rfl, hb⟩
                have HS5_ := (hb.cell (World.block_lt_of_cell? _ _ (hHeld.2.2.2.2.2.1))).trans (hHeld.2.2.2.2.2.1)
                have HS6_ := (hb.cell (World.block_lt_of_cell? _ _ (hHeld.2.2.2.2.2.2.1))).trans (hHeld.2.2.2.2.2.2.1)
                have HS7_ := (hb.cell (World.block_lt_of_cell? _ _ (hHeld.2.2.2.2.2.2.2))).trans (hHeld.2.2.2.2.2.2.2)
                refine ⟨_, rfl, ?_⟩
                have n0_ := Aq (Kd.N_below (by (with_reducible repeat (first | apply Kd.N_alloc | apply Kd.N_drewN | apply Kd.N_drew)); exact HO_3.out) hb)
                have n1_ := Aq (Kd.R_below (by (with_reducible repeat (first | apply Kd.R_alloc | apply Kd.R_drewN | apply Kd.R_drew)); exact HO_3381002.out) hb)
                have n2_ := Aq (Kd.N_below (by (with_reducible repeat (first | apply Kd.N_alloc | apply Kd.N_drewN | apply Kd.N_drew)); exact HO_3381004.out) hb)
                have n3_ := Aq (Kd.V_below (by (with_reducible repeat (first | apply Kd.V_alloc | apply Kd.V_drewN | apply Kd.V_drew)); exact HL3387_1.out) hb)
                have n4_ := Aq (blk_below (g := gb3380) (o := .cells #[.int .i64 t3371, .string t3372, .slice Ao10 t3373.length co10, .int .i64 t3376, .slice Ao11 t3377.length co11] 35 (0, 0)) (by (with_reducible repeat (first | refine zN ?_ _ | refine zD ?_ | refine zA ?_ _)); exact BK3380.out) hb)
                have n5_ := Aq (Kd.C_below (by repeat (first | (with_reducible exact HR3385_1.out) | (with_reducible refine Kd.C_alloc ?_ _) | (with_reducible refine Kd.C_drewN ?_ _) | (with_reducible refine Kd.C_drew ?_) | exact HR3385_1.out | exact (Kd.V_reads' HL3385_1.out).2.2)) hb)
                have n6_ := Aq (Kd.C_below (by repeat (first | (with_reducible exact HR3387_1.out) | (with_reducible refine Kd.C_alloc ?_ _) | (with_reducible refine Kd.C_drewN ?_ _) | (with_reducible refine Kd.C_drew ?_) | exact HR3387_1.out | exact (Kd.V_reads' HL3387_1.out).2.2)) hb)
                have n7_ := Aq (below_step (by repeat (first | (with_reducible first | exact HB.out | apply zB | apply zC | apply zE | refine below_set ?_ GE3380.out) | exact HB.out)) hb)
                clear HO_3 HO_3381002 HO_3381004 HL3387_1 BK3380 HR3385_1 HR3387_1 HB
                have HO_3 := n0_
                have HO_3381002 := n1_
                have HO_3381004 := n2_
                have HL3387_1 := n3_
                have BK3380 := n4_
                have HR3385_1 := n5_
                have HR3387_1 := n6_
                have HB := n7_
                clear n0_ n1_ n2_ n3_ n4_ n5_ n6_ n7_
                (try clear hb)
                (try clear hb2)
                (try clear hk)
                (try clear hi)
                refine hK.out _ _ ⟨(blk_cell BK3380.out 0).trans rfl, (blk_cell BK3380.out 1).trans rfl, (blk_cell BK3380.out 2).trans rfl, (blk_cell BK3380.out 3).trans rfl, (blk_cell BK3380.out 4).trans rfl, HS5_, HS6_, HS7_⟩ (fun hHeld => ?_)
                clear hK K
                refine norm_ (a' := ?_) ?_ ?_
                rotate_left
                ·show Act.put _ (some 70) _ = _
                 simp only [Act.put, sA, sB, sC, i64_w, i32_w]
                 rfl
                refine pure_ (i := 8) (N := some 71) (v := ?_) (a' := ?_) #[true, true, true, true, true, true, true, true, true, false, false, false, false, false, false, false, false, false, false, false, false, false, false, false] rfl rfl (any_of HT_.out (by kernel_rfl)) (fun _ _ _ h => h) (Or.inl ⟨by rfl, ?_⟩) ?_ ?_
                rotate_left
                ·intro w'
                 go_simp
                 with_reducible rfl
                rotate_left
                ·simp only [Act.put, sA, sB, sC, i64_w, i32_w]
                 rfl
                refine pure_ (i := 9) (N := some 72) (v := ?_) (a' := ?_) #[true, true, true, true, true, true, true, true, true, true, false, false, false, false, false, false, false, false, false, false, false, false, false, false] rfl rfl (any_of HT_.out (by kernel_rfl)) (fun _ _ _ h => h) (Or.inl ⟨by rfl, ?_⟩) ?_ ?_
                rotate_left
                ·intro w'
                 go_simp
                 with_reducible rfl
                rotate_left
                ·simp only [Act.put, sA, sB, sC, i64_w, i32_w]
                 rfl
                refine pure_ (i := 10) (N := some 73) (v := undef) (a' := ?_) #[true, true, true, true, true, true, true, true, true, true, true, false, false, false, false, false, false, false, false, false, false, false, false, false] rfl rfl (any_of HT_.out (by kernel_rfl)) (fun _ _ _ h => h) (Or.inr ⟨by rfl, rfl⟩) ?_ ?_
                rotate_left
                ·simp only [Act.put, sA, sB, sC, i64_w, i32_w]
                 rfl
                refine pure_ (i := 11) (N := some 74) (v := undef) (a' := ?_) #[true, true, true, true, true, true, true, true, true, true, true, true, false, false, false, false, false, false, false, false, false, false, false, false] rfl rfl (any_of HT_.out (by kernel_rfl)) (fun _ _ _ h => h) (Or.inr ⟨by rfl, rfl⟩) ?_ ?_
                rotate_left
                ·simp only [Act.put, sA, sB, sC, i64_w, i32_w]
                 rfl
                refine pure_ (i := 12) (N := some 75) (v := undef) (a' := ?_) #[true, true, true, true, true, true, true, true, true, true, true, true, true, false, false, false, false, false, false, false, false, false, false, false] rfl rfl (any_of HT_.out (by kernel_rfl)) (fun _ _ _ h => h) (Or.inr ⟨by rfl, rfl⟩) ?_ ?_
                rotate_left
                ·simp only [Act.put, sA, sB, sC, i64_w, i32_w]
                 rfl
                refine pure_ (i := 13) (N := some 76) (v := undef) (a' := ?_) #[true, true, true, true, true, true, true, true, true, true, true, true, true, true, false, false, false, false, false, false, false, false, false, false] rfl rfl (any_of HT_.out (by kernel_rfl)) (fun _ _ _ h => h) (Or.inr ⟨by rfl, rfl⟩) ?_ ?_
                rotate_left
                ·simp only [Act.put, sA, sB, sC, i64_w, i32_w]
                 rfl
                refine pure_ (i := 14) (N := some 77) (v := undef) (a' := ?_) #[true, true, true, true, true, true, true, true, true, true, true, true, true, true, true, false, false, false, false, false, false, false, false, false] rfl rfl (any_of HT_.out (by kernel_rfl)) (fun _ _ _ h => h) (Or.inr ⟨by rfl, rfl⟩) ?_ ?_
                rotate_left
                ·simp only [Act.put, sA, sB, sC, i64_w, i32_w]
                 rfl
                refine pure_ (i := 15) (N := some 78) (v := undef) (a' := ?_) #[true, true, true, true, true, true, true, true, true, true, true, true, true, true, true, true, false, false, false, false, false, false, false, false] rfl rfl (any_of HT_.out (by kernel_rfl)) (fun _ _ _ h => h) (Or.inr ⟨by rfl, rfl⟩) ?_ ?_
                rotate_left
                ·simp only [Act.put, sA, sB, sC, i64_w, i32_w]
                 rfl
                refine pure_ (i := 16) (N := some 79) (v := undef) (a' := ?_) #[true, true, true, true, true, true, true, true, true, true, true, true, true, true, true, true, true, false, false, false, false, false, false, false] rfl rfl (any_of HT_.out (by kernel_rfl)) (fun _ _ _ h => h) (Or.inr ⟨by rfl, rfl⟩) ?_ ?_
                rotate_left
                ·simp only [Act.put, sA, sB, sC, i64_w, i32_w]
                 rfl
                refine pure_ (i := 17) (N := some 80) (v := undef) (a' := ?_) #[true, true, true, true, true, true, true, true, true, true, true, true, true, true, true, true, true, true, false, false, false, false, false, false] rfl rfl (any_of HT_.out (by kernel_rfl)) (fun _ _ _ h => h) (Or.inr ⟨by rfl, rfl⟩) ?_ ?_
                rotate_left
                ·simp only [Act.put, sA, sB, sC, i64_w, i32_w]
                 rfl
                refine pure_ (i := 18) (N := some 81) (v := undef) (a' := ?_) #[true, true, true, true, true, true, true, true, true, true, true, true, true, true, true, true, true, true, true, false, false, false, false, false] rfl rfl (any_of HT_.out (by kernel_rfl)) (fun _ _ _ h => h) (Or.inr ⟨by rfl, rfl⟩) ?_ ?_
                rotate_left
                ·simp only [Act.put, sA, sB, sC, i64_w, i32_w]
                 rfl
                refine pure_ (i := 19) (N := some 82) (v := undef) (a' := ?_) #[true, true, true, true, true, true, true, true, true, true, true, true, true, true, true, true, true, true, true, true, false, false, false, false] rfl rfl (any_of HT_.out (by kernel_rfl)) (fun _ _ _ h => h) (Or.inr ⟨by rfl, rfl⟩) ?_ ?_
                rotate_left
                ·simp only [Act.put, sA, sB, sC, i64_w, i32_w]
                 rfl
                refine pure_ (i := 20) (N := some 83) (v := undef) (a' := ?_) #[true, true, true, true, true, true, true, true, true, true, true, true, true, true, true, true, true, true, true, true, true, false, false, false] rfl rfl (any_of HT_.out (by kernel_rfl)) (fun _ _ _ h => h) (Or.inr ⟨by rfl, rfl⟩) ?_ ?_
                rotate_left
                ·simp only [Act.put, sA, sB, sC, i64_w, i32_w]
                 rfl
                refine pure_ (i := 21) (N := some 84) (v := ?_) (a' := ?_) #[true, true, true, true, true, true, true, true, true, true, true, true, true, true, true, true, true, true, true, true, true, true, false, false] rfl rfl (any_of HT_.out (by kernel_rfl)) (fun _ _ _ h => h) (Or.inl ⟨by rfl, ?_⟩) ?_ ?_
                rotate_left
                ·intro w'
                 go_simp
                 with_reducible rfl
                rotate_left
                ·simp only [Act.put, sA, sB, sC, i64_w, i32_w]
                 rfl
                refine pure_ (i := 22) (N := some 85) (v := ?_) (a' := ?_) #[true, true, true, true, true, true, true, true, true, true, true, true, true, true, true, true, true, true, true, true, true, true, true, false] rfl rfl (any_of HT_.out (by kernel_rfl)) (fun _ _ _ h => h) (Or.inl ⟨by rfl, ?_⟩) ?_ ?_
                rotate_left
                ·intro w'
                 go_simp
                 with_reducible rfl
                rotate_left
                ·simp only [Act.put, sA, sB, sC, i64_w, i32_w]
                 rfl
                refine pure_ (i := 23) (N := some 12) (v := ?_) (a' := ?_) #[true, true, true, true, true, true, true, true, true, true, true, true, true, true, true, true, true, true, true, true, true, true, true, true] rfl rfl (any_of HT_.out (by kernel_rfl)) (fun _ _ _ h => h) (Or.inl ⟨by rfl, ?_⟩) ?_ ?_
                rotate_left
                ·intro w'
                 go_simp
                 with_reducible rfl
                rotate_left
                ·simp only [Act.put, sA, sB, sC, i64_w, i32_w]
                 rfl
                refine done_ (done_of HT_.out (by kernel_rfl)) ?_
                try go_wp2
                go_roundg k3
                case measure => have := HJ5.out; have := HK2.out; have := HK3.out; omega
                case rel => exact ⟨(true), (wrap64 (x13_3 + 1)), (by first | rfl | (simp; done) | (simp [*]; done)), (by first | rfl | (simp; done) | (simp [*]; done)), H', ⟨by have := HJ5.out; have := HK2.out; have := HK3.out; omega⟩, ⟨by (with_reducible repeat (first | apply Kd.N_alloc | apply Kd.N_drewN | apply Kd.N_drew)); exact HO_3.out⟩, ⟨by (with_reducible repeat (first | apply Kd.R_alloc | apply Kd.R_drewN | apply Kd.R_drew)); exact HO_3381002.out⟩, ⟨by (with_reducible repeat (first | apply Kd.N_alloc | apply Kd.N_drewN | apply Kd.N_drew)); exact HO_3381004.out⟩, ⟨by (with_reducible repeat (first | refine zN ?_ _ | refine zD ?_ | refine zA ?_ _)); exact BK3380.out⟩, ⟨by repeat (first | (with_reducible exact HR3385_1.out) | (with_reducible refine Kd.C_alloc ?_ _) | (with_reducible refine Kd.C_drewN ?_ _) | (with_reducible refine Kd.C_drew ?_) | exact HR3385_1.out | exact (Kd.V_reads' HL3385_1.out).2.2)⟩, ⟨by repeat (first | (with_reducible first | exact HB.out | apply zB | apply zC | apply zE | refine below_set ?_ GE3380.out) | exact HB.out)⟩⟩
              ·rw [if_neg c28] at H
               exact absurd H (by simp)
             ·replace c27 := Bool.eq_false_iff.mpr c27
              subst c27
              have H1 : (laws_FnExpFind.l1 k3 t3368 t3381 t3382 (wrap64 (x9_2 + 1)) x10_2 x11_2 false (wrap64 (x13_3 + 1)) t3371 t3372 t3373 t3376 t3377) = some r := by rw [if_neg (show ¬ (false = true) by decide)] at H; exact H
              clear H
              have H := H1
              clear H1
              have H' := Aq H
              clear H
              try go_wp2
              have n0_ := Aq (Kd.N_drew HO_3.out)
              have n1_ := Aq (Kd.R_drew HO_3381002.out)
              have n2_ := Aq (Kd.N_drew HO_3381004.out)
              have n3_ := Aq (zD BK3380.out)
              have n4_ := Aq (Kd.C_drew HR3385_1.out)
              have n5_ := Aq (zE HB.out)
              clear HO_3 HO_3381002 HO_3381004 BK3380 HR3385_1 HB
              have HO_3 := n0_
              have HO_3381002 := n1_
              have HO_3381004 := n2_
              have BK3380 := n3_
              have HR3385_1 := n4_
              have HB := n5_
              clear n0_ n1_ n2_ n3_ n4_ n5_
              refine start_ (n := 24) (S := fun w' => True) (ds := []) #[false, false, false, false, false, false, false, false, false, false, false, false, false, false, false, false, false, false, false, false, false, false, false, false] (by kernel_rfl) rfl rfl trivial (fun hHeld => ?_); refine with_tabW laws_FnExpFind.tab19 laws_FnExpFind.bits19 (fun HT_ HW_ => ?_)
              generalize wr.drew = w38 at HO_3 HO_3381002 HO_3381004 BK3380 HR3385_1 HB hHeld ⊢
              refine pure_ (i := 0) (N := some 63) (v := ?_) (a' := ?_) #[true, false, false, false, false, false, false, false, false, false, false, false, false, false, false, false, false, false, false, false, false, false, false, false] rfl rfl (any_of HT_.out (by kernel_rfl)) (fun _ _ _ h => h) (Or.inl ⟨by rfl, ?_⟩) ?_ ?_
              rotate_left
              ·intro w'
               go_simp
               with_reducible rfl
              rotate_left
              ·simp only [Act.put, sA, sB, sC, i64_w, i32_w]
               rfl
              refine pure_ (i := 1) (N := some 64) (v := ?_) (a' := ?_) #[true, true, false, false, false, false, false, false, false, false, false, false, false, false, false, false, false, false, false, false, false, false, false, false] rfl rfl (any_of HT_.out (by kernel_rfl)) (fun _ _ _ h => h) (Or.inl ⟨by rfl, ?_⟩) ?_ ?_
              rotate_left
              ·intro w'
               go_simp
               with_reducible rfl
              rotate_left
              ·simp only [Act.put, sA, sB, sC, i64_w, i32_w]
               rfl
              refine pure_ (i := 2) (N := some 65) (v := undef) (a' := ?_) #[true, true, true, false, false, false, false, false, false, false, false, false, false, false, false, false, false, false, false, false, false, false, false, false] rfl rfl (any_of HT_.out (by kernel_rfl)) (fun _ _ _ h => h) (Or.inr ⟨by rfl, rfl⟩) ?_ ?_
              rotate_left
              ·simp only [Act.put, sA, sB, sC, i64_w, i32_w]
               rfl
              refine pure_ (i := 3) (N := some 66) (v := undef) (a' := ?_) #[true, true, true, true, false, false, false, false, false, false, false, false, false, false, false, false, false, false, false, false, false, false, false, false] rfl rfl (any_of HT_.out (by kernel_rfl)) (fun _ _ _ h => h) (Or.inr ⟨by rfl, rfl⟩) ?_ ?_
              rotate_left
              ·simp only [Act.put, sA, sB, sC, i64_w, i32_w]
               rfl
              refine pure_ (i := 4) (N := some 67) (v := undef) (a' := ?_) #[true, true, true, true, true, false, false, false, false, false, false, false, false, false, false, false, false, false, false, false, false, false, false, false] rfl rfl (any_of HT_.out (by kernel_rfl)) (fun _ _ _ h => h) (Or.inr ⟨by rfl, rfl⟩) ?_ ?_
              rotate_left
              ·simp only [Act.put, sA, sB, sC, i64_w, i32_w]
               rfl
              refine pure_ (i := 5) (N := some 68) (v := undef) (a' := ?_) #[true, true, true, true, true, true, false, false, false, false, false, false, false, false, false, false, false, false, false, false, false, false, false, false] rfl rfl (any_of HT_.out (by kernel_rfl)) (fun _ _ _ h => h) (Or.inr ⟨by rfl, rfl⟩) ?_ ?_
              rotate_left
              ·simp only [Act.put, sA, sB, sC, i64_w, i32_w]
               rfl
              refine pure_ (i := 6) (N := some 69) (v := undef) (a' := ?_) #[true, true, true, true, true, true, true, false, false, false, false, false, false, false, false, false, false, false, false, false, false, false, false, false] rfl rfl (any_of HT_.out (by kernel_rfl)) (fun _ _ _ h => h) (Or.inr ⟨by rfl, rfl⟩) ?_ ?_
              rotate_left
              ·simp only [Act.put, sA, sB, sC, i64_w, i32_w]
               rfl
              refine pure_ (i := 7) (N := some 70) (v := undef) (a' := ?_) #[true, true, true, true, true, true, true, true, false, false, false, false, false, false, false, false, false, false, false, false, false, false, false, false] rfl rfl (any_of HT_.out (by kernel_rfl)) (fun _ _ _ h => h) (Or.inr ⟨by rfl, rfl⟩) ?_ ?_
              rotate_left
              ·simp only [Act.put, sA, sB, sC, i64_w, i32_w]
               rfl
              refine pure_ (i := 8) (N := some 71) (v := undef) (a' := ?_) #[true, true, true, true, true, true, true, true, true, false, false, false, false, false, false, false, false, false, false, false, false, false, false, false] rfl rfl (any_of HT_.out (by kernel_rfl)) (fun _ _ _ h => h) (Or.inr ⟨by rfl, rfl⟩) ?_ ?_
              rotate_left
              ·simp only [Act.put, sA, sB, sC, i64_w, i32_w]
               rfl
              refine pure_ (i := 9) (N := some 72) (v := undef) (a' := ?_) #[true, true, true, true, true, true, true, true, true, true, false, false, false, false, false, false, false, false, false, false, false, false, false, false] rfl rfl (any_of HT_.out (by kernel_rfl)) (fun _ _ _ h => h) (Or.inr ⟨by rfl, rfl⟩) ?_ ?_
              rotate_left
              ·simp only [Act.put, sA, sB, sC, i64_w, i32_w]
               rfl
              refine pure_ (i := 10) (N := some 73) (v := undef) (a' := ?_) #[true, true, true, true, true, true, true, true, true, true, true, false, false, false, false, false, false, false, false, false, false, false, false, false] rfl rfl (any_of HT_.out (by kernel_rfl)) (fun _ _ _ h => h) (Or.inr ⟨by rfl, rfl⟩) ?_ ?_
              rotate_left
              ·simp only [Act.put, sA, sB, sC, i64_w, i32_w]
               rfl
              refine pure_ (i := 11) (N := some 74) (v := undef) (a' := ?_) #[true, true, true, true, true, true, true, true, true, true, true, true, false, false, false, false, false, false, false, false, false, false, false, false] rfl rfl (any_of HT_.out (by kernel_rfl)) (fun _ _ _ h => h) (Or.inr ⟨by rfl, rfl⟩) ?_ ?_
              rotate_left
              ·simp only [Act.put, sA, sB, sC, i64_w, i32_w]
               rfl
              refine pure_ (i := 12) (N := some 75) (v := undef) (a' := ?_) #[true, true, true, true, true, true, true, true, true, true, true, true, true, false, false, false, false, false, false, false, false, false, false, false] rfl rfl (any_of HT_.out (by kernel_rfl)) (fun _ _ _ h => h) (Or.inr ⟨by rfl, rfl⟩) ?_ ?_
              rotate_left
              ·simp only [Act.put, sA, sB, sC, i64_w, i32_w]
               rfl
              refine pure_ (i := 13) (N := some 76) (v := undef) (a' := ?_) #[true, true, true, true, true, true, true, true, true, true, true, true, true, true, false, false, false, false, false, false, false, false, false, false] rfl rfl (any_of HT_.out (by kernel_rfl)) (fun _ _ _ h => h) (Or.inr ⟨by rfl, rfl⟩) ?_ ?_
              rotate_left
              ·simp only [Act.put, sA, sB, sC, i64_w, i32_w]
               rfl
              refine pure_ (i := 14) (N := some 77) (v := undef) (a' := ?_) #[true, true, true, true, true, true, true, true, true, true, true, true, true, true, true, false, false, false, false, false, false, false, false, false] rfl rfl (any_of HT_.out (by kernel_rfl)) (fun _ _ _ h => h) (Or.inr ⟨by rfl, rfl⟩) ?_ ?_
              rotate_left
              ·simp only [Act.put, sA, sB, sC, i64_w, i32_w]
               rfl
              refine pure_ (i := 15) (N := some 78) (v := undef) (a' := ?_) #[true, true, true, true, true, true, true, true, true, true, true, true, true, true, true, true, false, false, false, false, false, false, false, false] rfl rfl (any_of HT_.out (by kernel_rfl)) (fun _ _ _ h => h) (Or.inr ⟨by rfl, rfl⟩) ?_ ?_
              rotate_left
              ·simp only [Act.put, sA, sB, sC, i64_w, i32_w]
               rfl
              refine pure_ (i := 16) (N := some 79) (v := undef) (a' := ?_) #[true, true, true, true, true, true, true, true, true, true, true, true, true, true, true, true, true, false, false, false, false, false, false, false] rfl rfl (any_of HT_.out (by kernel_rfl)) (fun _ _ _ h => h) (Or.inr ⟨by rfl, rfl⟩) ?_ ?_
              rotate_left
              ·simp only [Act.put, sA, sB, sC, i64_w, i32_w]
               rfl
              refine pure_ (i := 17) (N := some 80) (v := undef) (a' := ?_) #[true, true, true, true, true, true, true, true, true, true, true, true, true, true, true, true, true, true, false, false, false, false, false, false] rfl rfl (any_of HT_.out (by kernel_rfl)) (fun _ _ _ h => h) (Or.inr ⟨by rfl, rfl⟩) ?_ ?_
              rotate_left
              ·simp only [Act.put, sA, sB, sC, i64_w, i32_w]
               rfl
              refine pure_ (i := 18) (N := some 81) (v := undef) (a' := ?_) #[true, true, true, true, true, true, true, true, true, true, true, true, true, true, true, true, true, true, true, false, false, false, false, false] rfl rfl (any_of HT_.out (by kernel_rfl)) (fun _ _ _ h => h) (Or.inr ⟨by rfl, rfl⟩) ?_ ?_
              rotate_left
              ·simp only [Act.put, sA, sB, sC, i64_w, i32_w]
               rfl
              refine pure_ (i := 19) (N := some 82) (v := undef) (a' := ?_) #[true, true, true, true, true, true, true, true, true, true, true, true, true, true, true, true, true, true, true, true, false, false, false, false] rfl rfl (any_of HT_.out (by kernel_rfl)) (fun _ _ _ h => h) (Or.inr ⟨by rfl, rfl⟩) ?_ ?_
              rotate_left
              ·simp only [Act.put, sA, sB, sC, i64_w, i32_w]
               rfl
              refine pure_ (i := 20) (N := some 83) (v := undef) (a' := ?_) #[true, true, true, true, true, true, true, true, true, true, true, true, true, true, true, true, true, true, true, true, true, false, false, false] rfl rfl (any_of HT_.out (by kernel_rfl)) (fun _ _ _ h => h) (Or.inr ⟨by rfl, rfl⟩) ?_ ?_
              rotate_left
              ·simp only [Act.put, sA, sB, sC, i64_w, i32_w]
               rfl
              refine pure_ (i := 21) (N := some 84) (v := undef) (a' := ?_) #[true, true, true, true, true, true, true, true, true, true, true, true, true, true, true, true, true, true, true, true, true, true, false, false] rfl rfl (any_of HT_.out (by kernel_rfl)) (fun _ _ _ h => h) (Or.inr ⟨by rfl, rfl⟩) ?_ ?_
              rotate_left
              ·simp only [Act.put, sA, sB, sC, i64_w, i32_w]
               rfl
              refine pure_ (i := 22) (N := some 85) (v := ?_) (a' := ?_) #[true, true, true, true, true, true, true, true, true, true, true, true, true, true, true, true, true, true, true, true, true, true, true, false] rfl rfl (any_of HT_.out (by kernel_rfl)) (fun _ _ _ h => h) (Or.inl ⟨by rfl, ?_⟩) ?_ ?_
              rotate_left
              ·intro w'
               go_simp
               with_reducible rfl
              rotate_left
              ·simp only [Act.put, sA, sB, sC, i64_w, i32_w]
               rfl
              refine pure_ (i := 23) (N := some 12) (v := ?_) (a' := ?_) #[true, true, true, true, true, true, true, true, true, true, true, true, true, true, true, true, true, true, true, true, true, true, true, true] rfl rfl (any_of HT_.out (by kernel_rfl)) (fun _ _ _ h => h) (Or.inl ⟨by rfl, ?_⟩) ?_ ?_
              rotate_left
              ·intro w'
               go_simp
               with_reducible rfl
              rotate_left
              ·simp only [Act.put, sA, sB, sC, i64_w, i32_w]
               rfl
              refine done_ (done_of HT_.out (by kernel_rfl)) ?_
              try go_wp2
              go_roundg k3
              case measure => have := HJ5.out; have := HK2.out; have := HK3.out; omega
              case rel => exact ⟨(false), (wrap64 (x13_3 + 1)), (by first | rfl | (simp; done) | (simp [*]; done)), (by first | rfl | (simp; done) | (simp [*]; done)), H', ⟨by have := HJ5.out; have := HK2.out; have := HK3.out; omega⟩, ⟨by (with_reducible repeat (first | apply Kd.N_alloc | apply Kd.N_drewN | apply Kd.N_drew)); exact HO_3.out⟩, ⟨by (with_reducible repeat (first | apply Kd.R_alloc | apply Kd.R_drewN | apply Kd.R_drew)); exact HO_3381002.out⟩, ⟨by (with_reducible repeat (first | apply Kd.N_alloc | apply Kd.N_drewN | apply Kd.N_drew)); exact HO_3381004.out⟩, ⟨by (with_reducible repeat (first | refine zN ?_ _ | refine zD ?_ | refine zA ?_ _)); exact BK3380.out⟩, ⟨by repeat (first | (with_reducible exact HR3385_1.out) | (with_reducible refine Kd.C_alloc ?_ _) | (with_reducible refine Kd.C_drewN ?_ _) | (with_reducible refine Kd.C_drew ?_) | exact HR3385_1.out | exact (Kd.V_reads' HL3385_1.out).2.2)⟩, ⟨by repeat (first | (with_reducible first | exact HB.out | apply zB | apply zC | apply zE | refine below_set ?_ GE3380.out) | exact HB.out)⟩⟩
            ·rw [if_neg c26] at H
             have c26b0 : decide (x13_3 < (t3368.length : Int)) = false := decide_eq_false c26
             clear c26
             by_cases c39 : x12_3 = true
             ·subst c39
              have H1 : (if 0 ≤ x11_2 then (if x11_2 < (t3368.length : Int) then (laws_FnExpFind.l0 k3 t3368 t3381 t3382 (wrap64 (x9_2 + 1)) ((rd_T42 t3368 x11_2).f2) (wrap64 (x11_2 + 1)) t3371 t3372 t3373 t3376 t3377) else (none)) else (none)) = some r := by rw [if_pos rfl] at H; exact H
              clear H
              have H := H1
              clear H1
              by_cases c40 : 0 ≤ x11_2
              ·rw [if_pos c40] at H
               have c40b0 : decide (0 ≤ x11_2) = true := decide_eq_true c40
               clear c40
               by_cases c41 : x11_2 < (t3368.length : Int)
               ·rw [if_pos c41] at H
                have c41b0 : decide (x11_2 < (t3368.length : Int)) = true := decide_eq_true c41
                clear c41
                have H' := Aq H
                clear H
                have p3392 : 0 ≤ (x11_2 : Int) := of_decide_eq_true (by first | (with_reducible assumption) | assumption)
                have q3392 : x11_2 < (t3368.length : Int) := of_decide_eq_true (by first | (with_reducible assumption) | assumption)
                obtain ⟨ad3392, A3392_1, c3392_1, e3392, hx3392_0, hx3392_1, hx3392_2, hl3392_1, hi3392_1⟩ := at_T42 (Kd.N_reads' HO_3.out).2.2 x11_2 p3392 q3392
                obtain rfl : ad3385 = ad3392 := (by injection e3392)
                obtain ⟨ce3392, hce3392, hMe3392, hcc3392⟩ := Kd.N_get HO_3.out z42 x11_2 p3392 (by first | exact q3392 | exact of_decide_eq_true (by first | (with_reducible assumption) | assumption) | (have e_ := (Kd.N_reads' HO_3.out).1; omega))
                obtain ⟨ua3392_1, uc3392_1, rfl, ul3392_1, ge3392_1⟩ := k42_openF hMe3392
                have hv3392_1 := hcc3392 1 _ rfl
                rw [add_field _ _ 1 (by omega)] at hv3392_1
                replace hv3392_1 := Option.some.inj (hv3392_1.symm.trans hx3392_1)
                injection hv3392_1 with hva_ hvn_ hvc_
                rw [hva_] at ge3392_1
                rw [hvc_] at ul3392_1
                have HL3392_1 := Aq (show Kd.V (Kd.int .i64) 3 _ w.heap.size _ _ ((rd_T42 t3368 x11_2).f1) from Kd.V_mk ul3392_1 ge3392_1)
                clear hva_ hvn_ hvc_ ge3392_1 ul3392_1 hcc3392 hce3392
                have HR3392_1 := Aq hi3392_1
                have HC3392_1 := Aq hl3392_1
                clear hi3392_1 hl3392_1
                replace p3392 := eq_true p3392
                replace q3392 := eq_true q3392
                go_wp2
                go_roundg k3
                case measure => have := HJ5.out; have := HK2.out; have := HK3.out; omega
                case rel => exact ⟨((wrap64 (x9_2 + 1))), ((rd_T42 t3368 x11_2).f2), (wrap64 (x11_2 + 1)), (by first | rfl | (simp; done) | (simp [*]; done)), (by first | rfl | (simp; done) | (simp [*]; done)), (by first | rfl | (simp; done) | (simp [*]; done)), H', ⟨by have := HJ5.out; have := HK2.out; have := HK3.out; omega⟩, ⟨by (with_reducible repeat (first | apply Kd.N_alloc | apply Kd.N_drewN | apply Kd.N_drew)); exact HO_3.out⟩, ⟨by (with_reducible repeat (first | apply Kd.R_alloc | apply Kd.R_drewN | apply Kd.R_drew)); exact HO_3381002.out⟩, ⟨by (with_reducible repeat (first | apply Kd.N_alloc | apply Kd.N_drewN | apply Kd.N_drew)); exact HO_3381004.out⟩, ⟨by (with_reducible repeat (first | refine zN ?_ _ | refine zD ?_ | refine zA ?_ _)); exact BK3380.out⟩, ⟨by repeat (first | (with_reducible first | exact HB.out | apply zB | apply zC | apply zE | refine below_set ?_ GE3380.out) | exact HB.out)⟩⟩
               ·rw [if_neg c41] at H
                exact absurd H (by simp)
              ·rw [if_neg c40] at H
               exact absurd H (by simp)
             ·replace c39 := Bool.eq_false_iff.mpr c39
              subst c39
              have H1 : (laws_FnExpFind.l0 k3 t3368 t3381 t3382 (wrap64 (x9_2 + 1)) x10_2 (wrap64 (x11_2 + 1)) t3371 t3372 t3373 t3376 t3377) = some r := by rw [if_neg (show ¬ (false = true) by decide)] at H; exact H
              clear H
              have H := H1
              clear H1
              have H' := Aq H
              clear H
              go_wp2
              go_roundg k3
              case measure => have := HJ5.out; have := HK2.out; have := HK3.out; omega
              case rel => exact ⟨((wrap64 (x9_2 + 1))), (x10_2), (wrap64 (x11_2 + 1)), (by first | rfl | (simp; done) | (simp [*]; done)), (by first | rfl | (simp; done) | (simp [*]; done)), (by first | rfl | (simp; done) | (simp [*]; done)), H', ⟨by have := HJ5.out; have := HK2.out; have := HK3.out; omega⟩, ⟨by (with_reducible repeat (first | apply Kd.N_alloc | apply Kd.N_drewN | apply Kd.N_drew)); exact HO_3.out⟩, ⟨by (with_reducible repeat (first | apply Kd.R_alloc | apply Kd.R_drewN | apply Kd.R_drew)); exact HO_3381002.out⟩, ⟨by (with_reducible repeat (first | apply Kd.N_alloc | apply Kd.N_drewN | apply Kd.N_drew)); exact HO_3381004.out⟩, ⟨by (with_reducible repeat (first | refine zN ?_ _ | refine zD ?_ | refine zA ?_ _)); exact BK3380.out⟩, ⟨by repeat (first | (with_reducible first | exact HB.out | apply zB | apply zC | apply zE | refine below_set ?_ GE3380.out) | exact HB.out)⟩⟩
         ·replace c23 := Bool.eq_false_iff.mpr c23
          subst c23
          have H1 : (laws_FnExpFind.l0 k2 t3368 t3381 t3382 x9_2 x10_2 (wrap64 (x11_2 + 1)) t3371 t3372 t3373 t3376 t3377) = some r := by rw [if_neg (show ¬ (false = true) by decide)] at H; exact H
          clear H
          have H := H1
          clear H1
          have H' := Aq H
          clear H
          try go_wp2
          have n0_ := Aq (Kd.N_drew HO_3.out)
          have n1_ := Aq (Kd.R_drew HO_3381002.out)
          have n2_ := Aq (Kd.N_drew HO_3381004.out)
          have n3_ := Aq (zD BK3380.out)
          have n4_ := Aq (zE HB.out)
          clear HO_3 HO_3381002 HO_3381004 BK3380 HB
          have HO_3 := n0_
          have HO_3381002 := n1_
          have HO_3381004 := n2_
          have BK3380 := n3_
          have HB := n4_
          clear n0_ n1_ n2_ n3_ n4_
          have p3385 : 0 ≤ (x11_2 : Int) := of_decide_eq_true (by first | (with_reducible assumption) | assumption)
          have q3385 : x11_2 < (t3368.length : Int) := of_decide_eq_true (by first | (with_reducible assumption) | assumption)
          obtain ⟨ad3385, A3385_1, c3385_1, e3385, hx3385_0, hx3385_1, hx3385_2, hl3385_1, hi3385_1⟩ := at_T42 (Kd.N_reads' HO_3.out).2.2 x11_2 p3385 q3385
          cases e3385
          obtain ⟨ce3385, hce3385, hMe3385, hcc3385⟩ := Kd.N_get HO_3.out z42 x11_2 p3385 (by first | exact q3385 | exact of_decide_eq_true (by first | (with_reducible assumption) | assumption) | (have e_ := (Kd.N_reads' HO_3.out).1; omega))
          obtain ⟨ua3385_1, uc3385_1, rfl, ul3385_1, ge3385_1⟩ := k42_openF hMe3385
          have hv3385_1 := hcc3385 1 _ rfl
          rw [add_field _ _ 1 (by omega)] at hv3385_1
          replace hv3385_1 := Option.some.inj (hv3385_1.symm.trans hx3385_1)
          injection hv3385_1 with hva_ hvn_ hvc_
          rw [hva_] at ge3385_1
          rw [hvc_] at ul3385_1
          have HL3385_1 := Aq (show Kd.V (Kd.int .i64) 3 _ w.heap.size _ _ ((rd_T42 t3368 x11_2).f1) from Kd.V_mk ul3385_1 ge3385_1)
          clear hva_ hvn_ hvc_ ge3385_1 ul3385_1 hcc3385 hce3385
          have HR3385_1 := Aq hi3385_1
          have HC3385_1 := Aq hl3385_1
          clear hi3385_1 hl3385_1
          replace p3385 := eq_true p3385
          replace q3385 := eq_true q3385
          refine start_ (n := 7) (S := fun w' => w'.cell? ⟨gb3380, 0, none⟩ = some (.int .i64 t3371) ∧ w'.cell? ⟨gb3380, 1, none⟩ = some (.string t3372) ∧ w'.cell? ⟨gb3380, 2, none⟩ = some (.slice Ao10 t3373.length co10) ∧ w'.cell? ⟨gb3380, 3, none⟩ = some (.int .i64 t3376) ∧ w'.cell? ⟨gb3380, 4, none⟩ = some (.slice Ao11 t3377.length co11) ∧ w'.cell? (ad3385.add ((x11_2).toNat * 3)) = some (.string ((rd_T42 t3368 x11_2).f0)) ∧ w'.cell? ⟨(ad3385.add ((x11_2).toNat * 3)).block, (ad3385.add ((x11_2).toNat * 3)).off + 1, none⟩ = some (.slice A3385_1 ((rd_T42 t3368 x11_2).f1).length c3385_1) ∧ w'.cell? ⟨(ad3385.add ((x11_2).toNat * 3)).block, (ad3385.add ((x11_2).toNat * 3)).off + 2, none⟩ = some (.string ((rd_T42 t3368 x11_2).f2))) (ds := []) #[false, false, false, false, false, false, false] (by kernel_rfl) rfl rfl ⟨(blk_cell BK3380.out 0).trans rfl, (blk_cell BK3380.out 1).trans rfl, (blk_cell BK3380.out 2).trans rfl, (blk_cell BK3380.out 3).trans rfl, (blk_cell BK3380.out 4).trans rfl, hx3385_0, hx3385_1, hx3385_2⟩ (fun hHeld => ?_)
          generalize wr.drew = w42 at HO_3 HO_3381002 HO_3381004 BK3380 HB HL3385_1 HR3385_1 hx3385_0 hx3385_1 hx3385_2 hHeld ⊢
          refine pure_ (i := 0) (N := some 48) (v := ?_) (a' := ?_) #[true, false, false, false, false, false, false] rfl rfl (by kernel_rfl) (fun _ _ _ h => h) (Or.inl ⟨by rfl, ?_⟩) ?_ ?_
          rotate_left
          ·intro w'
           go_simp
           with_reducible rfl
          rotate_left
          ·simp only [Act.put, sA, sB, sC, i64_w, i32_w]
           rfl
          refine pure_ (i := 1) (N := some 49) (v := ?_) (a' := ?_) #[true, true, false, false, false, false, false] rfl rfl (by kernel_rfl) (fun _ _ _ h => h) (Or.inl ⟨by rfl, ?_⟩) ?_ ?_
          rotate_left
          ·intro w'
           go_simp
           with_reducible rfl
          rotate_left
          ·simp only [Act.put, sA, sB, sC, i64_w, i32_w]
           rfl
          refine pure_ (i := 2) (N := some 50) (v := ?_) (a' := ?_) #[true, true, true, false, false, false, false] rfl rfl (by kernel_rfl) (fun _ _ _ h => h) (Or.inl ⟨by rfl, ?_⟩) ?_ ?_
          rotate_left
          ·intro w'
           go_simp
           with_reducible rfl
          rotate_left
          ·simp only [Act.put, sA, sB, sC, i64_w, i32_w]
           rfl
          refine take_ (i := 3) (N := some 51) (v := ?_) (a' := ?_) #[true, true, true, true, false, false, false] rfl rfl (by kernel_rfl) (fun _ _ _ h => h) (Or.inl ⟨by rfl, ?_⟩) hHeld ?_ ?_
          rotate_left
          ·rintro w' ⟨s0, s1, s2, s3, s4, s5, s6, s7⟩
           go_simp
           with_reducible rfl
          rotate_left
          ·simp only [Act.put, sA, sB, sC, i64_w, i32_w]
           rfl
          refine take_ (i := 4) (N := some 52) (v := ?_) (a' := ?_) #[true, true, true, true, true, false, false] rfl rfl (by kernel_rfl) (fun _ _ _ h => h) (Or.inl ⟨by rfl, ?_⟩) hHeld ?_ ?_
          rotate_left
          ·rintro w' ⟨s0, s1, s2, s3, s4, s5, s6, s7⟩
           go_simp
           with_reducible rfl
          rotate_left
          ·simp only [Act.put, sA, sB, sC, i64_w, i32_w]
           rfl
          refine one_ (i := 5) (N := some 53) #[true, true, true, true, true, true, false] rfl rfl (by kernel_rfl) (by decide) (fun K hK => ?_)
          refine goes_ Try.func20 (by kernel_rfl) rfl #[.agg #[.string ((rd_T42 t3368 x11_2).f0), .slice A3385_1 ((rd_T42 t3368 x11_2).f1).length c3385_1, .string ((rd_T42 t3368 x11_2).f2)], .agg #[.int .i64 t3371, .string t3372, .slice Ao10 t3373.length co10, .int .i64 t3376, .slice Ao11 t3377.length co11]] (by rfl) rfl rfl (by (try simp only [List.map_toArray, List.map_cons, List.map_nil]); first | done | rfl | (simp only [List.length_drop, List.length_take]; rfl)) ?_
          with_reducible refine (laws_wxFits.calls k2 ((rd_T42 t3368 x11_2).f0) _ _ ((rd_T42 t3368 x11_2).f1) ((rd_T42 t3368 x11_2).f2) t3371 t3372 _ _ t3373 t3376 _ _ t3377 false _ ?side1 ?side2 ?side3 ?side4 ?side5 ?side6 A22.out).mono ?_
          (case side1 => repeat (first | exact (by repeat (first | (with_reducible exact HR3385_1.out) | (with_reducible refine Kd.C_alloc ?_ _) | (with_reducible refine Kd.C_drewN ?_ _) | (with_reducible refine Kd.C_drew ?_) | exact HR3385_1.out | exact (Kd.V_reads' HL3385_1.out).2.2)) | (with_reducible refine Kd.C_alloc ?_ _) | (with_reducible refine Kd.C_drewN ?_ _) | (with_reducible refine Kd.C_drew ?_)))
          (case side2 => exact HC3385_1.out)
          (case side3 => repeat (first | exact (Kd.R_reads' HO_3381002.out).2.2 | (with_reducible refine Kd.C_alloc ?_ _) | (with_reducible refine Kd.C_drewN ?_ _) | (with_reducible refine Kd.C_drew ?_)))
          (case side4 => exact (Kd.R_reads' HO_3381002.out).2.1)
          (case side5 => repeat (first | exact (Kd.N_reads' HO_3381004.out).2.2 | (with_reducible refine Kd.C_alloc ?_ _) | (with_reducible refine Kd.C_drewN ?_ _) | (with_reducible refine Kd.C_drew ?_)))
          (case side6 => exact (Kd.N_reads' HO_3381004.out).2.1)
          rintro e w43 ⟨rfl, hb⟩
          have HS5_ := (hb.cell (World.block_lt_of_cell? _ _ (hHeld.2.2.2.2.2.1))).trans (hHeld.2.2.2.2.2.1)
          have HS6_ := (hb.cell (World.block_lt_of_cell? _ _ (hHeld.2.2.2.2.2.2.1))).trans (hHeld.2.2.2.2.2.2.1)
          have HS7_ := (hb.cell (World.block_lt_of_cell? _ _ (hHeld.2.2.2.2.2.2.2))).trans (hHeld.2.2.2.2.2.2.2)
          refine ⟨_, rfl, ?_⟩
          have n0_ := Aq (Kd.N_below (by (with_reducible repeat (first | apply Kd.N_alloc | apply Kd.N_drewN | apply Kd.N_drew)); exact HO_3.out) hb)
          have n1_ := Aq (Kd.R_below (by (with_reducible repeat (first | apply Kd.R_alloc | apply Kd.R_drewN | apply Kd.R_drew)); exact HO_3381002.out) hb)
          have n2_ := Aq (Kd.N_below (by (with_reducible repeat (first | apply Kd.N_alloc | apply Kd.N_drewN | apply Kd.N_drew)); exact HO_3381004.out) hb)
          have n3_ := Aq (Kd.V_below (by (with_reducible repeat (first | apply Kd.V_alloc | apply Kd.V_drewN | apply Kd.V_drew)); exact HL3385_1.out) hb)
          have n4_ := Aq (blk_below (g := gb3380) (o := .cells #[.int .i64 t3371, .string t3372, .slice Ao10 t3373.length co10, .int .i64 t3376, .slice Ao11 t3377.length co11] 35 (0, 0)) (by (with_reducible repeat (first | refine zN ?_ _ | refine zD ?_ | refine zA ?_ _)); exact BK3380.out) hb)
          have n5_ := Aq (Kd.C_below (by repeat (first | (with_reducible exact HR3385_1.out) | (with_reducible refine Kd.C_alloc ?_ _) | (with_reducible refine Kd.C_drewN ?_ _) | (with_reducible refine Kd.C_drew ?_) | exact HR3385_1.out | exact (Kd.V_reads' HL3385_1.out).2.2)) hb)
          have n6_ := Aq (below_step (by repeat (first | (with_reducible first | exact HB.out | apply zB | apply zC | apply zE | refine below_set ?_ GE3380.out) | exact HB.out)) hb)
          clear HO_3 HO_3381002 HO_3381004 HL3385_1 BK3380 HR3385_1 HB
          have HO_3 := n0_
          have HO_3381002 := n1_
          have HO_3381004 := n2_
          have HL3385_1 := n3_
          have BK3380 := n4_
          have HR3385_1 := n5_
          have HB := n6_
          clear n0_ n1_ n2_ n3_ n4_ n5_ n6_
          (try clear hb)
          (try clear hb2)
          (try clear hk)
          (try clear hi)
          refine hK.out _ _ ⟨(blk_cell BK3380.out 0).trans rfl, (blk_cell BK3380.out 1).trans rfl, (blk_cell BK3380.out 2).trans rfl, (blk_cell BK3380.out 3).trans rfl, (blk_cell BK3380.out 4).trans rfl, HS5_, HS6_, HS7_⟩ (fun hHeld => ?_)
          clear hK K
          refine norm_ (a' := ?_) ?_ ?_
          rotate_left
          ·show Act.put _ (some 53) _ = _
           simp only [Act.put, sA, sB, sC, i64_w, i32_w]
           rfl
          refine pure_ (i := 6) (N := some 54) (v := ?_) (a' := ?_) #[true, true, true, true, true, true, true] rfl rfl (by kernel_rfl) (fun _ _ _ h => h) (Or.inl ⟨by rfl, ?_⟩) ?_ ?_
          rotate_left
          ·intro w'
           go_simp
           with_reducible rfl
          rotate_left
          ·simp only [Act.put, sA, sB, sC, i64_w, i32_w]
           rfl
          refine done_ (by kernel_rfl) ?_
          try go_wp2
          go_roundg k2
          case measure => have := HJ5.out; have := HK2.out; omega
          case rel => exact ⟨(x9_2), (x10_2), (wrap64 (x11_2 + 1)), (by first | rfl | (simp; done) | (simp [*]; done)), (by first | rfl | (simp; done) | (simp [*]; done)), (by first | rfl | (simp; done) | (simp [*]; done)), H', ⟨by have := HJ5.out; have := HK2.out; omega⟩, ⟨by (with_reducible repeat (first | apply Kd.N_alloc | apply Kd.N_drewN | apply Kd.N_drew)); exact HO_3.out⟩, ⟨by (with_reducible repeat (first | apply Kd.R_alloc | apply Kd.R_drewN | apply Kd.R_drew)); exact HO_3381002.out⟩, ⟨by (with_reducible repeat (first | apply Kd.N_alloc | apply Kd.N_drewN | apply Kd.N_drew)); exact HO_3381004.out⟩, ⟨by (with_reducible repeat (first | refine zN ?_ _ | refine zD ?_ | refine zA ?_ _)); exact BK3380.out⟩, ⟨by repeat (first | (with_reducible first | exact HB.out | apply zB | apply zC | apply zE | refine below_set ?_ GE3380.out) | exact HB.out)⟩⟩
        ·rw [if_neg c21] at H
         exact absurd H (by simp)
       ·rw [if_neg c20] at H
        have c20b0 : decide (x11_2 < (t3368.length : Int)) = false := decide_eq_false c20
        clear c20
        by_cases c44 : t3371 = 1
        ·rw [if_pos c44] at H
         have c44b0 : (t3371 == 1) = true := beq_iff_eq.mpr c44
         have c44b1 : (t3371 != 1) = false := bne_eq_false_iff_eq.mpr c44
         clear c44
         by_cases c45 : x9_2 = 0
         ·rw [if_pos c45] at H
          have c45b0 : (x9_2 == 0) = true := beq_iff_eq.mpr c45
          have c45b1 : (x9_2 != 0) = false := bne_eq_false_iff_eq.mpr c45
          clear c45
          by_cases c46 : t3382 = 0
          ·rw [if_pos c46] at H
           have c46b0 : (t3382 == 0) = true := beq_iff_eq.mpr c46
           have c46b1 : (t3382 != 0) = false := bne_eq_false_iff_eq.mpr c46
           clear c46
           obtain rfl := Option.some.inj H
           have hcz47_0 : wr.cell? ⟨gb3380, 0, none⟩ = some (.int .i64 t3371) := (blk_cell BK3380.out 0).trans rfl
           have hcz47_1 : wr.cell? ⟨gb3380, 1, none⟩ = some (.string t3372) := (blk_cell BK3380.out 1).trans rfl
           have hcz47_2 : wr.cell? ⟨gb3380, 2, none⟩ = some (.slice Ao10 t3373.length co10) := (blk_cell BK3380.out 2).trans rfl
           have hcz47_3 : wr.cell? ⟨gb3380, 3, none⟩ = some (.int .i64 t3376) := (blk_cell BK3380.out 3).trans rfl
           have hcz47_4 : wr.cell? ⟨gb3380, 4, none⟩ = some (.slice Ao11 t3377.length co11) := (blk_cell BK3380.out 4).trans rfl
           have hfz47_0 := blk_frozen BK3380.out 0
           have hfz47_1 := blk_frozen BK3380.out 1
           have hfz47_2 := blk_frozen BK3380.out 2
           have hfz47_3 := blk_frozen BK3380.out 3
           have hfz47_4 := blk_frozen BK3380.out 4
           go_wp2
           go_ret
           exact ⟨by first | rfl | (simp [errW_none, errW_some] <;> rfl) | (simp [*, errW_none, errW_some] <;> rfl), by repeat (first | (with_reducible first | exact HB.out | apply zB | apply zC | apply zE | refine below_set ?_ GE3380.out) | exact HB.out)⟩
          ·rw [if_neg c46] at H
           have c46b0 : (t3382 == 0) = false := beq_eq_false_iff_ne.mpr c46
           have c46b1 : (t3382 != 0) = true := bne_iff_ne.mpr c46
           obtain rfl := Option.some.inj H
           have hcz48_0 : wr.cell? ⟨gb3380, 0, none⟩ = some (.int .i64 t3371) := (blk_cell BK3380.out 0).trans rfl
           have hcz48_1 : wr.cell? ⟨gb3380, 1, none⟩ = some (.string t3372) := (blk_cell BK3380.out 1).trans rfl
           have hcz48_2 : wr.cell? ⟨gb3380, 2, none⟩ = some (.slice Ao10 t3373.length co10) := (blk_cell BK3380.out 2).trans rfl
           have hcz48_3 : wr.cell? ⟨gb3380, 3, none⟩ = some (.int .i64 t3376) := (blk_cell BK3380.out 3).trans rfl
           have hcz48_4 : wr.cell? ⟨gb3380, 4, none⟩ = some (.slice Ao11 t3377.length co11) := (blk_cell BK3380.out 4).trans rfl
           have hfz48_0 := blk_frozen BK3380.out 0
           have hfz48_1 := blk_frozen BK3380.out 1
           have hfz48_2 := blk_frozen BK3380.out 2
           have hfz48_3 := blk_frozen BK3380.out 3
           have hfz48_4 := blk_frozen BK3380.out 4
           go_wp2
           go_ret
           exact ⟨by first | rfl | (simp [errW_none, errW_some] <;> rfl) | (simp [*, errW_none, errW_some] <;> rfl), by repeat (first | (with_reducible first | exact HB.out | apply zB | apply zC | apply zE | refine below_set ?_ GE3380.out) | exact HB.out)⟩
         ·rw [if_neg c45] at H
          have c45b0 : (x9_2 == 0) = false := beq_eq_false_iff_ne.mpr c45
          have c45b1 : (x9_2 != 0) = true := bne_iff_ne.mpr c45
          by_cases c49 : x10_2.toList = ([] : List UInt8)
          ·rw [if_pos c49] at H
           have c49b0 : (x10_2.toList == ([] : List UInt8)) = true := beq_iff_eq.mpr c49
           have c49b1 : (x10_2.toList != ([] : List UInt8)) = false := bne_eq_false_iff_eq.mpr c49
           clear c49
           by_cases c50 : t3382 = 2
           ·rw [if_pos c50] at H
            have c50b0 : (t3382 == 2) = true := beq_iff_eq.mpr c50
            have c50b1 : (t3382 != 2) = false := bne_eq_false_iff_eq.mpr c50
            clear c50
            by_cases c51 : t3381.toList = ([] : List UInt8)
            ·rw [if_pos c51] at H
             have c51b0 : (t3381.toList == ([] : List UInt8)) = true := beq_iff_eq.mpr c51
             have c51b1 : (t3381.toList != ([] : List UInt8)) = false := bne_eq_false_iff_eq.mpr c51
             clear c51
             obtain rfl := Option.some.inj H
             have hcz52_0 : wr.cell? ⟨gb3380, 0, none⟩ = some (.int .i64 t3371) := (blk_cell BK3380.out 0).trans rfl
             have hcz52_1 : wr.cell? ⟨gb3380, 1, none⟩ = some (.string t3372) := (blk_cell BK3380.out 1).trans rfl
             have hcz52_2 : wr.cell? ⟨gb3380, 2, none⟩ = some (.slice Ao10 t3373.length co10) := (blk_cell BK3380.out 2).trans rfl
             have hcz52_3 : wr.cell? ⟨gb3380, 3, none⟩ = some (.int .i64 t3376) := (blk_cell BK3380.out 3).trans rfl
             have hcz52_4 : wr.cell? ⟨gb3380, 4, none⟩ = some (.slice Ao11 t3377.length co11) := (blk_cell BK3380.out 4).trans rfl
             have hfz52_0 := blk_frozen BK3380.out 0
             have hfz52_1 := blk_frozen BK3380.out 1
             have hfz52_2 := blk_frozen BK3380.out 2
             have hfz52_3 := blk_frozen BK3380.out 3
             have hfz52_4 := blk_frozen BK3380.out 4
             go_wp2
             go_ret
             exact ⟨by first | rfl | (simp [errW_none, errW_some] <;> rfl) | (simp [*, errW_none, errW_some] <;> rfl), by repeat (first | (with_reducible first | exact HB.out | apply zB | apply zC | apply zE | refine below_set ?_ GE3380.out) | exact HB.out)⟩
            ·rw [if_neg c51] at H
             have c51b0 : (t3381.toList == ([] : List UInt8)) = false := beq_eq_false_iff_ne.mpr c51
             have c51b1 : (t3381.toList != ([] : List UInt8)) = true := bne_iff_ne.mpr c51
             obtain rfl := Option.some.inj H
             have hcz53_0 : wr.cell? ⟨gb3380, 0, none⟩ = some (.int .i64 t3371) := (blk_cell BK3380.out 0).trans rfl
             have hcz53_1 : wr.cell? ⟨gb3380, 1, none⟩ = some (.string t3372) := (blk_cell BK3380.out 1).trans rfl
             have hcz53_2 : wr.cell? ⟨gb3380, 2, none⟩ = some (.slice Ao10 t3373.length co10) := (blk_cell BK3380.out 2).trans rfl
             have hcz53_3 : wr.cell? ⟨gb3380, 3, none⟩ = some (.int .i64 t3376) := (blk_cell BK3380.out 3).trans rfl
             have hcz53_4 : wr.cell? ⟨gb3380, 4, none⟩ = some (.slice Ao11 t3377.length co11) := (blk_cell BK3380.out 4).trans rfl
             have hfz53_0 := blk_frozen BK3380.out 0
             have hfz53_1 := blk_frozen BK3380.out 1
             have hfz53_2 := blk_frozen BK3380.out 2
             have hfz53_3 := blk_frozen BK3380.out 3
             have hfz53_4 := blk_frozen BK3380.out 4
             go_wp2
             go_ret
             exact ⟨by first | rfl | (simp [errW_none, errW_some] <;> rfl) | (simp [*, errW_none, errW_some] <;> rfl), by repeat (first | (with_reducible first | exact HB.out | apply zB | apply zC | apply zE | refine below_set ?_ GE3380.out) | exact HB.out)⟩
           ·rw [if_neg c50] at H
            have c50b0 : (t3382 == 2) = false := beq_eq_false_iff_ne.mpr c50
            have c50b1 : (t3382 != 2) = true := bne_iff_ne.mpr c50
            obtain rfl := Option.some.inj H
            have hcz54_0 : wr.cell? ⟨gb3380, 0, none⟩ = some (.int .i64 t3371) := (blk_cell BK3380.out 0).trans rfl
            have hcz54_1 : wr.cell? ⟨gb3380, 1, none⟩ = some (.string t3372) := (blk_cell BK3380.out 1).trans rfl
            have hcz54_2 : wr.cell? ⟨gb3380, 2, none⟩ = some (.slice Ao10 t3373.length co10) := (blk_cell BK3380.out 2).trans rfl
            have hcz54_3 : wr.cell? ⟨gb3380, 3, none⟩ = some (.int .i64 t3376) := (blk_cell BK3380.out 3).trans rfl
            have hcz54_4 : wr.cell? ⟨gb3380, 4, none⟩ = some (.slice Ao11 t3377.length co11) := (blk_cell BK3380.out 4).trans rfl
            have hfz54_0 := blk_frozen BK3380.out 0
            have hfz54_1 := blk_frozen BK3380.out 1
            have hfz54_2 := blk_frozen BK3380.out 2
            have hfz54_3 := blk_frozen BK3380.out 3
            have hfz54_4 := blk_frozen BK3380.out 4
            go_wp2
            go_ret
            exact ⟨by first | rfl | (simp [errW_none, errW_some] <;> rfl) | (simp [*, errW_none, errW_some] <;> rfl), by repeat (first | (with_reducible first | exact HB.out | apply zB | apply zC | apply zE | refine below_set ?_ GE3380.out) | exact HB.out)⟩
          ·rw [if_neg c49] at H
           have c49b0 : (x10_2.toList == ([] : List UInt8)) = false := beq_eq_false_iff_ne.mpr c49
           have c49b1 : (x10_2.toList != ([] : List UInt8)) = true := bne_iff_ne.mpr c49
           by_cases c55 : t3382 = 1
           ·rw [if_pos c55] at H
            have c55b0 : (t3382 == 1) = true := beq_iff_eq.mpr c55
            have c55b1 : (t3382 != 1) = false := bne_eq_false_iff_eq.mpr c55
            clear c55
            obtain rfl := Option.some.inj H
            have hcz56_0 : wr.cell? ⟨gb3380, 0, none⟩ = some (.int .i64 t3371) := (blk_cell BK3380.out 0).trans rfl
            have hcz56_1 : wr.cell? ⟨gb3380, 1, none⟩ = some (.string t3372) := (blk_cell BK3380.out 1).trans rfl
            have hcz56_2 : wr.cell? ⟨gb3380, 2, none⟩ = some (.slice Ao10 t3373.length co10) := (blk_cell BK3380.out 2).trans rfl
            have hcz56_3 : wr.cell? ⟨gb3380, 3, none⟩ = some (.int .i64 t3376) := (blk_cell BK3380.out 3).trans rfl
            have hcz56_4 : wr.cell? ⟨gb3380, 4, none⟩ = some (.slice Ao11 t3377.length co11) := (blk_cell BK3380.out 4).trans rfl
            have hfz56_0 := blk_frozen BK3380.out 0
            have hfz56_1 := blk_frozen BK3380.out 1
            have hfz56_2 := blk_frozen BK3380.out 2
            have hfz56_3 := blk_frozen BK3380.out 3
            have hfz56_4 := blk_frozen BK3380.out 4
            go_wp2
            go_ret
            exact ⟨by first | rfl | (simp [errW_none, errW_some] <;> rfl) | (simp [*, errW_none, errW_some] <;> rfl), by repeat (first | (with_reducible first | exact HB.out | apply zB | apply zC | apply zE | refine below_set ?_ GE3380.out) | exact HB.out)⟩
           ·rw [if_neg c55] at H
            have c55b0 : (t3382 == 1) = false := beq_eq_false_iff_ne.mpr c55
            have c55b1 : (t3382 != 1) = true := bne_iff_ne.mpr c55
            obtain rfl := Option.some.inj H
            have hcz57_0 : wr.cell? ⟨gb3380, 0, none⟩ = some (.int .i64 t3371) := (blk_cell BK3380.out 0).trans rfl
            have hcz57_1 : wr.cell? ⟨gb3380, 1, none⟩ = some (.string t3372) := (blk_cell BK3380.out 1).trans rfl
            have hcz57_2 : wr.cell? ⟨gb3380, 2, none⟩ = some (.slice Ao10 t3373.length co10) := (blk_cell BK3380.out 2).trans rfl
            have hcz57_3 : wr.cell? ⟨gb3380, 3, none⟩ = some (.int .i64 t3376) := (blk_cell BK3380.out 3).trans rfl
            have hcz57_4 : wr.cell? ⟨gb3380, 4, none⟩ = some (.slice Ao11 t3377.length co11) := (blk_cell BK3380.out 4).trans rfl
            have hfz57_0 := blk_frozen BK3380.out 0
            have hfz57_1 := blk_frozen BK3380.out 1
            have hfz57_2 := blk_frozen BK3380.out 2
            have hfz57_3 := blk_frozen BK3380.out 3
            have hfz57_4 := blk_frozen BK3380.out 4
            go_wp2
            go_ret
            exact ⟨by first | rfl | (simp [errW_none, errW_some] <;> rfl) | (simp [*, errW_none, errW_some] <;> rfl), by repeat (first | (with_reducible first | exact HB.out | apply zB | apply zC | apply zE | refine below_set ?_ GE3380.out) | exact HB.out)⟩
        ·rw [if_neg c44] at H
         have c44b0 : (t3371 == 1) = false := beq_eq_false_iff_ne.mpr c44
         have c44b1 : (t3371 != 1) = true := bne_iff_ne.mpr c44
         by_cases c58 : t3382 = 0
         ·rw [if_pos c58] at H
          have c58b0 : (t3382 == 0) = true := beq_iff_eq.mpr c58
          have c58b1 : (t3382 != 0) = false := bne_eq_false_iff_eq.mpr c58
          clear c58
          obtain rfl := Option.some.inj H
          have hcz59_0 : wr.cell? ⟨gb3380, 0, none⟩ = some (.int .i64 t3371) := (blk_cell BK3380.out 0).trans rfl
          have hcz59_1 : wr.cell? ⟨gb3380, 1, none⟩ = some (.string t3372) := (blk_cell BK3380.out 1).trans rfl
          have hcz59_2 : wr.cell? ⟨gb3380, 2, none⟩ = some (.slice Ao10 t3373.length co10) := (blk_cell BK3380.out 2).trans rfl
          have hcz59_3 : wr.cell? ⟨gb3380, 3, none⟩ = some (.int .i64 t3376) := (blk_cell BK3380.out 3).trans rfl
          have hcz59_4 : wr.cell? ⟨gb3380, 4, none⟩ = some (.slice Ao11 t3377.length co11) := (blk_cell BK3380.out 4).trans rfl
          have hfz59_0 := blk_frozen BK3380.out 0
          have hfz59_1 := blk_frozen BK3380.out 1
          have hfz59_2 := blk_frozen BK3380.out 2
          have hfz59_3 := blk_frozen BK3380.out 3
          have hfz59_4 := blk_frozen BK3380.out 4
          go_wp2
          go_ret
          exact ⟨by first | rfl | (simp [errW_none, errW_some] <;> rfl) | (simp [*, errW_none, errW_some] <;> rfl), by repeat (first | (with_reducible first | exact HB.out | apply zB | apply zC | apply zE | refine below_set ?_ GE3380.out) | exact HB.out)⟩
         ·rw [if_neg c58] at H
          have c58b0 : (t3382 == 0) = false := beq_eq_false_iff_ne.mpr c58
          have c58b1 : (t3382 != 0) = true := bne_iff_ne.mpr c58
          obtain rfl := Option.some.inj H
          have hcz60_0 : wr.cell? ⟨gb3380, 0, none⟩ = some (.int .i64 t3371) := (blk_cell BK3380.out 0).trans rfl
          have hcz60_1 : wr.cell? ⟨gb3380, 1, none⟩ = some (.string t3372) := (blk_cell BK3380.out 1).trans rfl
          have hcz60_2 : wr.cell? ⟨gb3380, 2, none⟩ = some (.slice Ao10 t3373.length co10) := (blk_cell BK3380.out 2).trans rfl
          have hcz60_3 : wr.cell? ⟨gb3380, 3, none⟩ = some (.int .i64 t3376) := (blk_cell BK3380.out 3).trans rfl
          have hcz60_4 : wr.cell? ⟨gb3380, 4, none⟩ = some (.slice Ao11 t3377.length co11) := (blk_cell BK3380.out 4).trans rfl
          have hfz60_0 := blk_frozen BK3380.out 0
          have hfz60_1 := blk_frozen BK3380.out 1
          have hfz60_2 := blk_frozen BK3380.out 2
          have hfz60_3 := blk_frozen BK3380.out 3
          have hfz60_4 := blk_frozen BK3380.out 4
          go_wp2
          go_ret
          exact ⟨by first | rfl | (simp [errW_none, errW_some] <;> rfl) | (simp [*, errW_none, errW_some] <;> rfl), by repeat (first | (with_reducible first | exact HB.out | apply zB | apply zC | apply zE | refine below_set ?_ GE3380.out) | exact HB.out)⟩
def laws_FnExpFind.Pure : Prop := ∀ (l0 : List Int), l0.length ≤ maxLen → l0.length * 1 ≤ 140737488351232 → (∀ x ∈ l0, (Lit.int .u8 x).wf = true) → ∃ k, laws_FnExpFind.f k l0 = some true
theorem laws_FnExpFind.walk (P : laws_FnExpFind.Pure) (a0 : Option Addr) (len0 cap0 : Nat) (z0 : List Int) (w : World) (w0 : (a0 = none ∧ len0 = 0 ∧ cap0 = 0 ∧ z0 = []) ∨ ∃ x, a0 = some x ∧ len0 ≤ cap0 ∧ cap0 ≤ maxLen ∧ z0.length = cap0 ∧ (∀ i, i < z0.length → w.cell? (x.add i) = some (.int .u8 (z0.getD i 0))) ∧ ∀ n ∈ z0, (Lit.int .u8 n).wf = true) (y0 : len0 * 1 ≤ 140737488351232) :
  Calls Try.prog 6 #[.slice a0 len0 cap0] w fun e w' => e = .returned (.bool true) ∧ Below w.heap.size w w' := by
 obtain ⟨l0, rfl, hr0, hm0, hw0, hc0⟩ := ReadsInt.ofRowC w0
 obtain ⟨k, h⟩ := P l0 hm0 y0 hw0
 refine (laws_FnExpFind.calls k _ _ l0 true w (Kd.C_of_reads (d := (0 : Int)) (h1 := fun _ => rfl) hr0) hc0 h).mono ?_
 rintro e w' ⟨rfl, hd⟩
 exact ⟨rfl, hd⟩
end Go.Proofs.Ytmdhanegafclmaa.PFnExpFind
