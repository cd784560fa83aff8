/- PFnExpFindx3 of the seat's texts, cut down by prune.py to what the theorem comes to. -/
import Derived.Test.YtmdhanegafclmaaZfPFnExpFindx0
import Derived.Test.YtmdhanegafclmaaZfPFnExpFindx1
import Derived.Test.YtmdhanegafclmaaZfPFnExpFindx2
namespace Go.Proofs.Ytmdhanegafclmaa.PFnExpFind
open Go.RowKit Go.Proofs.YtmdhanegafclmaaW.PrintWords Go.Proofs.YtmdhanegafclmaaW.PrintLast Go.Proofs.YtmdhanegafclmaaW.PrintMore
attribute [local go_sem] max2_int min2_int max_two min_two max_three min_three max_four min_four
set_option linter.unusedVariables false
set_option linter.unusedSimpArgs false
mutual
def spec_l8Form.j0 : Nat → Int → Int → Bool → List Int → Int → Option (Int × ByteArray × List Int × Int × (List (S35)) × Int)
 | 0, _, _, _, _, _ => none
 | k + 1, x1, x14, x15, x1000, x1001 => if x15 = true then ((spec_l8Id.f k x1000 x1001).bind fun bt155 => (some (bt155.1, bt155.2.1, bt155.2.2.1, bt155.2.2.2.1, bt155.2.2.2.2.1, bt155.2.2.2.2.2))) else (if x14 = 2 then ((spec_l1Rd_of.f k x1000 x1001 (([(⟨#[49]⟩ : ByteArray), (⟨#[35, 116]⟩ : ByteArray), (⟨#[34, 115, 34]⟩ : ByteArray), (⟨#[45, 55]⟩ : ByteArray)] : List ByteArray))).bind fun bt168 => (some (2, bt168.1, ([] : List Int), 0, ([] : List (S35)), bt168.2))) else (if x14 = 3 then (some (3, (⟨#[]⟩ : ByteArray), ([] : List Int), 0, ([] : List (S35)), x1001)) else (if x14 = 4 then ((spec_l1Rd_pick.f k x1000 x1001 2).bind fun bt171 => (spec_l8Form.l0 k x1 (wrap64 (1 + bt171.1)) x1000 bt171.2 4 (⟨#[]⟩ : ByteArray) 0 ([] : List (S35)))) else ((spec_l1Rd_pick.f k x1000 x1001 4).bind fun bt200 => (spec_l8Form.l1 k x1 bt200.1 x1000 bt200.2 3 (⟨#[]⟩ : ByteArray) 0 ([] : List (S35)))))))
def spec_l8Form.l0 : Nat → Int → Int → List Int → Int → Int → ByteArray → Int → List (S35) → Option (Int × ByteArray × List Int × Int × (List (S35)) × Int)
 | 0, _, _, _, _, _, _, _, _ => none
 | k + 1, x1, x6, x1000, x1001, x171000, x171001, x171003, x171004 => if x6 > 0 then ((spec_l8Form.f k x1000 x1001 (wrap64 (x1 - 1))).bind fun bt173 => (if x171004.length < 1759218604441 then (spec_l8Form.l0 k x1 (wrap64 (x6 - 1)) x1000 bt173.2.2.2.2.2 x171000 x171001 x171003 (x171004 ++ [(⟨bt173.1, bt173.2.1, bt173.2.2.1, bt173.2.2.2.1, bt173.2.2.2.2.1⟩ : S35)])) else (none))) else ((spec_l8Id.f k x1000 x1001).bind fun bt186 => (if x171004.length < 1759218604441 then (some (x171000, x171001, ([] : List Int), x171003, (x171004 ++ [(⟨bt186.1, bt186.2.1, bt186.2.2.1, bt186.2.2.2.1, bt186.2.2.2.2.1⟩ : S35)]), bt186.2.2.2.2.2)) else (none)))
def spec_l8Form.l1 : Nat → Int → Int → List Int → Int → Int → ByteArray → Int → List (S35) → Option (Int × ByteArray × List Int × Int × (List (S35)) × Int)
 | 0, _, _, _, _, _, _, _, _ => none
 | k + 1, x1, x8, x1000, x1001, x200000, x200001, x200003, x200004 => if x8 > 0 then ((spec_l8Form.f k x1000 x1001 (wrap64 (x1 - 1))).bind fun bt202 => (if x200004.length < 1759218604441 then (spec_l8Form.l1 k x1 (wrap64 (x8 - 1)) x1000 bt202.2.2.2.2.2 x200000 x200001 x200003 (x200004 ++ [(⟨bt202.1, bt202.2.1, bt202.2.2.1, bt202.2.2.2.1, bt202.2.2.2.2.1⟩ : S35)])) else (none))) else (some (x200000, x200001, ([] : List Int), x200003, x200004, x1001))
def spec_l8Form.f : Nat → List Int → Int → Int → Option (Int × ByteArray × List Int × Int × (List (S35)) × Int)
 | 0, _, _, _ => none
 | k + 1, s0_0, s0_1, a1 => (spec_l8Least.f a1 1).bind fun t152 => ((spec_l1Rd_pick.f k s0_0 s0_1 (wrap64 (4 + (wrap64 (3 * t152))))).bind fun bt153 => (if bt153.1 = 0 then (spec_l8Form.j0 k a1 bt153.1 (bt153.1 == 0) s0_0 bt153.2) else (spec_l8Form.j0 k a1 bt153.1 (bt153.1 == 1) s0_0 bt153.2)))
end
theorem spec_l8Form.mono_l : ∀ k, (∀ y0 y1 y2, LeO (spec_l8Form.f k y0 y1 y2) (spec_l8Form.f (k + 1) y0 y1 y2)) ∧ (∀ y0 y1 y2 y3 y4, LeO (spec_l8Form.j0 k y0 y1 y2 y3 y4) (spec_l8Form.j0 (k + 1) y0 y1 y2 y3 y4)) ∧ (∀ y0 y1 y2 y3 y4 y5 y6 y7, LeO (spec_l8Form.l0 k y0 y1 y2 y3 y4 y5 y6 y7) (spec_l8Form.l0 (k + 1) y0 y1 y2 y3 y4 y5 y6 y7)) ∧ (∀ y0 y1 y2 y3 y4 y5 y6 y7, LeO (spec_l8Form.l1 k y0 y1 y2 y3 y4 y5 y6 y7) (spec_l8Form.l1 (k + 1) y0 y1 y2 y3 y4 y5 y6 y7))
 | 0 => ⟨fun _ _ _ r h => by simp [spec_l8Form.f] at h, fun _ _ _ _ _ r h => by simp [spec_l8Form.j0] at h, fun _ _ _ _ _ _ _ _ r h => by simp [spec_l8Form.l0] at h, fun _ _ _ _ _ _ _ _ r h => by simp [spec_l8Form.l1] at h⟩
 | k + 1 => by
  obtain ⟨ih0, ih1, ih2, ih3⟩ := spec_l8Form.mono_l k
  refine ⟨?_, ?_, ?_, ?_⟩
  ·intro y0 y1 y2
   unfold spec_l8Form.f
   repeat' first
   | (with_reducible exact ih0 _ _ _)
   | (with_reducible exact ih1 _ _ _ _ _)
   | (with_reducible exact ih2 _ _ _ _ _ _ _ _)
   | (with_reducible exact ih3 _ _ _ _ _ _ _ _)
   | (with_reducible exact spec_l1Rd_of.mono _ _ _ _)
   | (with_reducible exact spec_l1Rd_pick.mono _ _ _ _)
   | (with_reducible exact spec_l8Id.mono _ _ _)
   | (with_reducible exact LeO.refl _)
   | (with_reducible exact LeO.none _)
   | (with_reducible refine LeO.ite ?_ ?_)
   | (with_reducible refine LeO.bind ?_ (fun _ => ?_))
   | exact ih0 _ _ _
   | exact ih1 _ _ _ _ _
   | exact ih2 _ _ _ _ _ _ _ _
   | exact ih3 _ _ _ _ _ _ _ _
   | exact spec_l1Rd_of.mono _ _ _ _
   | exact spec_l1Rd_pick.mono _ _ _ _
   | exact spec_l8Id.mono _ _ _
   | exact LeO.none _
   | refine LeO.ite ?_ ?_
   | refine LeO.bind ?_ (fun _ => ?_)
  ·intro y0 y1 y2 y3 y4
   unfold spec_l8Form.j0
   repeat' first
   | (with_reducible exact ih0 _ _ _)
   | (with_reducible exact ih1 _ _ _ _ _)
   | (with_reducible exact ih2 _ _ _ _ _ _ _ _)
   | (with_reducible exact ih3 _ _ _ _ _ _ _ _)
   | (with_reducible exact spec_l1Rd_of.mono _ _ _ _)
   | (with_reducible exact spec_l1Rd_pick.mono _ _ _ _)
   | (with_reducible exact spec_l8Id.mono _ _ _)
   | (with_reducible exact LeO.refl _)
   | (with_reducible exact LeO.none _)
   | (with_reducible refine LeO.ite ?_ ?_)
   | (with_reducible refine LeO.bind ?_ (fun _ => ?_))
   | exact ih0 _ _ _
   | exact ih1 _ _ _ _ _
   | exact ih2 _ _ _ _ _ _ _ _
   | exact ih3 _ _ _ _ _ _ _ _
   | exact spec_l1Rd_of.mono _ _ _ _
   | exact spec_l1Rd_pick.mono _ _ _ _
   | exact spec_l8Id.mono _ _ _
   | exact LeO.none _
   | refine LeO.ite ?_ ?_
   | refine LeO.bind ?_ (fun _ => ?_)
  ·intro y0 y1 y2 y3 y4 y5 y6 y7
   unfold spec_l8Form.l0
   repeat' first
   | (with_reducible exact ih0 _ _ _)
   | (with_reducible exact ih1 _ _ _ _ _)
   | (with_reducible exact ih2 _ _ _ _ _ _ _ _)
   | (with_reducible exact ih3 _ _ _ _ _ _ _ _)
   | (with_reducible exact spec_l1Rd_of.mono _ _ _ _)
   | (with_reducible exact spec_l1Rd_pick.mono _ _ _ _)
   | (with_reducible exact spec_l8Id.mono _ _ _)
   | (with_reducible exact LeO.refl _)
   | (with_reducible exact LeO.none _)
   | (with_reducible refine LeO.ite ?_ ?_)
   | (with_reducible refine LeO.bind ?_ (fun _ => ?_))
   | exact ih0 _ _ _
   | exact ih1 _ _ _ _ _
   | exact ih2 _ _ _ _ _ _ _ _
   | exact ih3 _ _ _ _ _ _ _ _
   | exact spec_l1Rd_of.mono _ _ _ _
   | exact spec_l1Rd_pick.mono _ _ _ _
   | exact spec_l8Id.mono _ _ _
   | exact LeO.none _
   | refine LeO.ite ?_ ?_
   | refine LeO.bind ?_ (fun _ => ?_)
  ·intro y0 y1 y2 y3 y4 y5 y6 y7
   unfold spec_l8Form.l1
   repeat' first
   | (with_reducible exact ih0 _ _ _)
   | (with_reducible exact ih1 _ _ _ _ _)
   | (with_reducible exact ih2 _ _ _ _ _ _ _ _)
   | (with_reducible exact ih3 _ _ _ _ _ _ _ _)
   | (with_reducible exact spec_l1Rd_of.mono _ _ _ _)
   | (with_reducible exact spec_l1Rd_pick.mono _ _ _ _)
   | (with_reducible exact spec_l8Id.mono _ _ _)
   | (with_reducible exact LeO.refl _)
   | (with_reducible exact LeO.none _)
   | (with_reducible refine LeO.ite ?_ ?_)
   | (with_reducible refine LeO.bind ?_ (fun _ => ?_))
   | exact ih0 _ _ _
   | exact ih1 _ _ _ _ _
   | exact ih2 _ _ _ _ _ _ _ _
   | exact ih3 _ _ _ _ _ _ _ _
   | exact spec_l1Rd_of.mono _ _ _ _
   | exact spec_l1Rd_pick.mono _ _ _ _
   | exact spec_l8Id.mono _ _ _
   | exact LeO.none _
   | refine LeO.ite ?_ ?_
   | refine LeO.bind ?_ (fun _ => ?_)
theorem spec_l8Form.mono : ∀ a0 a1 a2 k, LeO (spec_l8Form.f k a0 a1 a2) (spec_l8Form.f (k + 1) a0 a1 a2) := by
 intro a0 a1 a2 k
 obtain ⟨ih0, ih1, ih2, ih3⟩ := spec_l8Form.mono_l k
 exact ih0 a0 a1 a2
def spec_l8Form.T14 : Bool × List (List Nat × List Nat) := (true, [([], []), ([0], [0]), ([], []), ([], []), ([3], [3]), ([2, 4], [2, 4]), ([5], [5]), ([1, 6, 5], [1, 6]), ([0, 1, 2, 3, 4, 5, 6, 7], []), ([8, 7, 7, 0, 1, 2, 3, 4, 5, 6, 7], [7, 8])])
def spec_l8Form.B14 : List Nat := [0, 1, 0, 0, 8, 28, 60, 127, 255, 511]
theorem spec_l8Form.tab14 : rtab .any (opsOf Try.f80 14) = spec_l8Form.T14 := by kernel_rfl
theorem spec_l8Form.bits14 : waitsOk spec_l8Form.T14.2 spec_l8Form.B14 = true := by kernel_rfl
def spec_l8Form.T15 : Bool × List (List Nat × List Nat) := (true, [([], []), ([0], [0]), ([], []), ([2], [2]), ([3], [3]), ([1, 4, 3], [1, 4]), ([0, 1, 2, 3, 4, 5], []), ([6, 5, 5, 0, 1, 2, 3, 4, 5], [5, 6])])
def spec_l8Form.B15 : List Nat := [0, 1, 0, 4, 12, 31, 63, 127]
theorem spec_l8Form.tab15 : rtab .any (opsOf Try.f80 15) = spec_l8Form.T15 := by kernel_rfl
theorem spec_l8Form.bits15 : waitsOk spec_l8Form.T15.2 spec_l8Form.B15 = true := by kernel_rfl
def spec_l8Form.T21 : Bool × List (List Nat × List Nat) := (true, [([], []), ([0], [0]), ([], []), ([], []), ([3], [3]), ([2, 4], [2, 4]), ([5], [5]), ([1, 6, 5], [1, 6]), ([0, 1, 2, 3, 4, 5, 6, 7], []), ([8, 7, 7, 0, 1, 2, 3, 4, 5, 6, 7], [7, 8])])
def spec_l8Form.B21 : List Nat := [0, 1, 0, 0, 8, 28, 60, 127, 255, 511]
theorem spec_l8Form.tab21 : rtab .any (opsOf Try.f80 21) = spec_l8Form.T21 := by kernel_rfl
theorem spec_l8Form.bits21 : waitsOk spec_l8Form.T21.2 spec_l8Form.B21 = true := by kernel_rfl
set_option maxHeartbeats 8000000 in
set_option maxRecDepth 100000 in
theorem spec_l8Form.calls (k : Nat) : ∀ (g : Nat) (s0_0 : List Int) (s0_1 : Int) (a1 : Int) (r1 : Int) (r2 : ByteArray) (r3 : List Int) (r4 : Int) (r5 : List (S35)) (r6 : Int) (w0 w : World) (hI : IsS115 w0 w g s0_0 s0_1) (hB : Below w0.heap.size w0 w) (h : spec_l8Form.f k s0_0 s0_1 a1 = some (r1, r2, r3, r4, r5, r6)),
  Calls Try.prog 80 #[.pointer (some ⟨g, 0, none⟩), .int .i64 a1] w fun e w' => ∃ v2_ v4_ : Value, e = .returned (.agg #[.int .i64 r1, .string r2, v2_, .int .i64 r4, v4_]) ∧ Kd.R (Kd.int .i64) 3 w' w.heap.size (fun _ => True) v2_ r3 ∧ Kd.R k35 35 w' w.heap.size (fun k_ => some k_ ≠ (v2_ : Value).ownBlock) v4_ r5 ∧ IsS115 w0 w' g s0_0 r6 ∧ Below w0.heap.size w0 w' ∧ KeepBut w w' g none := by
 induction k using Nat.strongRecOn with
 | _ k ih =>
 intro g s0_0 s0_1 a1 r1 r2 r3 r4 r5 r6 w0 w hI hB h
 cases k with
 | zero => exact absurd h (by simp [spec_l8Form.f])
 | succ k =>
 simp only [spec_l8Form.f] at h
 have hu35 := Try.underlying35
 have HI0 := Aq hI
 have HK := Aq (KeepBut.refl w g none)
 have HL := Aq hB.size
 clear hI
 have HW0 := Aq hB.size
 have HB := Aq hB
 clear hB
 have H : ((spec_l8Least.f a1 1).bind fun t152 => ((spec_l1Rd_pick.f k s0_0 s0_1 (wrap64 (4 + (wrap64 (3 * t152))))).bind fun bt153 => (if bt153.1 = 0 then (spec_l8Form.j0 k a1 bt153.1 (bt153.1 == 0) s0_0 bt153.2) else (spec_l8Form.j0 k a1 bt153.1 (bt153.1 == 1) s0_0 bt153.2)))) = some (r1, r2, r3, r4, r5, r6) := h
 clear h
 replace H := Option.bind_eq_some_iff.mp H
 obtain ⟨t152, A30, H⟩ := H
 replace H : ((spec_l1Rd_pick.f k s0_0 s0_1 (wrap64 (4 + (wrap64 (3 * t152))))).bind fun bt153 => (if bt153.1 = 0 then (spec_l8Form.j0 k a1 bt153.1 (bt153.1 == 0) s0_0 bt153.2) else (spec_l8Form.j0 k a1 bt153.1 (bt153.1 == 1) s0_0 bt153.2))) = some (r1, r2, r3, r4, r5, r6) := H
 have A3 := Aq A30
 clear A30
 replace H := Option.bind_eq_some_iff.mp H
 obtain ⟨⟨t153, t154⟩, A40, H⟩ := H
 replace H : (if t153 = 0 then (spec_l8Form.j0 k a1 t153 (t153 == 0) s0_0 t154) else (spec_l8Form.j0 k a1 t153 (t153 == 1) s0_0 t154)) = some (r1, r2, r3, r4, r5, r6) := H
 have A4 := Aq A40
 clear A40
 have HC5 := Aq H
 clear H
 go_enter Try.func80, Try.ntmps80
 go_upto_if 15 with (first | ((with_reducible refine gate_dst (N := 4) rfl ?_); refine box_event ?hg (N := 4) ?hd (cs := #[.int .i64 0, .string (⟨#[]⟩ : ByteArray), .slice none 0 0, .int .i64 0, .slice none 0 0]) (t := 35) ?hr ?_; (case hd => rfl); (case hg => rfl); (case hr => first | (go_simp; done) | (go_simp; rfl)); intro gb151 hg w6 hbox hb; have n0_ := Aq (IsS115.below (by repeat (first | (with_reducible first | exact HI0.out | apply IsS115.alloc | apply IsS115.drewN | apply IsS115.drew | apply IsS115.set_1) | exact HI0.out)) hb); have n1_ := Aq (KeepBut.trans (by repeat (first | (with_reducible first | exact HK.out | apply KeepBut.set_ | apply keep_drewN | apply keep_drew | apply keep_alloc) | exact HK.out)) (KeepBut.of_below hb g none) (.inl rfl)); have n2_ := Aq (below_step (by repeat (first | (with_reducible first | exact HB.out | apply zB | apply zC | apply zE | refine below_set ?_ (IsS115.ge HI0.out)) | exact HB.out)) hb); have n3_ := Aq (hbox); have n4_ := Aq ((by rw [hg]; exact (keep_size (w := w) (g := g) (row := none) (by repeat (first | (with_reducible first | exact HK.out | apply KeepBut.set_ | apply keep_drewN | apply keep_drew | apply keep_alloc) | exact HK.out))) : w.heap.size ≤ gb151)); have n5_ := Aq ((Nat.le_trans HW0.out (by rw [hg]; exact (keep_size (w := w) (g := g) (row := none) (by repeat (first | (with_reducible first | exact HK.out | apply KeepBut.set_ | apply keep_drewN | apply keep_drew | apply keep_alloc) | exact HK.out))) : w.heap.size ≤ gb151) : w0.heap.size ≤ gb151)); have n6_ := Aq ((by rw [hg]; exact Nat.ne_of_lt (IsS115.lt (show IsS115 w0 _ g s0_0 s0_1 from by repeat (first | (with_reducible first | exact HI0.out | apply IsS115.alloc | apply IsS115.drewN | apply IsS115.drew | apply IsS115.set_1) | exact HI0.out))) : g ≠ gb151)); have n7_ := Aq ((by rw [hg]; exact Nat.ne_of_gt (IsS115.lt (show IsS115 w0 _ g s0_0 s0_1 from by repeat (first | (with_reducible first | exact HI0.out | apply IsS115.alloc | apply IsS115.drewN | apply IsS115.drew | apply IsS115.set_1) | exact HI0.out))) : gb151 ≠ g)); clear HI0 HK HB; have HI0 := n0_; have HK := n1_; have HB := n2_; have BK151 := n3_; have GW151 := n4_; have GE151 := n5_; have NB0_151 := n6_; have NB151_0 := n7_; clear n0_ n1_ n2_ n3_ n4_ n5_ n6_ n7_ hb hbox hg) | ((with_reducible refine gate_callee (f := 92) rfl ?_); refine goesL_ (some 11) rfl rfl Try.func92 (by kernel_rfl) rfl #[.int .i64 a1, .int .i64 1] rfl (by (try simp only [List.map_toArray, List.map_cons, List.map_nil]); first | done | rfl | (simp only [List.length_drop, List.length_take]; rfl)) ?_; (with_reducible refine (spec_l8Least.calls a1 1 t152 _ A3.out).mono ?_); rintro e w' ⟨rfl, ⟨nd, rfl⟩⟩; refine ⟨_, rfl, ?_⟩) | ((with_reducible refine gate_callee (f := 47) rfl ?_); refine goesL_ (some 14) rfl rfl Try.func47 (by kernel_rfl) rfl #[.pointer (some ⟨g, 0, none⟩), .int .i64 (wrap64 (4 + (wrap64 (3 * t152))))] rfl (by (try simp only [List.map_toArray, List.map_cons, List.map_nil]); first | done | rfl | (simp only [List.length_drop, List.length_take]; rfl)) ?_; (with_reducible refine (spec_l1Rd_pick.calls k g s0_0 s0_1 (wrap64 (4 + (wrap64 (3 * t152)))) t153 t154 w0 _ ?side1 ?side2 A4.out).mono ?_); (case side1 => repeat (first | (with_reducible first | exact HI0.out | apply IsS115.alloc | apply IsS115.drewN | apply IsS115.drew | apply IsS115.set_1 | refine IsS115.far ?_ NB0_151.out _) | exact HI0.out)); (case side2 => repeat (first | (with_reducible first | exact HB.out | apply zB | apply zC | apply zE | refine below_set ?_ (IsS115.ge HI0.out) | refine below_set ?_ GE151.out) | exact HB.out)); rintro e w7 ⟨rfl, hi, hb, hk⟩; refine ⟨_, rfl, ?_⟩; have n0_ := Aq (KeepBut.blk hk (g' := gb151) (o := .cells #[.int .i64 0, .string (⟨#[]⟩ : ByteArray), .slice none 0 0, .int .i64 0, .slice none 0 0] 35 (0, 0)) (by (with_reducible repeat (first | refine zN ?_ _ | refine zD ?_ | refine zA ?_ _)); exact BK151.out) NB151_0.out (by simp)); have n1_ := Aq (KeepBut.trans (by repeat (first | (with_reducible first | exact HK.out | apply KeepBut.set_ | apply keep_drewN | apply keep_drew | apply keep_alloc | refine keep_far ?_ GW151.out _) | exact HK.out)) hk (.inl rfl)); have n2_ := Aq (hb); have n3_ := Aq (hi); clear BK151 HK HB HI0; have BK151 := n0_; have HK := n1_; have HB := n2_; have HI0 := n3_; clear n0_ n1_ n2_ n3_; (try clear hb); (try clear hb2); (try clear hk); (try clear hi)))
 (try simp only [Act.put, sA, sB, sC])
 go_cut [15] (fun v15 wc => ∃ (kq : Nat) (x15_4 : Bool), v15 = .bool x15_4 ∧ Aside0 (spec_l8Form.j0 kq a1 t153 x15_4 s0_0 t154 = some (r1, r2, r3, r4, r5, r6)) ∧ Aside0 (kq ≤ k) ∧ Aside0 (wc.heap[gb151]? = some (.cells #[.int .i64 0, .string (⟨#[]⟩ : ByteArray), (.slice none 0 0), .int .i64 0, (.slice none 0 0)] 35 (0, 0))) ∧ Aside0 (IsS115 w0 wc g s0_0 t154) ∧ Aside0 (KeepBut w wc g none) ∧ Aside0 (Below w0.heap.size w0 wc))
 case first =>
  have H := HC5.out
  clear HC5
  by_cases c8 : t153 = 0
  ·rw [if_pos c8] at H
   have c8b0 : (t153 == 0) = true := beq_iff_eq.mpr c8
   have c8b1 : (t153 != 0) = false := bne_eq_false_iff_eq.mpr c8
   clear c8
   (first | rw [c8b0] | (simp only [i64_w, i32_w]; rw [c8b0]) | skip)
   have H' := Aq H
   clear H
   go_wp2
   go_meet
   case rel => exact ⟨_, ((t153 == 0)), (by first | rfl | (simp; done) | (simp [*]; done)), H', ⟨by first | omega | exact Nat.le_refl _⟩, ⟨by (with_reducible repeat (first | refine zN ?_ _ | refine zD ?_ | refine zA ?_ _)); exact BK151.out⟩, ⟨by repeat (first | (with_reducible first | exact HI0.out | apply IsS115.alloc | apply IsS115.drewN | apply IsS115.drew | apply IsS115.set_1 | refine IsS115.far ?_ NB0_151.out _) | exact HI0.out)⟩, ⟨by repeat (first | (with_reducible first | exact HK.out | apply KeepBut.set_ | apply keep_drewN | apply keep_drew | apply keep_alloc | refine keep_far ?_ GW151.out _) | exact HK.out)⟩, ⟨by repeat (first | (with_reducible first | exact HB.out | apply zB | apply zC | apply zE | refine below_set ?_ (IsS115.ge HI0.out) | refine below_set ?_ GE151.out) | exact HB.out)⟩⟩
  ·rw [if_neg c8] at H
   have c8b0 : (t153 == 0) = false := beq_eq_false_iff_ne.mpr c8
   have c8b1 : (t153 != 0) = true := bne_iff_ne.mpr c8
   (first | rw [c8b0] | (simp only [i64_w, i32_w]; rw [c8b0]) | skip)
   have H' := Aq H
   clear H
   go_wp2
   go_meet
   case rel => exact ⟨_, ((t153 == 1)), (by first | rfl | (simp; done) | (simp [*]; done)), H', ⟨by first | omega | exact Nat.le_refl _⟩, ⟨by (with_reducible repeat (first | refine zN ?_ _ | refine zD ?_ | refine zA ?_ _)); exact BK151.out⟩, ⟨by repeat (first | (with_reducible first | exact HI0.out | apply IsS115.alloc | apply IsS115.drewN | apply IsS115.drew | apply IsS115.set_1 | refine IsS115.far ?_ NB0_151.out _) | exact HI0.out)⟩, ⟨by repeat (first | (with_reducible first | exact HK.out | apply KeepBut.set_ | apply keep_drewN | apply keep_drew | apply keep_alloc | refine keep_far ?_ GW151.out _) | exact HK.out)⟩, ⟨by repeat (first | (with_reducible first | exact HB.out | apply zB | apply zC | apply zE | refine below_set ?_ (IsS115.ge HI0.out) | refine below_set ?_ GE151.out) | exact HB.out)⟩⟩
 case rest =>
  clear HC5
  try clear p2
  try clear c4
  try clear p6
  try clear c8
  try clear c8b0
  try clear c8b1
  obtain ⟨kq, x15_4, rfl, HA, HJ4, BK151, HI0, HK, HB⟩ := hcut
  cases kq with
  | zero => exact absurd HA.out (by simp [spec_l8Form.j0])
  | succ kj4 =>
   have H := HA.out
   clear HA
   simp only [spec_l8Form.j0] at H
   by_cases c9 : x15_4 = true
   ·subst c9
    have H1 : ((spec_l8Id.f kj4 s0_0 t154).bind fun bt155 => (some (bt155.1, bt155.2.1, bt155.2.2.1, bt155.2.2.2.1, bt155.2.2.2.2.1, bt155.2.2.2.2.2))) = some (r1, r2, r3, r4, r5, r6) := by rw [if_pos rfl] at H; exact H
    clear H
    have H := H1
    clear H1
    replace H := Option.bind_eq_some_iff.mp H
    obtain ⟨⟨t155, t156, t157, t160, t161, t164⟩, A100, H⟩ := H
    replace H : (some (t155, t156, t157, t160, t161, t164)) = some (r1, r2, r3, r4, r5, r6) := H
    have A10 := Aq A100
    clear A100
    simp only [Option.some.injEq, Prod.mk.injEq] at H
    obtain ⟨rfl, rfl, rfl, rfl, rfl, rfl⟩ := H
    go_wp2_with (first | ((with_reducible refine gate_callee (f := 46) rfl ?_); refine goesL_ (some 19) rfl rfl Try.func46 (by kernel_rfl) rfl #[.pointer (some ⟨g, 0, none⟩)] rfl (by (try simp only [List.map_toArray, List.map_cons, List.map_nil]); first | done | rfl | (simp only [List.length_drop, List.length_take]; rfl)) ?_; (with_reducible refine (spec_l8Id.calls kj4 g s0_0 t154 t155 t156 t157 t160 t161 t164 w0 _ ?side1 ?side2 A10.out).mono ?_); (case side1 => repeat (first | (with_reducible first | exact HI0.out | apply IsS115.alloc | apply IsS115.drewN | apply IsS115.drew | apply IsS115.set_1 | refine IsS115.far ?_ NB0_151.out _) | exact HI0.out)); (case side2 => repeat (first | (with_reducible first | exact HB.out | apply zB | apply zC | apply zE | refine below_set ?_ (IsS115.ge HI0.out) | refine below_set ?_ GE151.out) | exact HB.out)); rintro e w11 ⟨v158, v162, rfl, ho0, ho1, hi, hb, hk⟩; refine ⟨_, rfl, ?_⟩; have n0_ := Aq (KeepBut.blk hk (g' := gb151) (o := .cells #[.int .i64 0, .string (⟨#[]⟩ : ByteArray), .slice none 0 0, .int .i64 0, .slice none 0 0] 35 (0, 0)) (by (with_reducible repeat (first | refine zN ?_ _ | refine zD ?_ | refine zA ?_ _)); exact BK151.out) NB151_0.out (by simp)); have n1_ := Aq (Kd.R_lower ho0 (keep_size (w := w) (g := g) (row := none) (by repeat (first | (with_reducible first | exact HK.out | apply KeepBut.set_ | apply keep_drewN | apply keep_drew | apply keep_alloc | refine keep_far ?_ GW151.out _) | exact HK.out)))); have n2_ := Aq (Kd.R_lower (Kd.R_newB ho1 (g := gb151) (o := .cells #[.int .i64 0, .string (⟨#[]⟩ : ByteArray), .slice none 0 0, .int .i64 0, .slice none 0 0] 35 (0, 0)) (by (with_reducible repeat (first | refine zN ?_ _ | refine zD ?_ | refine zA ?_ _)); exact BK151.out)) (keep_size (w := w) (g := g) (row := none) (by repeat (first | (with_reducible first | exact HK.out | apply KeepBut.set_ | apply keep_drewN | apply keep_drew | apply keep_alloc | refine keep_far ?_ GW151.out _) | exact HK.out)))); have n3_ := Aq (KeepBut.trans (by repeat (first | (with_reducible first | exact HK.out | apply KeepBut.set_ | apply keep_drewN | apply keep_drew | apply keep_alloc | refine keep_far ?_ GW151.out _) | exact HK.out)) hk (.inl rfl)); have n4_ := Aq (hb); have n5_ := Aq (hi); clear BK151 HK HB HI0; have BK151 := n0_; have HO159 := n1_; have HO163 := n2_; have HK := n3_; have HB := n4_; have HI0 := n5_; clear n0_ n1_ n2_ n3_ n4_ n5_; (try clear hb); (try clear hb2); (try clear hk); (try clear hi); (try clear ho0); (try clear ho1); have hnb12 := NB151_0.out; have hnc12 := NB0_151.out; have hcz13_0 : w11.cell? ⟨gb151, 0, none⟩ = some (.int .i64 0) := (blk_cell BK151.out 0).trans rfl; have hcz13_1 : w11.cell? ⟨gb151, 1, none⟩ = some (.string (⟨#[]⟩ : ByteArray)) := (blk_cell BK151.out 1).trans rfl; have hcz13_2 : w11.cell? ⟨gb151, 2, none⟩ = some (.slice none 0 0) := (blk_cell BK151.out 2).trans rfl; have hcz13_3 : w11.cell? ⟨gb151, 3, none⟩ = some (.int .i64 0) := (blk_cell BK151.out 3).trans rfl; have hcz13_4 : w11.cell? ⟨gb151, 4, none⟩ = some (.slice none 0 0) := (blk_cell BK151.out 4).trans rfl; have hfz13_0 := blk_frozen BK151.out 0; have hfz13_1 := blk_frozen BK151.out 1; have hfz13_2 := blk_frozen BK151.out 2; have hfz13_3 := blk_frozen BK151.out 3; have hfz13_4 := blk_frozen BK151.out 4; obtain ⟨Ao14, co14, eo14⟩ := Kd.R_slice HO159.out; subst eo14; obtain ⟨Ao15, co15, eo15⟩ := Kd.R_slice HO163.out; subst eo15))
    refine bodyPost_ret (results_cell_row rfl _ _ gb151 35 #[.int .i64 t155, .string t156, .slice Ao14 t157.length co14, .int .i64 t160, .slice Ao15 t161.length co15] (0, 0) _ rfl (by (with_reducible repeat (first | refine zN ?_ _ | refine zD ?_ | refine zA ?_ _)); refine blk_put (cs := #[.int .i64 t155, .string t156, .slice Ao14 t157.length co14, .int .i64 t160, .slice none 0 0]) ?_ 4 _ rfl; (with_reducible repeat (first | refine zN ?_ _ | refine zD ?_ | refine zA ?_ _)); refine blk_put (cs := #[.int .i64 t155, .string t156, .slice Ao14 t157.length co14, .int .i64 0, .slice none 0 0]) ?_ 3 _ rfl; (with_reducible repeat (first | refine zN ?_ _ | refine zD ?_ | refine zA ?_ _)); refine blk_put (cs := #[.int .i64 t155, .string t156, .slice none 0 0, .int .i64 0, .slice none 0 0]) ?_ 2 _ rfl; (with_reducible repeat (first | refine zN ?_ _ | refine zD ?_ | refine zA ?_ _)); refine blk_put (cs := #[.int .i64 t155, .string (⟨#[]⟩ : ByteArray), .slice none 0 0, .int .i64 0, .slice none 0 0]) ?_ 1 _ rfl; (with_reducible repeat (first | refine zN ?_ _ | refine zD ?_ | refine zA ?_ _)); refine blk_put (cs := #[.int .i64 0, .string (⟨#[]⟩ : ByteArray), .slice none 0 0, .int .i64 0, .slice none 0 0]) ?_ 0 _ rfl; (with_reducible repeat (first | refine zN ?_ _ | refine zD ?_ | refine zA ?_ _)); exact BK151.out) Try.underlying35 rfl (by kernel_rfl)) rfl ?_
    exact ⟨_, _, by first | rfl | (simp [errW_none, errW_some] <;> rfl) | (simp [*, errW_none, errW_some] <;> rfl), by (with_reducible repeat (first | apply Kd.R_alloc | apply Kd.R_drewN | apply Kd.R_drew)); exact Kd.R_mono (Kd.R_far (p := ⟨gb151, 4, none⟩) (Kd.R_far (p := ⟨gb151, 3, none⟩) (Kd.R_far (p := ⟨gb151, 2, none⟩) (Kd.R_far (p := ⟨gb151, 1, none⟩) (Kd.R_far (p := ⟨gb151, 0, none⟩) (Kd.R_types HO159.out BK151.out (by decide)) (fun _ hk => hk.2) (.int .i64 t155)) (fun _ hk => hk.2) (.string t156)) (fun _ hk => hk.2) (.slice Ao14 t157.length co14)) (fun _ hk => hk.2) (.int .i64 t160)) (fun _ hk => hk.2) (.slice Ao15 t161.length co15)) (fun _ hk => trivial), by (with_reducible repeat (first | apply Kd.R_alloc | apply Kd.R_drewN | apply Kd.R_drew)); exact Kd.R_mono (Kd.R_far (p := ⟨gb151, 4, none⟩) (Kd.R_far (p := ⟨gb151, 3, none⟩) (Kd.R_far (p := ⟨gb151, 2, none⟩) (Kd.R_far (p := ⟨gb151, 1, none⟩) (Kd.R_far (p := ⟨gb151, 0, none⟩) (Kd.R_mono HO163.out (fun k_ hk => (⟨hk, hk.2⟩ : _ ∧ k_ ≠ gb151))) (fun _ hk => hk.2) (.int .i64 t155)) (fun _ hk => hk.2) (.string t156)) (fun _ hk => hk.2) (.slice Ao14 t157.length co14)) (fun _ hk => hk.2) (.int .i64 t160)) (fun _ hk => hk.2) (.slice Ao15 t161.length co15)) (fun _ hk => hk.1.1), by repeat (first | (with_reducible first | exact HI0.out | apply IsS115.alloc | apply IsS115.drewN | apply IsS115.drew | apply IsS115.set_1 | refine IsS115.far ?_ NB0_151.out _) | exact HI0.out), by repeat (first | (with_reducible first | exact HB.out | apply zB | apply zC | apply zE | refine below_set ?_ (IsS115.ge HI0.out) | refine below_set ?_ GE151.out) | exact HB.out), by repeat (first | (with_reducible first | exact HK.out | apply KeepBut.set_ | apply keep_drewN | apply keep_drew | apply keep_alloc | refine keep_far ?_ GW151.out _) | exact HK.out)⟩
   ·replace c9 := Bool.eq_false_iff.mpr c9
    subst c9
    have H1 : (if t153 = 2 then ((spec_l1Rd_of.f kj4 s0_0 t154 (([(⟨#[49]⟩ : ByteArray), (⟨#[35, 116]⟩ : ByteArray), (⟨#[34, 115, 34]⟩ : ByteArray), (⟨#[45, 55]⟩ : ByteArray)] : List ByteArray))).bind fun bt168 => (some (2, bt168.1, ([] : List Int), 0, ([] : List (S35)), bt168.2))) else (if t153 = 3 then (some (3, (⟨#[]⟩ : ByteArray), ([] : List Int), 0, ([] : List (S35)), t154)) else (if t153 = 4 then ((spec_l1Rd_pick.f kj4 s0_0 t154 2).bind fun bt171 => (spec_l8Form.l0 kj4 a1 (wrap64 (1 + bt171.1)) s0_0 bt171.2 4 (⟨#[]⟩ : ByteArray) 0 ([] : List (S35)))) else ((spec_l1Rd_pick.f kj4 s0_0 t154 4).bind fun bt200 => (spec_l8Form.l1 kj4 a1 bt200.1 s0_0 bt200.2 3 (⟨#[]⟩ : ByteArray) 0 ([] : List (S35))))))) = some (r1, r2, r3, r4, r5, r6) := by rw [if_neg (show ¬ (false = true) by decide)] at H; exact H
    clear H
    have H := H1
    clear H1
    by_cases c16 : t153 = 2
    ·rw [if_pos c16] at H
     have c16b0 : (t153 == 2) = true := beq_iff_eq.mpr c16
     have c16b1 : (t153 != 2) = false := bne_eq_false_iff_eq.mpr c16
     clear c16
     obtain ⟨y165, hy165⟩ : ∃ y_ : List ByteArray, y_ = (([(⟨#[49]⟩ : ByteArray), (⟨#[35, 116]⟩ : ByteArray), (⟨#[34, 115, 34]⟩ : ByteArray), (⟨#[45, 55]⟩ : ByteArray)] : List ByteArray)) := ⟨_, rfl⟩
     replace H : ((spec_l1Rd_of.f kj4 s0_0 t154 y165).bind fun bt168 => (some (2, bt168.1, ([] : List Int), 0, ([] : List (S35)), bt168.2))) = some (r1, r2, r3, r4, r5, r6) := by first | (rw [hy165]; with_reducible exact H) | (have H2_ := (Option.bind_some _ _).symm.trans H; rw [hy165]; with_reducible exact H2_) | (have H2_ := (Option.bind_some _ _).symm.trans H; with_reducible exact H2_) | with_reducible exact H | (rw [hy165]; exact H) | exact H
     have Ny165 := Aq hy165
     clear hy165
     replace H := Option.bind_eq_some_iff.mp H
     obtain ⟨⟨t168, t169⟩, A170, H⟩ := H
     replace H : (some (2, t168, ([] : List Int), 0, ([] : List (S35)), t169)) = some (r1, r2, r3, r4, r5, r6) := H
     have A17 := Aq A170
     clear A170
     simp only [Option.some.injEq, Prod.mk.injEq] at H
     obtain ⟨rfl, rfl, rfl, rfl, rfl, rfl⟩ := H
     go_wp2_with (first | ((with_reducible refine gate_dst (N := 23) rfl ?_); refine Kd.R_lit Kd.string _ 9 ?hg (N := 23) ?hd (xs := ([(⟨#[49]⟩ : ByteArray), (⟨#[35, 116]⟩ : ByteArray), (⟨#[34, 115, 34]⟩ : ByteArray), (⟨#[45, 55]⟩ : ByteArray)] : List ByteArray)) (inner := [.string (⟨#[49]⟩ : ByteArray), .string (⟨#[35, 116]⟩ : ByteArray), .string (⟨#[34, 115, 34]⟩ : ByteArray), .string (⟨#[45, 55]⟩ : ByteArray)]) (ok := fun _ => True) (okp := fun _ => True) ?hr ?hp (fun _ hk => hk) trivial (Below.refl _ _) (Nat.le_refl _) (by simp) ?_; (case hd => rfl); (case hg => rfl); (case hr => first | (go_simp; done) | (go_simp; rfl)); (case hp => exact (Reps.one (show Kd.M Kd.string _ _ _ (⟨#[49]⟩ : ByteArray) [.string (⟨#[49]⟩ : ByteArray)] from rfl) (Reps.one (show Kd.M Kd.string _ _ _ (⟨#[35, 116]⟩ : ByteArray) [.string (⟨#[35, 116]⟩ : ByteArray)] from rfl) (Reps.one (show Kd.M Kd.string _ _ _ (⟨#[34, 115, 34]⟩ : ByteArray) [.string (⟨#[34, 115, 34]⟩ : ByteArray)] from rfl) (Reps.one (show Kd.M Kd.string _ _ _ (⟨#[45, 55]⟩ : ByteArray) [.string (⟨#[45, 55]⟩ : ByteArray)] from rfl) (Reps.none _ _)))))); intro v166 w18 ho19 hb hg_ hnew_; clear hg_ hnew_; (first | rw [← Ny165.out] at ho19 | (simp only [Int.reduceToNat] at ho19; rw [← Ny165.out] at ho19)); have n0_ := Aq (Kd.R_lower ho19 (keep_size (w := w) (g := g) (row := none) (by repeat (first | (with_reducible first | exact HK.out | apply KeepBut.set_ | apply keep_drewN | apply keep_drew | apply keep_alloc | refine keep_far ?_ GW151.out _) | exact HK.out)))); have n1_ := Aq (blk_below (g := gb151) (o := .cells #[.int .i64 0, .string (⟨#[]⟩ : ByteArray), .slice none 0 0, .int .i64 0, .slice none 0 0] 35 (0, 0)) (by (with_reducible repeat (first | refine zN ?_ _ | refine zD ?_ | refine zA ?_ _)); exact BK151.out) hb); have n2_ := Aq (IsS115.below (by repeat (first | (with_reducible first | exact HI0.out | apply IsS115.alloc | apply IsS115.drewN | apply IsS115.drew | apply IsS115.set_1 | refine IsS115.far ?_ NB0_151.out _) | exact HI0.out)) hb); have n3_ := Aq (KeepBut.trans (by repeat (first | (with_reducible first | exact HK.out | apply KeepBut.set_ | apply keep_drewN | apply keep_drew | apply keep_alloc | refine keep_far ?_ GW151.out _) | exact HK.out)) (KeepBut.of_below hb g none) (.inl rfl)); have n4_ := Aq (below_step (by repeat (first | (with_reducible first | exact HB.out | apply zB | apply zC | apply zE | refine below_set ?_ (IsS115.ge HI0.out) | refine below_set ?_ GE151.out) | exact HB.out)) hb); clear BK151 HI0 HK HB; have HO167 := n0_; have BK151 := n1_; have HI0 := n2_; have HK := n3_; have HB := n4_; clear n0_ n1_ n2_ n3_ n4_ hb ho19; obtain ⟨Ao20, co20, eo20⟩ := Kd.R_slice HO167.out; subst eo20) | ((with_reducible refine gate_callee (f := 72) rfl ?_); refine goesL_ (some 24) rfl rfl Try.func72 (by kernel_rfl) rfl #[.pointer (some ⟨g, 0, none⟩), .slice Ao20 y165.length co20] rfl (by (try simp only [List.map_toArray, List.map_cons, List.map_nil]); first | done | rfl | (simp only [List.length_drop, List.length_take]; rfl)) ?_; (with_reducible refine (spec_l1Rd_of.calls kj4 g s0_0 t154 _ _ y165 t168 t169 w0 _ ?side1 ?side2 ?side3 ?side4 ?side5 A17.out).mono ?_); (case side1 => repeat (first | (with_reducible first | exact HI0.out | apply IsS115.alloc | apply IsS115.drewN | apply IsS115.drew | apply IsS115.set_1 | refine IsS115.far ?_ NB0_151.out _) | exact HI0.out)); (case side2 => repeat (first | (with_reducible first | exact HB.out | apply zB | apply zC | apply zE | refine below_set ?_ (IsS115.ge HI0.out) | refine below_set ?_ GE151.out) | exact HB.out)); (case side3 => repeat (first | exact (Kd.R_reads' HO167.out).2.2 | (with_reducible refine Kd.C_alloc ?_ _) | (with_reducible refine Kd.C_drewN ?_ _) | (with_reducible refine Kd.C_drew ?_))); (case side4 => exact (Kd.R_reads' HO167.out).2.1); (case side5 => exact far_slice (IsS115.own_ne HI0.out HO167.out (by decide))); rintro e w21 ⟨rfl, hi, hb, hk⟩; refine ⟨_, rfl, ?_⟩; have n0_ := Aq (KeepBut.blk hk (g' := gb151) (o := .cells #[.int .i64 0, .string (⟨#[]⟩ : ByteArray), .slice none 0 0, .int .i64 0, .slice none 0 0] 35 (0, 0)) (by (with_reducible repeat (first | refine zN ?_ _ | refine zD ?_ | refine zA ?_ _)); exact BK151.out) NB151_0.out (by simp)); have n1_ := Aq (Kd.R_mono (Kd.R_keep (IsS115.apart (show IsS115 w0 _ g s0_0 t154 from by repeat (first | (with_reducible first | exact HI0.out | apply IsS115.alloc | apply IsS115.drewN | apply IsS115.drew | apply IsS115.set_1 | refine IsS115.far ?_ NB0_151.out _) | exact HI0.out)) (by (with_reducible repeat (first | apply Kd.R_alloc | apply Kd.R_drewN | apply Kd.R_drew)); exact HO167.out) (by decide)) hk (fun _ h => h.2)) (fun _ h => h.1)); have n2_ := Aq (KeepBut.trans (by repeat (first | (with_reducible first | exact HK.out | apply KeepBut.set_ | apply keep_drewN | apply keep_drew | apply keep_alloc | refine keep_far ?_ GW151.out _) | exact HK.out)) hk (.inl rfl)); have n3_ := Aq (hb); have n4_ := Aq (hi); clear BK151 HO167 HK HB HI0; have BK151 := n0_; have HO167 := n1_; have HK := n2_; have HB := n3_; have HI0 := n4_; clear n0_ n1_ n2_ n3_ n4_; (try clear hb); (try clear hb2); (try clear hk); (try clear hi); have hnb22 := NB151_0.out; have hnc22 := NB0_151.out; have hcz23_0 : w21.cell? ⟨gb151, 0, none⟩ = some (.int .i64 0) := (blk_cell BK151.out 0).trans rfl; have hcz23_1 : w21.cell? ⟨gb151, 1, none⟩ = some (.string (⟨#[]⟩ : ByteArray)) := (blk_cell BK151.out 1).trans rfl; have hcz23_2 : w21.cell? ⟨gb151, 2, none⟩ = some (.slice none 0 0) := (blk_cell BK151.out 2).trans rfl; have hcz23_3 : w21.cell? ⟨gb151, 3, none⟩ = some (.int .i64 0) := (blk_cell BK151.out 3).trans rfl; have hcz23_4 : w21.cell? ⟨gb151, 4, none⟩ = some (.slice none 0 0) := (blk_cell BK151.out 4).trans rfl; have hfz23_0 := blk_frozen BK151.out 0; have hfz23_1 := blk_frozen BK151.out 1; have hfz23_2 := blk_frozen BK151.out 2; have hfz23_3 := blk_frozen BK151.out 3; have hfz23_4 := blk_frozen BK151.out 4))
     refine bodyPost_ret (results_cell_row rfl _ _ gb151 35 #[.int .i64 2, .string t168, .slice none 0 0, .int .i64 0, .slice none 0 0] (0, 0) _ rfl (by (with_reducible repeat (first | refine zN ?_ _ | refine zD ?_ | refine zA ?_ _)); refine blk_put (cs := #[.int .i64 2, .string t168, .slice none 0 0, .int .i64 0, .slice none 0 0]) ?_ 4 _ rfl; (with_reducible repeat (first | refine zN ?_ _ | refine zD ?_ | refine zA ?_ _)); refine blk_put (cs := #[.int .i64 2, .string t168, .slice none 0 0, .int .i64 0, .slice none 0 0]) ?_ 3 _ rfl; (with_reducible repeat (first | refine zN ?_ _ | refine zD ?_ | refine zA ?_ _)); refine blk_put (cs := #[.int .i64 2, .string t168, .slice none 0 0, .int .i64 0, .slice none 0 0]) ?_ 2 _ rfl; (with_reducible repeat (first | refine zN ?_ _ | refine zD ?_ | refine zA ?_ _)); refine blk_put (cs := #[.int .i64 2, .string (⟨#[]⟩ : ByteArray), .slice none 0 0, .int .i64 0, .slice none 0 0]) ?_ 1 _ rfl; (with_reducible repeat (first | refine zN ?_ _ | refine zD ?_ | refine zA ?_ _)); refine blk_put (cs := #[.int .i64 0, .string (⟨#[]⟩ : ByteArray), .slice none 0 0, .int .i64 0, .slice none 0 0]) ?_ 0 _ rfl; (with_reducible repeat (first | refine zN ?_ _ | refine zD ?_ | refine zA ?_ _)); exact BK151.out) Try.underlying35 rfl (by kernel_rfl)) rfl ?_
     exact ⟨_, _, by first | rfl | (simp [errW_none, errW_some] <;> rfl) | (simp [*, errW_none, errW_some] <;> rfl), by first | exact Kd.R_nil _ _ _ _ _ | exact Kd.N_nil _ _ _ _ _ | exact Kd.V_nil _ _ _ _ _ | exact Kd.Q_nil _ _ _ _ _ | exact Kd.S_nil _ _ _ _ _, by first | exact Kd.R_nil _ _ _ _ _ | exact Kd.N_nil _ _ _ _ _ | exact Kd.V_nil _ _ _ _ _ | exact Kd.Q_nil _ _ _ _ _ | exact Kd.S_nil _ _ _ _ _, by repeat (first | (with_reducible first | exact HI0.out | apply IsS115.alloc | apply IsS115.drewN | apply IsS115.drew | apply IsS115.set_1 | refine IsS115.far ?_ NB0_151.out _) | exact HI0.out), by repeat (first | (with_reducible first | exact HB.out | apply zB | apply zC | apply zE | refine below_set ?_ (IsS115.ge HI0.out) | refine below_set ?_ GE151.out) | exact HB.out), by repeat (first | (with_reducible first | exact HK.out | apply KeepBut.set_ | apply keep_drewN | apply keep_drew | apply keep_alloc | refine keep_far ?_ GW151.out _) | exact HK.out)⟩
    ·rw [if_neg c16] at H
     have c16b0 : (t153 == 2) = false := beq_eq_false_iff_ne.mpr c16
     have c16b1 : (t153 != 2) = true := bne_iff_ne.mpr c16
     by_cases c24 : t153 = 3
     ·rw [if_pos c24] at H
      have c24b0 : (t153 == 3) = true := beq_iff_eq.mpr c24
      have c24b1 : (t153 != 3) = false := bne_eq_false_iff_eq.mpr c24
      clear c24
      simp only [Option.some.injEq, Prod.mk.injEq] at H
      obtain ⟨rfl, rfl, rfl, rfl, rfl, rfl⟩ := H
      have hnb25 := NB151_0.out
      have hnc25 := NB0_151.out
      have hcz26_0 : wc.cell? ⟨gb151, 0, none⟩ = some (.int .i64 0) := (blk_cell BK151.out 0).trans rfl
      have hcz26_1 : wc.cell? ⟨gb151, 1, none⟩ = some (.string (⟨#[]⟩ : ByteArray)) := (blk_cell BK151.out 1).trans rfl
      have hcz26_2 : wc.cell? ⟨gb151, 2, none⟩ = some (.slice none 0 0) := (blk_cell BK151.out 2).trans rfl
      have hcz26_3 : wc.cell? ⟨gb151, 3, none⟩ = some (.int .i64 0) := (blk_cell BK151.out 3).trans rfl
      have hcz26_4 : wc.cell? ⟨gb151, 4, none⟩ = some (.slice none 0 0) := (blk_cell BK151.out 4).trans rfl
      have hfz26_0 := blk_frozen BK151.out 0
      have hfz26_1 := blk_frozen BK151.out 1
      have hfz26_2 := blk_frozen BK151.out 2
      have hfz26_3 := blk_frozen BK151.out 3
      have hfz26_4 := blk_frozen BK151.out 4
      go_wp2
      refine bodyPost_ret (results_cell_row rfl _ _ gb151 35 #[.int .i64 3, .string (⟨#[]⟩ : ByteArray), .slice none 0 0, .int .i64 0, .slice none 0 0] (0, 0) _ rfl (by (with_reducible repeat (first | refine zN ?_ _ | refine zD ?_ | refine zA ?_ _)); refine blk_put (cs := #[.int .i64 3, .string (⟨#[]⟩ : ByteArray), .slice none 0 0, .int .i64 0, .slice none 0 0]) ?_ 4 _ rfl; (with_reducible repeat (first | refine zN ?_ _ | refine zD ?_ | refine zA ?_ _)); refine blk_put (cs := #[.int .i64 3, .string (⟨#[]⟩ : ByteArray), .slice none 0 0, .int .i64 0, .slice none 0 0]) ?_ 3 _ rfl; (with_reducible repeat (first | refine zN ?_ _ | refine zD ?_ | refine zA ?_ _)); refine blk_put (cs := #[.int .i64 3, .string (⟨#[]⟩ : ByteArray), .slice none 0 0, .int .i64 0, .slice none 0 0]) ?_ 2 _ rfl; (with_reducible repeat (first | refine zN ?_ _ | refine zD ?_ | refine zA ?_ _)); refine blk_put (cs := #[.int .i64 3, .string (⟨#[]⟩ : ByteArray), .slice none 0 0, .int .i64 0, .slice none 0 0]) ?_ 1 _ rfl; (with_reducible repeat (first | refine zN ?_ _ | refine zD ?_ | refine zA ?_ _)); refine blk_put (cs := #[.int .i64 0, .string (⟨#[]⟩ : ByteArray), .slice none 0 0, .int .i64 0, .slice none 0 0]) ?_ 0 _ rfl; (with_reducible repeat (first | refine zN ?_ _ | refine zD ?_ | refine zA ?_ _)); exact BK151.out) Try.underlying35 rfl (by kernel_rfl)) rfl ?_
      exact ⟨_, _, by first | rfl | (simp [errW_none, errW_some] <;> rfl) | (simp [*, errW_none, errW_some] <;> rfl), by first | exact Kd.R_nil _ _ _ _ _ | exact Kd.N_nil _ _ _ _ _ | exact Kd.V_nil _ _ _ _ _ | exact Kd.Q_nil _ _ _ _ _ | exact Kd.S_nil _ _ _ _ _, by first | exact Kd.R_nil _ _ _ _ _ | exact Kd.N_nil _ _ _ _ _ | exact Kd.V_nil _ _ _ _ _ | exact Kd.Q_nil _ _ _ _ _ | exact Kd.S_nil _ _ _ _ _, by repeat (first | (with_reducible first | exact HI0.out | apply IsS115.alloc | apply IsS115.drewN | apply IsS115.drew | apply IsS115.set_1 | refine IsS115.far ?_ NB0_151.out _) | exact HI0.out), by repeat (first | (with_reducible first | exact HB.out | apply zB | apply zC | apply zE | refine below_set ?_ (IsS115.ge HI0.out) | refine below_set ?_ GE151.out) | exact HB.out), by repeat (first | (with_reducible first | exact HK.out | apply KeepBut.set_ | apply keep_drewN | apply keep_drew | apply keep_alloc | refine keep_far ?_ GW151.out _) | exact HK.out)⟩
     ·rw [if_neg c24] at H
      have c24b0 : (t153 == 3) = false := beq_eq_false_iff_ne.mpr c24
      have c24b1 : (t153 != 3) = true := bne_iff_ne.mpr c24
      by_cases c27 : t153 = 4
      ·rw [if_pos c27] at H
       have c27b0 : (t153 == 4) = true := beq_iff_eq.mpr c27
       have c27b1 : (t153 != 4) = false := bne_eq_false_iff_eq.mpr c27
       clear c27
       replace H := Option.bind_eq_some_iff.mp H
       obtain ⟨⟨t171, t172⟩, A280, H⟩ := H
       replace H : (spec_l8Form.l0 kj4 a1 (wrap64 (1 + t171)) s0_0 t172 4 (⟨#[]⟩ : ByteArray) 0 ([] : List (S35))) = some (r1, r2, r3, r4, r5, r6) := H
       have A28 := Aq A280
       clear A280
       have H' := Aq H
       clear H
       go_wp2_with (first | ((with_reducible refine gate_dst (N := 5) rfl ?_); refine box_event ?hg (N := 5) ?hd (cs := #[.int .i64 0, .string (⟨#[]⟩ : ByteArray), .slice none 0 0, .int .i64 0, .slice none 0 0]) (t := 35) ?hr ?_; (case hd => rfl); (case hg => rfl); (case hr => first | (go_simp; done) | (go_simp; rfl)); intro gb170 hg w29 hbox hb; have n0_ := Aq (blk_below (g := gb151) (o := .cells #[.int .i64 0, .string (⟨#[]⟩ : ByteArray), .slice none 0 0, .int .i64 0, .slice none 0 0] 35 (0, 0)) (by (with_reducible repeat (first | refine zN ?_ _ | refine zD ?_ | refine zA ?_ _)); exact BK151.out) hb); have n1_ := Aq (IsS115.below (by repeat (first | (with_reducible first | exact HI0.out | apply IsS115.alloc | apply IsS115.drewN | apply IsS115.drew | apply IsS115.set_1 | refine IsS115.far ?_ NB0_151.out _) | exact HI0.out)) hb); have n2_ := Aq (KeepBut.trans (by repeat (first | (with_reducible first | exact HK.out | apply KeepBut.set_ | apply keep_drewN | apply keep_drew | apply keep_alloc | refine keep_far ?_ GW151.out _) | exact HK.out)) (KeepBut.of_below hb g none) (.inl rfl)); have n3_ := Aq (below_step (by repeat (first | (with_reducible first | exact HB.out | apply zB | apply zC | apply zE | refine below_set ?_ (IsS115.ge HI0.out) | refine below_set ?_ GE151.out) | exact HB.out)) hb); have n4_ := Aq (hbox); have n5_ := Aq ((by rw [hg]; exact (keep_size (w := w) (g := g) (row := none) (by repeat (first | (with_reducible first | exact HK.out | apply KeepBut.set_ | apply keep_drewN | apply keep_drew | apply keep_alloc | refine keep_far ?_ GW151.out _) | exact HK.out))) : w.heap.size ≤ gb170)); have n6_ := Aq ((Nat.le_trans HW0.out (by rw [hg]; exact (keep_size (w := w) (g := g) (row := none) (by repeat (first | (with_reducible first | exact HK.out | apply KeepBut.set_ | apply keep_drewN | apply keep_drew | apply keep_alloc | refine keep_far ?_ GW151.out _) | exact HK.out))) : w.heap.size ≤ gb170) : w0.heap.size ≤ gb170)); have n7_ := Aq ((by rw [hg]; exact Nat.ne_of_lt (blk_lt (g := gb151) (o := .cells #[.int .i64 0, .string (⟨#[]⟩ : ByteArray), .slice none 0 0, .int .i64 0, .slice none 0 0] 35 (0, 0)) (by (with_reducible repeat (first | refine zN ?_ _ | refine zD ?_ | refine zA ?_ _)); exact BK151.out)) : gb151 ≠ gb170)); have n8_ := Aq ((by rw [hg]; exact Nat.ne_of_gt (blk_lt (g := gb151) (o := .cells #[.int .i64 0, .string (⟨#[]⟩ : ByteArray), .slice none 0 0, .int .i64 0, .slice none 0 0] 35 (0, 0)) (by (with_reducible repeat (first | refine zN ?_ _ | refine zD ?_ | refine zA ?_ _)); exact BK151.out)) : gb170 ≠ gb151)); have n9_ := Aq ((by rw [hg]; exact Nat.ne_of_lt (IsS115.lt (show IsS115 w0 _ g s0_0 t154 from by repeat (first | (with_reducible first | exact HI0.out | apply IsS115.alloc | apply IsS115.drewN | apply IsS115.drew | apply IsS115.set_1 | refine IsS115.far ?_ NB0_151.out _) | exact HI0.out))) : g ≠ gb170)); have n10_ := Aq ((by rw [hg]; exact Nat.ne_of_gt (IsS115.lt (show IsS115 w0 _ g s0_0 t154 from by repeat (first | (with_reducible first | exact HI0.out | apply IsS115.alloc | apply IsS115.drewN | apply IsS115.drew | apply IsS115.set_1 | refine IsS115.far ?_ NB0_151.out _) | exact HI0.out))) : gb170 ≠ g)); clear BK151 HI0 HK HB; have BK151 := n0_; have HI0 := n1_; have HK := n2_; have HB := n3_; have BK170 := n4_; have GW170 := n5_; have GE170 := n6_; have NB151_170 := n7_; have NB170_151 := n8_; have NB0_170 := n9_; have NB170_0 := n10_; clear n0_ n1_ n2_ n3_ n4_ n5_ n6_ n7_ n8_ n9_ n10_ hb hbox hg; have hnb30 := NB170_151.out; have hnc30 := NB151_170.out; have hnb31 := NB170_0.out; have hnc31 := NB0_170.out; have hcz32_0 : w29.cell? ⟨gb170, 0, none⟩ = some (.int .i64 0) := (blk_cell BK170.out 0).trans rfl; have hcz32_1 : w29.cell? ⟨gb170, 1, none⟩ = some (.string (⟨#[]⟩ : ByteArray)) := (blk_cell BK170.out 1).trans rfl; have hcz32_2 : w29.cell? ⟨gb170, 2, none⟩ = some (.slice none 0 0) := (blk_cell BK170.out 2).trans rfl; have hcz32_3 : w29.cell? ⟨gb170, 3, none⟩ = some (.int .i64 0) := (blk_cell BK170.out 3).trans rfl; have hcz32_4 : w29.cell? ⟨gb170, 4, none⟩ = some (.slice none 0 0) := (blk_cell BK170.out 4).trans rfl; have hfz32_0 := blk_frozen BK170.out 0; have hfz32_1 := blk_frozen BK170.out 1; have hfz32_2 := blk_frozen BK170.out 2; have hfz32_3 := blk_frozen BK170.out 3; have hfz32_4 := blk_frozen BK170.out 4) | ((with_reducible refine gate_callee (f := 47) rfl ?_); refine goesL_ (some 33) rfl rfl Try.func47 (by kernel_rfl) rfl #[.pointer (some ⟨g, 0, none⟩), .int .i64 2] rfl (by (try simp only [List.map_toArray, List.map_cons, List.map_nil]); first | done | rfl | (simp only [List.length_drop, List.length_take]; rfl)) ?_; (with_reducible refine (spec_l1Rd_pick.calls kj4 g s0_0 t154 2 t171 t172 w0 _ ?side1 ?side2 A28.out).mono ?_); (case side1 => repeat (first | (with_reducible first | exact HI0.out | apply IsS115.alloc | apply IsS115.drewN | apply IsS115.drew | apply IsS115.set_1 | refine IsS115.far ?_ NB0_151.out _ | refine IsS115.far ?_ NB0_170.out _) | exact HI0.out)); (case side2 => repeat (first | (with_reducible first | exact HB.out | apply zB | apply zC | apply zE | refine below_set ?_ (IsS115.ge HI0.out) | refine below_set ?_ GE151.out | refine below_set ?_ GE170.out) | exact HB.out)); rintro e w33 ⟨rfl, hi, hb, hk⟩; refine ⟨_, rfl, ?_⟩; have n0_ := Aq (KeepBut.blk hk (g' := gb151) (o := .cells #[.int .i64 0, .string (⟨#[]⟩ : ByteArray), .slice none 0 0, .int .i64 0, .slice none 0 0] 35 (0, 0)) (by (with_reducible repeat (first | refine zN ?_ _ | refine zD ?_ | refine zA ?_ _)); refine blk_far ?_ NB151_170.out _; (with_reducible repeat (first | refine zN ?_ _ | refine zD ?_ | refine zA ?_ _)); refine blk_far ?_ NB151_170.out _; (with_reducible repeat (first | refine zN ?_ _ | refine zD ?_ | refine zA ?_ _)); refine blk_far ?_ NB151_170.out _; (with_reducible repeat (first | refine zN ?_ _ | refine zD ?_ | refine zA ?_ _)); refine blk_far ?_ NB151_170.out _; (with_reducible repeat (first | refine zN ?_ _ | refine zD ?_ | refine zA ?_ _)); refine blk_far ?_ NB151_170.out _; (with_reducible repeat (first | refine zN ?_ _ | refine zD ?_ | refine zA ?_ _)); exact BK151.out) NB151_0.out (by simp)); have n1_ := Aq (KeepBut.blk hk (g' := gb170) (o := .cells #[.int .i64 4, .string (⟨#[]⟩ : ByteArray), .slice none 0 0, .int .i64 0, .slice none 0 0] 35 (0, 0)) (by (with_reducible repeat (first | refine zN ?_ _ | refine zD ?_ | refine zA ?_ _)); refine blk_put (cs := #[.int .i64 4, .string (⟨#[]⟩ : ByteArray), .slice none 0 0, .int .i64 0, .slice none 0 0]) ?_ 4 _ rfl; (with_reducible repeat (first | refine zN ?_ _ | refine zD ?_ | refine zA ?_ _)); refine blk_put (cs := #[.int .i64 4, .string (⟨#[]⟩ : ByteArray), .slice none 0 0, .int .i64 0, .slice none 0 0]) ?_ 3 _ rfl; (with_reducible repeat (first | refine zN ?_ _ | refine zD ?_ | refine zA ?_ _)); refine blk_put (cs := #[.int .i64 4, .string (⟨#[]⟩ : ByteArray), .slice none 0 0, .int .i64 0, .slice none 0 0]) ?_ 2 _ rfl; (with_reducible repeat (first | refine zN ?_ _ | refine zD ?_ | refine zA ?_ _)); refine blk_put (cs := #[.int .i64 4, .string (⟨#[]⟩ : ByteArray), .slice none 0 0, .int .i64 0, .slice none 0 0]) ?_ 1 _ rfl; (with_reducible repeat (first | refine zN ?_ _ | refine zD ?_ | refine zA ?_ _)); refine blk_put (cs := #[.int .i64 0, .string (⟨#[]⟩ : ByteArray), .slice none 0 0, .int .i64 0, .slice none 0 0]) ?_ 0 _ rfl; (with_reducible repeat (first | refine zN ?_ _ | refine zD ?_ | refine zA ?_ _)); exact BK170.out) NB170_0.out (by simp)); have n2_ := Aq (KeepBut.trans (by repeat (first | (with_reducible first | exact HK.out | apply KeepBut.set_ | apply keep_drewN | apply keep_drew | apply keep_alloc | refine keep_far ?_ GW151.out _ | refine keep_far ?_ GW170.out _) | exact HK.out)) hk (.inl rfl)); have n3_ := Aq (hb); have n4_ := Aq (hi); clear BK151 BK170 HK HB HI0; have BK151 := n0_; have BK170 := n1_; have HK := n2_; have HB := n3_; have HI0 := n4_; clear n0_ n1_ n2_ n3_ n4_; (try clear hb); (try clear hb2); (try clear hk); (try clear hi)))
       go_loopg [6] kj4 (fun kq v6 w' => ∃ (x6_2 : Int) (x1001_2 : Int) (x171004_2 : List (S35)) (u171004 : Value), v6 = .int .i64 x6_2 ∧ Aside0 (spec_l8Form.l0 kq a1 x6_2 s0_0 x1001_2 4 (⟨#[]⟩ : ByteArray) 0 x171004_2 = some (r1, r2, r3, r4, r5, r6)) ∧ Aside0 (kq ≤ kj4) ∧ Aside0 (Kd.R k35 35 w' w.heap.size (fun k_ => k_ ≠ gb151 ∧ k_ ≠ gb170) u171004 x171004_2) ∧ Aside0 (w'.heap[gb151]? = some (.cells #[.int .i64 0, .string (⟨#[]⟩ : ByteArray), (.slice none 0 0), .int .i64 0, (.slice none 0 0)] 35 (0, 0))) ∧ Aside0 (w'.heap[gb170]? = some (.cells #[.int .i64 4, .string (⟨#[]⟩ : ByteArray), (.slice none 0 0), .int .i64 0, u171004] 35 (0, 0))) ∧ Aside0 (IsS115 w0 w' g s0_0 x1001_2) ∧ Aside0 (KeepBut w w' g none) ∧ Aside0 (Below w0.heap.size w0 w'))
       case atStart => exact ⟨(wrap64 (1 + t171)), (t172), (([] : List (S35))), (.slice none 0 0), (by first | rfl | (simp; done) | (simp [*]; done)), H', ⟨Nat.le_refl _⟩, ⟨by first | exact Kd.R_nil _ _ _ _ _ | exact Kd.N_nil _ _ _ _ _ | exact Kd.V_nil _ _ _ _ _ | exact Kd.Q_nil _ _ _ _ _ | exact Kd.S_nil _ _ _ _ _⟩, ⟨by (with_reducible repeat (first | refine zN ?_ _ | refine zD ?_ | refine zA ?_ _)); exact BK151.out⟩, ⟨by (with_reducible repeat (first | refine zN ?_ _ | refine zD ?_ | refine zA ?_ _)); exact BK170.out⟩, ⟨by repeat (first | (with_reducible first | exact HI0.out | apply IsS115.alloc | apply IsS115.drewN | apply IsS115.drew | apply IsS115.set_1 | refine IsS115.far ?_ NB0_151.out _ | refine IsS115.far ?_ NB0_170.out _) | exact HI0.out)⟩, ⟨by repeat (first | (with_reducible first | exact HK.out | apply KeepBut.set_ | apply keep_drewN | apply keep_drew | apply keep_alloc | refine keep_far ?_ GW151.out _ | refine keep_far ?_ GW170.out _) | exact HK.out)⟩, ⟨by repeat (first | (with_reducible first | exact HB.out | apply zB | apply zC | apply zE | refine below_set ?_ (IsS115.ge HI0.out) | refine below_set ?_ GE151.out | refine below_set ?_ GE170.out) | exact HB.out)⟩⟩
       case round =>
        clear H'
        try clear c1
        try clear c2
        try clear p2
        try clear c3
        try clear c4
        try clear p6
        try clear c7
        try clear c8
        try clear c8b0
        try clear c8b1
        try clear c9
        try clear c12
        try clear c16
        try clear c16b0
        try clear c16b1
        try clear c22
        try clear c24
        try clear c24b0
        try clear c24b1
        try clear c25
        try clear c27
        try clear c27b0
        try clear c27b1
        try clear c30
        try clear c31
        try clear hcz13_0
        try clear hcz13_1
        try clear hcz13_2
        try clear hcz13_3
        try clear hcz13_4
        try clear hcz23_0
        try clear hcz23_1
        try clear hcz23_2
        try clear hcz23_3
        try clear hcz23_4
        try clear hcz26_0
        try clear hcz26_1
        try clear hcz26_2
        try clear hcz26_3
        try clear hcz26_4
        try clear hcz32_0
        try clear hcz32_1
        try clear hcz32_2
        try clear hcz32_3
        try clear hcz32_4
        try clear hfz13_0
        try clear hfz13_1
        try clear hfz13_2
        try clear hfz13_3
        try clear hfz13_4
        try clear hfz23_0
        try clear hfz23_1
        try clear hfz23_2
        try clear hfz23_3
        try clear hfz23_4
        try clear hfz26_0
        try clear hfz26_1
        try clear hfz26_2
        try clear hfz26_3
        try clear hfz26_4
        try clear hfz32_0
        try clear hfz32_1
        try clear hfz32_2
        try clear hfz32_3
        try clear hfz32_4
        try clear p2
        try clear p6
        obtain ⟨x6_2, x1001_2, x171004_2, u171004, rfl, HA, HK2, HO_171004, BK151, BK170, HI0, HK, HB⟩ := hrel
        cases gk with
        | zero => exact absurd HA.out (by simp [spec_l8Form.l0])
        | succ k2 =>
         have H := HA.out
         clear HA
         simp only [spec_l8Form.l0] at H
         by_cases c34 : x6_2 > 0
         ·rw [if_pos c34] at H
          have c34b0 : decide (0 < x6_2) = true := decide_eq_true c34
          clear c34
          replace H := Option.bind_eq_some_iff.mp H
          obtain ⟨⟨t173, t174, t175, t178, t179, t182⟩, A350, H⟩ := H
          replace H : (if x171004_2.length < 1759218604441 then (spec_l8Form.l0 k2 a1 (wrap64 (x6_2 - 1)) s0_0 t182 4 (⟨#[]⟩ : ByteArray) 0 (x171004_2 ++ [(⟨t173, t174, t175, t178, t179⟩ : S35)])) else (none)) = some (r1, r2, r3, r4, r5, r6) := H
          have A35 := Aq A350
          clear A350
          by_cases c36 : x171004_2.length < 1759218604441
          ·rw [if_pos c36] at H
           have LMc36 := Aq c36
           clear c36
           obtain ⟨y183, hy183⟩ : ∃ y_ : List (S35), y_ = (x171004_2 ++ [(⟨t173, t174, t175, t178, t179⟩ : S35)]) := ⟨_, rfl⟩
           replace H : (spec_l8Form.l0 k2 a1 (wrap64 (x6_2 - 1)) s0_0 t182 4 (⟨#[]⟩ : ByteArray) 0 y183) = some (r1, r2, r3, r4, r5, r6) := by first | (rw [hy183]; with_reducible exact H) | (have H2_ := (Option.bind_some _ _).symm.trans H; rw [hy183]; with_reducible exact H2_) | (have H2_ := (Option.bind_some _ _).symm.trans H; with_reducible exact H2_) | with_reducible exact H | (rw [hy183]; exact H) | exact H
           have Ny183 := Aq hy183
           clear hy183
           have H' := Aq H
           clear H
           try go_wp2
           have n0_ := Aq (Kd.R_drew HO_171004.out)
           have n1_ := Aq (zD BK151.out)
           have n2_ := Aq (zD BK170.out)
           have n3_ := Aq (IsS115.drew HI0.out)
           have n4_ := Aq (keep_drew HK.out)
           have n5_ := Aq (zE HB.out)
           clear HO_171004 BK151 BK170 HI0 HK HB
           have HO_171004 := n0_
           have BK151 := n1_
           have BK170 := n2_
           have HI0 := n3_
           have HK := n4_
           have HB := n5_
           clear n0_ n1_ n2_ n3_ n4_ n5_
           refine start_ (n := 10) (S := fun w' => w'.cell? ⟨gb170, 0, none⟩ = some (.int .i64 4) ∧ w'.cell? ⟨gb170, 1, none⟩ = some (.string (⟨#[]⟩ : ByteArray)) ∧ w'.cell? ⟨gb170, 2, none⟩ = some (.slice none 0 0) ∧ w'.cell? ⟨gb170, 3, none⟩ = some (.int .i64 0) ∧ w'.cell? ⟨gb170, 4, none⟩ = some (u171004)) (ds := [9]) #[false, false, false, false, false, false, false, false, false, false] (by kernel_rfl) rfl rfl ⟨(blk_cell BK170.out 0).trans rfl, (blk_cell BK170.out 1).trans rfl, (blk_cell BK170.out 2).trans rfl, (blk_cell BK170.out 3).trans rfl, (blk_cell BK170.out 4).trans rfl⟩ (fun hHeld => ?_); refine with_tabW spec_l8Form.tab14 spec_l8Form.bits14 (fun HT_ HW_ => ?_)
           generalize wr.drew = w37 at HO_171004 BK151 BK170 HI0 HK HB hHeld ⊢
           refine pure_ (i := 0) (N := some 39) (v := ?_) (a' := ?_) #[true, false, false, false, false, false, false, false, false, false] rfl rfl (any_of HT_.out (by kernel_rfl)) (fun _ _ _ h => h) (Or.inl ⟨by rfl, ?_⟩) ?_ ?_
           rotate_left
           ·intro w'
            go_simp
            with_reducible rfl
           rotate_left
           ·simp only [Act.put, sA, sB, sC, i64_w, i32_w]
            rfl
           refine pure_ (i := 2) (N := some 41) (v := ?_) (a' := ?_) #[true, false, true, false, false, false, false, false, false, false] rfl rfl (any_of HT_.out (by kernel_rfl)) (fun _ _ _ h => h) (Or.inl ⟨by rfl, ?_⟩) ?_ ?_
           rotate_left
           ·intro w'
            go_simp
            with_reducible rfl
           rotate_left
           ·simp only [Act.put, sA, sB, sC, i64_w, i32_w]
            rfl
           refine pure_ (i := 3) (N := some 42) (v := ?_) (a' := ?_) #[true, false, true, true, false, false, false, false, false, false] rfl rfl (any_of HT_.out (by kernel_rfl)) (fun _ _ _ h => h) (Or.inl ⟨by rfl, ?_⟩) ?_ ?_
           rotate_left
           ·intro w'
            go_simp
            with_reducible rfl
           rotate_left
           ·simp only [Act.put, sA, sB, sC, i64_w, i32_w]
            rfl
           refine pure_ (i := 4) (N := some 43) (v := ?_) (a' := ?_) #[true, false, true, true, true, false, false, false, false, false] rfl rfl (any_of HT_.out (by kernel_rfl)) (fun _ _ _ h => h) (Or.inl ⟨by rfl, ?_⟩) ?_ ?_
           rotate_left
           ·intro w'
            go_simp
            with_reducible rfl
           rotate_left
           ·simp only [Act.put, sA, sB, sC, i64_w, i32_w]
            rfl
           refine take_ (i := 1) (N := some 40) (v := ?_) (a' := ?_) #[true, true, true, true, true, false, false, false, false, false] rfl rfl (take_ofW HT_.out HW_.out (by kernel_rfl)) (fun _ _ _ h => h) (Or.inl ⟨by rfl, ?_⟩) hHeld ?_ ?_
           rotate_left
           ·rintro w' ⟨s0, s1, s2, s3, s4⟩
            go_simp
            with_reducible rfl
           rotate_left
           ·simp only [Act.put, sA, sB, sC, i64_w, i32_w]
            rfl
           refine one_ (i := 5) (N := some 44) #[true, true, true, true, true, true, false, false, false, false] rfl rfl (one_of HT_.out (by kernel_rfl)) (by decide) (fun K hK => ?_)
           refine goes_ Try.func80 (by kernel_rfl) rfl #[.pointer (some ⟨g, 0, none⟩), .int .i64 (wrap64 (a1 - 1))] (by rfl) rfl rfl (by (try simp only [List.map_toArray, List.map_cons, List.map_nil]); first | done | rfl | (simp only [List.length_drop, List.length_take]; rfl)) ?_
           with_reducible refine (ih k2 (by have := HJ4.out; have := HK2.out; omega) g s0_0 x1001_2 (wrap64 (a1 - 1)) t173 t174 t175 t178 t179 t182 w0 _ ?side1 ?side2 A35.out).mono ?_
           (case side1 => repeat (first | (with_reducible first | exact HI0.out | apply IsS115.alloc | apply IsS115.drewN | apply IsS115.drew | apply IsS115.set_1 | refine IsS115.far ?_ NB0_151.out _ | refine IsS115.far ?_ NB0_170.out _) | exact HI0.out))
           (case side2 => repeat (first | (with_reducible first | exact HB.out | apply zB | apply zC | apply zE | refine below_set ?_ (IsS115.ge HI0.out) | refine below_set ?_ GE151.out | refine below_set ?_ GE170.out) | exact HB.out))
           rintro e w38 ⟨v176, v180, rfl, ho0, ho1, hi, hb, hk⟩
           refine ⟨_, rfl, ?_⟩
           have n0_ := Aq (Kd.R_mono (Kd.R_told (Kd.R_told (Kd.R_oldK (IsS115.apart (show IsS115 w0 _ g s0_0 x1001_2 from by repeat (first | (with_reducible first | exact HI0.out | apply IsS115.alloc | apply IsS115.drewN | apply IsS115.drew | apply IsS115.set_1 | refine IsS115.far ?_ NB0_151.out _ | refine IsS115.far ?_ NB0_170.out _) | exact HI0.out)) (by (with_reducible repeat (first | apply Kd.R_alloc | apply Kd.R_drewN | apply Kd.R_drew)); exact HO_171004.out) (by decide)) hk) (Kd.R_base ho0)) (Kd.R_base ho1)) (fun _ h_ => h_.1))
           have n1_ := Aq (KeepBut.blk hk (g' := gb151) (o := .cells #[.int .i64 0, .string (⟨#[]⟩ : ByteArray), .slice none 0 0, .int .i64 0, .slice none 0 0] 35 (0, 0)) (by (with_reducible repeat (first | refine zN ?_ _ | refine zD ?_ | refine zA ?_ _)); exact BK151.out) NB151_0.out (by simp))
           have n2_ := Aq (KeepBut.blk hk (g' := gb170) (o := .cells #[.int .i64 4, .string (⟨#[]⟩ : ByteArray), .slice none 0 0, .int .i64 0, u171004] 35 (0, 0)) (by (with_reducible repeat (first | refine zN ?_ _ | refine zD ?_ | refine zA ?_ _)); exact BK170.out) NB170_0.out (by simp))
           have n3_ := Aq (Kd.R_lower ho0 (keep_size (w := w) (g := g) (row := none) (by repeat (first | (with_reducible first | exact HK.out | apply KeepBut.set_ | apply keep_drewN | apply keep_drew | apply keep_alloc | refine keep_far ?_ GW151.out _ | refine keep_far ?_ GW170.out _) | exact HK.out))))
           have n4_ := Aq (Kd.R_lower (Kd.R_newB (Kd.R_newB (Kd.R_new' ho1 (Kd.R_lt (by (with_reducible repeat (first | apply Kd.R_alloc | apply Kd.R_drewN | apply Kd.R_drew)); exact HO_171004.out))) (g := gb151) (o := .cells #[.int .i64 0, .string (⟨#[]⟩ : ByteArray), .slice none 0 0, .int .i64 0, .slice none 0 0] 35 (0, 0)) (by (with_reducible repeat (first | refine zN ?_ _ | refine zD ?_ | refine zA ?_ _)); exact BK151.out)) (g := gb170) (o := .cells #[.int .i64 4, .string (⟨#[]⟩ : ByteArray), .slice none 0 0, .int .i64 0, u171004] 35 (0, 0)) (by (with_reducible repeat (first | refine zN ?_ _ | refine zD ?_ | refine zA ?_ _)); exact BK170.out)) (keep_size (w := w) (g := g) (row := none) (by repeat (first | (with_reducible first | exact HK.out | apply KeepBut.set_ | apply keep_drewN | apply keep_drew | apply keep_alloc | refine keep_far ?_ GW151.out _ | refine keep_far ?_ GW170.out _) | exact HK.out))))
           have n5_ := Aq (KeepBut.trans (by repeat (first | (with_reducible first | exact HK.out | apply KeepBut.set_ | apply keep_drewN | apply keep_drew | apply keep_alloc | refine keep_far ?_ GW151.out _ | refine keep_far ?_ GW170.out _) | exact HK.out)) hk (.inl rfl))
           have n6_ := Aq (hb)
           have n7_ := Aq (hi)
           clear HO_171004 BK151 BK170 HK HB HI0
           have HO_171004 := n0_
           have BK151 := n1_
           have BK170 := n2_
           have HO177 := n3_
           have HO181 := n4_
           have HK := n5_
           have HB := n6_
           have HI0 := n7_
           clear n0_ n1_ n2_ n3_ n4_ n5_ n6_ n7_
           (try clear hb)
           (try clear hb2)
           (try clear hk)
           (try clear hi)
           (try clear ho0)
           (try clear ho1)
           obtain ⟨Ao40, co40, eo40⟩ := Kd.R_slice HO177.out
           (first | subst eo40 | (injection eo40 with f1_ f2_ f3_; have f4_ := f1_.symm; have f5_ := f3_.symm; clear f1_ f2_ f3_; subst f4_; subst f5_))
           obtain ⟨Ao41, co41, eo41⟩ := Kd.R_slice HO181.out
           (first | subst eo41 | (injection eo41 with f1_ f2_ f3_; have f4_ := f1_.symm; have f5_ := f3_.symm; clear f1_ f2_ f3_; subst f4_; subst f5_))
           refine hK.out _ _ ⟨(blk_cell BK170.out 0).trans rfl, (blk_cell BK170.out 1).trans rfl, (blk_cell BK170.out 2).trans rfl, (blk_cell BK170.out 3).trans rfl, (blk_cell BK170.out 4).trans rfl⟩ (fun hHeld => ?_)
           clear hK K
           refine norm_ (a' := ?_) ?_ ?_
           rotate_left
           ·show Act.put _ (some 44) _ = _
            simp only [Act.put, sA, sB, sC, i64_w, i32_w]
            rfl
           refine one_ (i := 6) (N := some 45) #[true, true, true, true, true, true, true, false, false, false] rfl rfl (one_of HT_.out (by kernel_rfl)) (by decide) (fun K hK => ?_)
           refine value_ (w1 := ?_) (v := ?_) (by rfl) rfl ?_ ?_
           rotate_left 2
           ·go_simp
            constructor
            ·rfl
            ·rfl
           refine hK.out _ _ ⟨(blk_cell (zA BK170.out _) 0).trans rfl, (blk_cell (zA BK170.out _) 1).trans rfl, (blk_cell (zA BK170.out _) 2).trans rfl, (blk_cell (zA BK170.out _) 3).trans rfl, (blk_cell (zA BK170.out _) 4).trans rfl⟩ (fun hHeld => ?_)
           clear hK K
           refine norm_ (a' := ?_) ?_ ?_
           rotate_left
           ·show Act.put _ (some 45) _ = _
            simp only [Act.put, sA, sB, sC, i64_w, i32_w]
            rfl
           refine one_ (i := 7) (N := some 46) #[true, true, true, true, true, true, true, true, false, false] rfl rfl (one_of HT_.out (by kernel_rfl)) (by decide) (fun K hK => ?_)
           refine Kd.R_append_step k35 w.heap.size (by rfl) (.tmp 40) (.tmp 45) 33 35 (.agg #[(.int .i64 0), (.string ⟨#[]⟩), (.slice none 0 0), (.int .i64 0), (.slice none 0 0)]) 80 rfl Try.underlying33 info35 rfl (by decide) (by omega) u171004 x171004_2 (⟨t173, t174, t175, t178, t179⟩ : S35) [.int .i64 t173, .string t174, .slice Ao40 t175.length co40, .int .i64 t178, .slice Ao41 t179.length co41] (fun k_ => k_ ≠ gb151 ∧ k_ ≠ gb170) (fun k_ => ((fun k_ => k_ ≠ gb151 ∧ k_ ≠ gb170)) k_ ∧ some k_ ≠ (u171004 : Value).ownBlock) rfl rfl ?aP (fun _ hk => hk) ?aF ?aO (Below.refl _ _) ?aS ?aL ?_
           (case aP => exact k35_mkM _ _ _ (⟨t173, t174, t175, t178, t179⟩ : S35) (Kd.R_mono (Kd.R_types (Kd.R_types (Kd.R_apart' (HO177.out) (Kd.R_typed HO_171004.out) (by decide)) BK151.out (by decide)) BK170.out (by decide)) (fun k_ hk => ⟨⟨hk.1.2, hk.2⟩, hk.1.1.2⟩)) (Kd.R_mono (HO181.out) (fun k_ hk => ⟨⟨hk.1.2, hk.2⟩, hk.1.1.2⟩)))
           (case aF => exact (fun k_ hk => ⟨Kd.freshB (g := gb151) (o := .cells #[.int .i64 0, .string (⟨#[]⟩ : ByteArray), .slice none 0 0, .int .i64 0, .slice none 0 0] 35 (0, 0)) (by (with_reducible repeat (first | refine zN ?_ _ | refine zD ?_ | refine zA ?_ _)); exact BK151.out) k_ hk, Kd.freshB (g := gb170) (o := .cells #[.int .i64 4, .string (⟨#[]⟩ : ByteArray), .slice none 0 0, .int .i64 0, u171004] 35 (0, 0)) (by (with_reducible repeat (first | refine zN ?_ _ | refine zD ?_ | refine zA ?_ _)); exact BK170.out) k_ hk⟩))
           (case aO => exact (by (with_reducible repeat (first | apply Kd.R_alloc | apply Kd.R_drewN | apply Kd.R_drew)); exact Kd.R_mono HO_171004.out (fun _ hk => ⟨hk.1.1.1, hk.1.1.2⟩)))
           (case aS => exact (keep_size (w := w) (g := g) (row := none) (by repeat (first | (with_reducible first | exact HK.out | apply KeepBut.set_ | apply keep_drewN | apply keep_drew | apply keep_alloc | refine keep_far ?_ GW151.out _ | refine keep_far ?_ GW170.out _) | exact HK.out))))
           (case aL => have := LMc36.out; omega)
           intro v184 w39 ho hb hg hat
           rw [← Ny183.out] at ho
           have n0_ := Aq (blk_grown (g := gb151) (o := .cells #[.int .i64 0, .string (⟨#[]⟩ : ByteArray), .slice none 0 0, .int .i64 0, .slice none 0 0] 35 (0, 0)) (by (with_reducible repeat (first | refine zN ?_ _ | refine zD ?_ | refine zA ?_ _)); exact BK151.out) hg (Kd.R_away HO_171004.out (fun _ hk => hk.1.1.1)))
           have n1_ := Aq (blk_grown (g := gb170) (o := .cells #[.int .i64 4, .string (⟨#[]⟩ : ByteArray), .slice none 0 0, .int .i64 0, u171004] 35 (0, 0)) (by (with_reducible repeat (first | refine zN ?_ _ | refine zD ?_ | refine zA ?_ _)); exact BK170.out) hg (Kd.R_away HO_171004.out (fun _ hk => hk.1.1.2)))
           have n2_ := Aq (IsS115.grown (by repeat (first | (with_reducible first | exact HI0.out | apply IsS115.alloc | apply IsS115.drewN | apply IsS115.drew | apply IsS115.set_1 | refine IsS115.far ?_ NB0_151.out _ | refine IsS115.far ?_ NB0_170.out _) | exact HI0.out)) hg (IsS115.own_ne HI0.out HO_171004.out (by decide)))
           have n3_ := Aq (below_weaken (by repeat (first | (with_reducible first | exact HB.out | apply zB | apply zC | apply zE | refine below_set ?_ (IsS115.ge HI0.out) | refine below_set ?_ GE151.out | refine below_set ?_ GE170.out) | exact HB.out)) HL.out hb)
           have n4_ := Aq (KeepBut.trans (by repeat (first | (with_reducible first | exact HK.out | apply KeepBut.set_ | apply keep_drewN | apply keep_drew | apply keep_alloc | refine keep_far ?_ GW151.out _ | refine keep_far ?_ GW170.out _) | exact HK.out)) (KeepBut.of_grown hg g) (Kd.R_base2 HO_171004.out))
           have n5_ := Aq (ho)
           clear BK151 BK170 HI0 HB HK HO_171004 HO177 HO181
           have BK151 := n0_
           have BK170 := n1_
           have HI0 := n2_
           have HB := n3_
           have HK := n4_
           have HO185 := n5_
           clear n0_ n1_ n2_ n3_ n4_ n5_ ho hb hg hat
           obtain ⟨Ao42, co42, eo42⟩ := Kd.R_slice HO185.out
           (first | subst eo42 | (injection eo42 with f1_ f2_ f3_; have f4_ := f1_.symm; have f5_ := f3_.symm; clear f1_ f2_ f3_; subst f4_; subst f5_))
           refine hK.out _ _ ⟨(blk_cell BK170.out 0).trans rfl, (blk_cell BK170.out 1).trans rfl, (blk_cell BK170.out 2).trans rfl, (blk_cell BK170.out 3).trans rfl, (blk_cell BK170.out 4).trans rfl⟩ (fun hHeld => ?_)
           clear hK K
           refine norm_ (a' := ?_) ?_ ?_
           rotate_left
           ·show Act.put _ (some 46) _ = _
            simp only [Act.put, sA, sB, sC, i64_w, i32_w]
            rfl
           refine pure_ (i := 8) (N := some 47) (v := ?_) (a' := ?_) #[true, true, true, true, true, true, true, true, true, false] rfl rfl (any_of HT_.out (by kernel_rfl)) (fun _ _ _ h => h) (Or.inl ⟨by rfl, ?_⟩) ?_ ?_
           rotate_left
           ·intro w'
            go_simp
            with_reducible rfl
           rotate_left
           ·simp only [Act.put, sA, sB, sC, i64_w, i32_w]
            rfl
           refine last_ (i := 9) (N := none) #[true, true, true, true, true, true, true, true, true, true] rfl rfl (one_of HT_.out (by kernel_rfl)) (by decide) (fun K hK => ?_)
           have hs43 : w39.cell? ⟨gb170, 4, none⟩ = some (u171004) := (blk_cell BK170.out 4).trans rfl
           have hfs43 := blk_frozen BK170.out 4
           have hns43_0 := NB151_170.out
           have hms43_0 := NB170_151.out
           refine skip_ (w1 := ?_) (by rfl) rfl ?_ ?_
           rotate_left
           ·go_simp
            rfl
           refine hK.out _ _ ?_
           clear hK K
           refine done_ (done_of HT_.out (by kernel_rfl)) ?_
           try go_wp2
           go_roundg k2
           case measure => have := HJ4.out; have := HK2.out; omega
           case rel => exact ⟨(wrap64 (x6_2 - 1)), (t182), (y183), (.slice Ao42 y183.length co42), (by first | rfl | (simp; done) | (simp [*]; done)), H', ⟨by have := HJ4.out; have := HK2.out; omega⟩, ⟨by (with_reducible repeat (first | apply Kd.R_alloc | apply Kd.R_drewN | apply Kd.R_drew)); exact Kd.R_mono (Kd.R_far (p := ⟨gb170, 4, none⟩) (Kd.R_mono HO185.out (fun k_ hk => (⟨hk, hk.2⟩ : _ ∧ k_ ≠ gb170))) (fun _ hk => hk.2) (.slice Ao42 y183.length co42)) (fun _ hk => ⟨hk.1.1, hk.1.2⟩)⟩, ⟨by (with_reducible repeat (first | refine zN ?_ _ | refine zD ?_ | refine zA ?_ _)); refine blk_far ?_ NB151_170.out _; (with_reducible repeat (first | refine zN ?_ _ | refine zD ?_ | refine zA ?_ _)); exact BK151.out⟩, ⟨by (with_reducible repeat (first | refine zN ?_ _ | refine zD ?_ | refine zA ?_ _)); refine blk_put (cs := #[.int .i64 4, .string (⟨#[]⟩ : ByteArray), .slice none 0 0, .int .i64 0, u171004]) ?_ 4 _ rfl; (with_reducible repeat (first | refine zN ?_ _ | refine zD ?_ | refine zA ?_ _)); exact BK170.out⟩, ⟨by repeat (first | (with_reducible first | exact HI0.out | apply IsS115.alloc | apply IsS115.drewN | apply IsS115.drew | apply IsS115.set_1 | refine IsS115.far ?_ NB0_151.out _ | refine IsS115.far ?_ NB0_170.out _) | exact HI0.out)⟩, ⟨by repeat (first | (with_reducible first | exact HK.out | apply KeepBut.set_ | apply keep_drewN | apply keep_drew | apply keep_alloc | refine keep_far ?_ GW151.out _ | refine keep_far ?_ GW170.out _) | exact HK.out)⟩, ⟨by repeat (first | (with_reducible first | exact HB.out | apply zB | apply zC | apply zE | refine below_set ?_ (IsS115.ge HI0.out) | refine below_set ?_ GE151.out | refine below_set ?_ GE170.out) | exact HB.out)⟩⟩
          ·rw [if_neg c36] at H
           exact absurd H (by simp)
         ·rw [if_neg c34] at H
          have c34b0 : decide (0 < x6_2) = false := decide_eq_false c34
          clear c34
          replace H := Option.bind_eq_some_iff.mp H
          obtain ⟨⟨t186, t187, t188, t191, t192, t195⟩, A440, H⟩ := H
          replace H : (if x171004_2.length < 1759218604441 then (some (4, (⟨#[]⟩ : ByteArray), ([] : List Int), 0, (x171004_2 ++ [(⟨t186, t187, t188, t191, t192⟩ : S35)]), t195)) else (none)) = some (r1, r2, r3, r4, r5, r6) := H
          have A44 := Aq A440
          clear A440
          by_cases c45 : x171004_2.length < 1759218604441
          ·rw [if_pos c45] at H
           have LMc45 := Aq c45
           clear c45
           obtain ⟨y196, hy196⟩ : ∃ y_ : List (S35), y_ = (x171004_2 ++ [(⟨t186, t187, t188, t191, t192⟩ : S35)]) := ⟨_, rfl⟩
           replace H : (some (4, (⟨#[]⟩ : ByteArray), ([] : List Int), 0, y196, t195)) = some (r1, r2, r3, r4, r5, r6) := by first | (rw [hy196]; with_reducible exact H) | (have H2_ := (Option.bind_some _ _).symm.trans H; rw [hy196]; with_reducible exact H2_) | (have H2_ := (Option.bind_some _ _).symm.trans H; with_reducible exact H2_) | with_reducible exact H | (rw [hy196]; exact H) | exact H
           have Ny196 := Aq hy196
           clear hy196
           simp only [Option.some.injEq, Prod.mk.injEq] at H
           obtain ⟨rfl, rfl, rfl, rfl, rfl, rfl⟩ := H
           try go_wp2
           have n0_ := Aq (Kd.R_drew HO_171004.out)
           have n1_ := Aq (zD BK151.out)
           have n2_ := Aq (zD BK170.out)
           have n3_ := Aq (IsS115.drew HI0.out)
           have n4_ := Aq (keep_drew HK.out)
           have n5_ := Aq (zE HB.out)
           clear HO_171004 BK151 BK170 HI0 HK HB
           have HO_171004 := n0_
           have BK151 := n1_
           have BK170 := n2_
           have HI0 := n3_
           have HK := n4_
           have HB := n5_
           clear n0_ n1_ n2_ n3_ n4_ n5_
           refine start_ (n := 8) (S := fun w' => w'.cell? ⟨gb170, 0, none⟩ = some (.int .i64 4) ∧ w'.cell? ⟨gb170, 1, none⟩ = some (.string (⟨#[]⟩ : ByteArray)) ∧ w'.cell? ⟨gb170, 2, none⟩ = some (.slice none 0 0) ∧ w'.cell? ⟨gb170, 3, none⟩ = some (.int .i64 0) ∧ w'.cell? ⟨gb170, 4, none⟩ = some (u171004)) (ds := [7]) #[false, false, false, false, false, false, false, false] (by kernel_rfl) rfl rfl ⟨(blk_cell BK170.out 0).trans rfl, (blk_cell BK170.out 1).trans rfl, (blk_cell BK170.out 2).trans rfl, (blk_cell BK170.out 3).trans rfl, (blk_cell BK170.out 4).trans rfl⟩ (fun hHeld => ?_); refine with_tabW spec_l8Form.tab15 spec_l8Form.bits15 (fun HT_ HW_ => ?_)
           generalize wr.drew = w46 at HO_171004 BK151 BK170 HI0 HK HB hHeld ⊢
           refine pure_ (i := 0) (N := some 48) (v := ?_) (a' := ?_) #[true, false, false, false, false, false, false, false] rfl rfl (any_of HT_.out (by kernel_rfl)) (fun _ _ _ h => h) (Or.inl ⟨by rfl, ?_⟩) ?_ ?_
           rotate_left
           ·intro w'
            go_simp
            with_reducible rfl
           rotate_left
           ·simp only [Act.put, sA, sB, sC, i64_w, i32_w]
            rfl
           refine pure_ (i := 2) (N := some 50) (v := ?_) (a' := ?_) #[true, false, true, false, false, false, false, false] rfl rfl (any_of HT_.out (by kernel_rfl)) (fun _ _ _ h => h) (Or.inl ⟨by rfl, ?_⟩) ?_ ?_
           rotate_left
           ·intro w'
            go_simp
            with_reducible rfl
           rotate_left
           ·simp only [Act.put, sA, sB, sC, i64_w, i32_w]
            rfl
           refine take_ (i := 1) (N := some 49) (v := ?_) (a' := ?_) #[true, true, true, false, false, false, false, false] rfl rfl (take_ofW HT_.out HW_.out (by kernel_rfl)) (fun _ _ _ h => h) (Or.inl ⟨by rfl, ?_⟩) hHeld ?_ ?_
           rotate_left
           ·rintro w' ⟨s0, s1, s2, s3, s4⟩
            go_simp
            with_reducible rfl
           rotate_left
           ·simp only [Act.put, sA, sB, sC, i64_w, i32_w]
            rfl
           refine one_ (i := 3) (N := some 51) #[true, true, true, true, false, false, false, false] rfl rfl (one_of HT_.out (by kernel_rfl)) (by decide) (fun K hK => ?_)
           refine goes_ Try.func46 (by kernel_rfl) rfl #[.pointer (some ⟨g, 0, none⟩)] (by rfl) rfl rfl (by (try simp only [List.map_toArray, List.map_cons, List.map_nil]); first | done | rfl | (simp only [List.length_drop, List.length_take]; rfl)) ?_
           with_reducible refine (spec_l8Id.calls k2 g s0_0 x1001_2 t186 t187 t188 t191 t192 t195 w0 _ ?side1 ?side2 A44.out).mono ?_
           (case side1 => repeat (first | (with_reducible first | exact HI0.out | apply IsS115.alloc | apply IsS115.drewN | apply IsS115.drew | apply IsS115.set_1 | refine IsS115.far ?_ NB0_151.out _ | refine IsS115.far ?_ NB0_170.out _) | exact HI0.out))
           (case side2 => repeat (first | (with_reducible first | exact HB.out | apply zB | apply zC | apply zE | refine below_set ?_ (IsS115.ge HI0.out) | refine below_set ?_ GE151.out | refine below_set ?_ GE170.out) | exact HB.out))
           rintro e w47 ⟨v189, v193, rfl, ho0, ho1, hi, hb, hk⟩
           refine ⟨_, rfl, ?_⟩
           have n0_ := Aq (Kd.R_mono (Kd.R_told (Kd.R_told (Kd.R_oldK (IsS115.apart (show IsS115 w0 _ g s0_0 x1001_2 from by repeat (first | (with_reducible first | exact HI0.out | apply IsS115.alloc | apply IsS115.drewN | apply IsS115.drew | apply IsS115.set_1 | refine IsS115.far ?_ NB0_151.out _ | refine IsS115.far ?_ NB0_170.out _) | exact HI0.out)) (by (with_reducible repeat (first | apply Kd.R_alloc | apply Kd.R_drewN | apply Kd.R_drew)); exact HO_171004.out) (by decide)) hk) (Kd.R_base ho0)) (Kd.R_base ho1)) (fun _ h_ => h_.1))
           have n1_ := Aq (KeepBut.blk hk (g' := gb151) (o := .cells #[.int .i64 0, .string (⟨#[]⟩ : ByteArray), .slice none 0 0, .int .i64 0, .slice none 0 0] 35 (0, 0)) (by (with_reducible repeat (first | refine zN ?_ _ | refine zD ?_ | refine zA ?_ _)); exact BK151.out) NB151_0.out (by simp))
           have n2_ := Aq (KeepBut.blk hk (g' := gb170) (o := .cells #[.int .i64 4, .string (⟨#[]⟩ : ByteArray), .slice none 0 0, .int .i64 0, u171004] 35 (0, 0)) (by (with_reducible repeat (first | refine zN ?_ _ | refine zD ?_ | refine zA ?_ _)); exact BK170.out) NB170_0.out (by simp))
           have n3_ := Aq (Kd.R_lower ho0 (keep_size (w := w) (g := g) (row := none) (by repeat (first | (with_reducible first | exact HK.out | apply KeepBut.set_ | apply keep_drewN | apply keep_drew | apply keep_alloc | refine keep_far ?_ GW151.out _ | refine keep_far ?_ GW170.out _) | exact HK.out))))
           have n4_ := Aq (Kd.R_lower (Kd.R_newB (Kd.R_newB (Kd.R_new' ho1 (Kd.R_lt (by (with_reducible repeat (first | apply Kd.R_alloc | apply Kd.R_drewN | apply Kd.R_drew)); exact HO_171004.out))) (g := gb151) (o := .cells #[.int .i64 0, .string (⟨#[]⟩ : ByteArray), .slice none 0 0, .int .i64 0, .slice none 0 0] 35 (0, 0)) (by (with_reducible repeat (first | refine zN ?_ _ | refine zD ?_ | refine zA ?_ _)); exact BK151.out)) (g := gb170) (o := .cells #[.int .i64 4, .string (⟨#[]⟩ : ByteArray), .slice none 0 0, .int .i64 0, u171004] 35 (0, 0)) (by (with_reducible repeat (first | refine zN ?_ _ | refine zD ?_ | refine zA ?_ _)); exact BK170.out)) (keep_size (w := w) (g := g) (row := none) (by repeat (first | (with_reducible first | exact HK.out | apply KeepBut.set_ | apply keep_drewN | apply keep_drew | apply keep_alloc | refine keep_far ?_ GW151.out _ | refine keep_far ?_ GW170.out _) | exact HK.out))))
           have n5_ := Aq (KeepBut.trans (by repeat (first | (with_reducible first | exact HK.out | apply KeepBut.set_ | apply keep_drewN | apply keep_drew | apply keep_alloc | refine keep_far ?_ GW151.out _ | refine keep_far ?_ GW170.out _) | exact HK.out)) hk (.inl rfl))
           have n6_ := Aq (hb)
           have n7_ := Aq (hi)
           clear HO_171004 BK151 BK170 HK HB HI0
           have HO_171004 := n0_
           have BK151 := n1_
           have BK170 := n2_
           have HO190 := n3_
           have HO194 := n4_
           have HK := n5_
           have HB := n6_
           have HI0 := n7_
           clear n0_ n1_ n2_ n3_ n4_ n5_ n6_ n7_
           (try clear hb)
           (try clear hb2)
           (try clear hk)
           (try clear hi)
           (try clear ho0)
           (try clear ho1)
           obtain ⟨Ao49, co49, eo49⟩ := Kd.R_slice HO190.out
           (first | subst eo49 | (injection eo49 with f1_ f2_ f3_; have f4_ := f1_.symm; have f5_ := f3_.symm; clear f1_ f2_ f3_; subst f4_; subst f5_))
           obtain ⟨Ao50, co50, eo50⟩ := Kd.R_slice HO194.out
           (first | subst eo50 | (injection eo50 with f1_ f2_ f3_; have f4_ := f1_.symm; have f5_ := f3_.symm; clear f1_ f2_ f3_; subst f4_; subst f5_))
           refine hK.out _ _ ⟨(blk_cell BK170.out 0).trans rfl, (blk_cell BK170.out 1).trans rfl, (blk_cell BK170.out 2).trans rfl, (blk_cell BK170.out 3).trans rfl, (blk_cell BK170.out 4).trans rfl⟩ (fun hHeld => ?_)
           clear hK K
           refine norm_ (a' := ?_) ?_ ?_
           rotate_left
           ·show Act.put _ (some 51) _ = _
            simp only [Act.put, sA, sB, sC, i64_w, i32_w]
            rfl
           refine one_ (i := 4) (N := some 52) #[true, true, true, true, true, false, false, false] rfl rfl (one_of HT_.out (by kernel_rfl)) (by decide) (fun K hK => ?_)
           refine value_ (w1 := ?_) (v := ?_) (by rfl) rfl ?_ ?_
           rotate_left 2
           ·go_simp
            constructor
            ·rfl
            ·rfl
           refine hK.out _ _ ⟨(blk_cell (zA BK170.out _) 0).trans rfl, (blk_cell (zA BK170.out _) 1).trans rfl, (blk_cell (zA BK170.out _) 2).trans rfl, (blk_cell (zA BK170.out _) 3).trans rfl, (blk_cell (zA BK170.out _) 4).trans rfl⟩ (fun hHeld => ?_)
           clear hK K
           refine norm_ (a' := ?_) ?_ ?_
           rotate_left
           ·show Act.put _ (some 52) _ = _
            simp only [Act.put, sA, sB, sC, i64_w, i32_w]
            rfl
           refine one_ (i := 5) (N := some 53) #[true, true, true, true, true, true, false, false] rfl rfl (one_of HT_.out (by kernel_rfl)) (by decide) (fun K hK => ?_)
           refine Kd.R_append_step k35 w.heap.size (by rfl) (.tmp 49) (.tmp 52) 33 35 (.agg #[(.int .i64 0), (.string ⟨#[]⟩), (.slice none 0 0), (.int .i64 0), (.slice none 0 0)]) 80 rfl Try.underlying33 info35 rfl (by decide) (by omega) u171004 x171004_2 (⟨t186, t187, t188, t191, t192⟩ : S35) [.int .i64 t186, .string t187, .slice Ao49 t188.length co49, .int .i64 t191, .slice Ao50 t192.length co50] (fun k_ => k_ ≠ gb151 ∧ k_ ≠ gb170) (fun k_ => ((fun k_ => k_ ≠ gb151 ∧ k_ ≠ gb170)) k_ ∧ some k_ ≠ (u171004 : Value).ownBlock) rfl rfl ?aP (fun _ hk => hk) ?aF ?aO (Below.refl _ _) ?aS ?aL ?_
           (case aP => exact k35_mkM _ _ _ (⟨t186, t187, t188, t191, t192⟩ : S35) (Kd.R_mono (Kd.R_types (Kd.R_types (Kd.R_apart' (HO190.out) (Kd.R_typed HO_171004.out) (by decide)) BK151.out (by decide)) BK170.out (by decide)) (fun k_ hk => ⟨⟨hk.1.2, hk.2⟩, hk.1.1.2⟩)) (Kd.R_mono (HO194.out) (fun k_ hk => ⟨⟨hk.1.2, hk.2⟩, hk.1.1.2⟩)))
           (case aF => exact (fun k_ hk => ⟨Kd.freshB (g := gb151) (o := .cells #[.int .i64 0, .string (⟨#[]⟩ : ByteArray), .slice none 0 0, .int .i64 0, .slice none 0 0] 35 (0, 0)) (by (with_reducible repeat (first | refine zN ?_ _ | refine zD ?_ | refine zA ?_ _)); exact BK151.out) k_ hk, Kd.freshB (g := gb170) (o := .cells #[.int .i64 4, .string (⟨#[]⟩ : ByteArray), .slice none 0 0, .int .i64 0, u171004] 35 (0, 0)) (by (with_reducible repeat (first | refine zN ?_ _ | refine zD ?_ | refine zA ?_ _)); exact BK170.out) k_ hk⟩))
           (case aO => exact (by (with_reducible repeat (first | apply Kd.R_alloc | apply Kd.R_drewN | apply Kd.R_drew)); exact Kd.R_mono HO_171004.out (fun _ hk => ⟨hk.1.1.1, hk.1.1.2⟩)))
           (case aS => exact (keep_size (w := w) (g := g) (row := none) (by repeat (first | (with_reducible first | exact HK.out | apply KeepBut.set_ | apply keep_drewN | apply keep_drew | apply keep_alloc | refine keep_far ?_ GW151.out _ | refine keep_far ?_ GW170.out _) | exact HK.out))))
           (case aL => have := LMc45.out; omega)
           intro v197 w48 ho hb hg hat
           rw [← Ny196.out] at ho
           have n0_ := Aq (blk_grown (g := gb151) (o := .cells #[.int .i64 0, .string (⟨#[]⟩ : ByteArray), .slice none 0 0, .int .i64 0, .slice none 0 0] 35 (0, 0)) (by (with_reducible repeat (first | refine zN ?_ _ | refine zD ?_ | refine zA ?_ _)); exact BK151.out) hg (Kd.R_away HO_171004.out (fun _ hk => hk.1.1.1)))
           have n1_ := Aq (blk_grown (g := gb170) (o := .cells #[.int .i64 4, .string (⟨#[]⟩ : ByteArray), .slice none 0 0, .int .i64 0, u171004] 35 (0, 0)) (by (with_reducible repeat (first | refine zN ?_ _ | refine zD ?_ | refine zA ?_ _)); exact BK170.out) hg (Kd.R_away HO_171004.out (fun _ hk => hk.1.1.2)))
           have n2_ := Aq (IsS115.grown (by repeat (first | (with_reducible first | exact HI0.out | apply IsS115.alloc | apply IsS115.drewN | apply IsS115.drew | apply IsS115.set_1 | refine IsS115.far ?_ NB0_151.out _ | refine IsS115.far ?_ NB0_170.out _) | exact HI0.out)) hg (IsS115.own_ne HI0.out HO_171004.out (by decide)))
           have n3_ := Aq (below_weaken (by repeat (first | (with_reducible first | exact HB.out | apply zB | apply zC | apply zE | refine below_set ?_ (IsS115.ge HI0.out) | refine below_set ?_ GE151.out | refine below_set ?_ GE170.out) | exact HB.out)) HL.out hb)
           have n4_ := Aq (KeepBut.trans (by repeat (first | (with_reducible first | exact HK.out | apply KeepBut.set_ | apply keep_drewN | apply keep_drew | apply keep_alloc | refine keep_far ?_ GW151.out _ | refine keep_far ?_ GW170.out _) | exact HK.out)) (KeepBut.of_grown hg g) (Kd.R_base2 HO_171004.out))
           have n5_ := Aq (ho)
           clear BK151 BK170 HI0 HB HK HO_171004 HO190 HO194
           have BK151 := n0_
           have BK170 := n1_
           have HI0 := n2_
           have HB := n3_
           have HK := n4_
           have HO198 := n5_
           clear n0_ n1_ n2_ n3_ n4_ n5_ ho hb hg hat
           obtain ⟨Ao51, co51, eo51⟩ := Kd.R_slice HO198.out
           (first | subst eo51 | (injection eo51 with f1_ f2_ f3_; have f4_ := f1_.symm; have f5_ := f3_.symm; clear f1_ f2_ f3_; subst f4_; subst f5_))
           refine hK.out _ _ ⟨(blk_cell BK170.out 0).trans rfl, (blk_cell BK170.out 1).trans rfl, (blk_cell BK170.out 2).trans rfl, (blk_cell BK170.out 3).trans rfl, (blk_cell BK170.out 4).trans rfl⟩ (fun hHeld => ?_)
           clear hK K
           refine norm_ (a' := ?_) ?_ ?_
           rotate_left
           ·show Act.put _ (some 53) _ = _
            simp only [Act.put, sA, sB, sC, i64_w, i32_w]
            rfl
           refine pure_ (i := 6) (N := some 54) (v := ?_) (a' := ?_) #[true, true, true, true, true, true, true, false] rfl rfl (any_of HT_.out (by kernel_rfl)) (fun _ _ _ h => h) (Or.inl ⟨by rfl, ?_⟩) ?_ ?_
           rotate_left
           ·intro w'
            go_simp
            with_reducible rfl
           rotate_left
           ·simp only [Act.put, sA, sB, sC, i64_w, i32_w]
            rfl
           refine last_ (i := 7) (N := none) #[true, true, true, true, true, true, true, true] rfl rfl (one_of HT_.out (by kernel_rfl)) (by decide) (fun K hK => ?_)
           have hs52 : w48.cell? ⟨gb170, 4, none⟩ = some (u171004) := (blk_cell BK170.out 4).trans rfl
           have hfs52 := blk_frozen BK170.out 4
           have hns52_0 := NB151_170.out
           have hms52_0 := NB170_151.out
           refine skip_ (w1 := ?_) (by rfl) rfl ?_ ?_
           rotate_left
           ·go_simp
            rfl
           refine hK.out _ _ ?_
           clear hK K
           refine done_ (done_of HT_.out (by kernel_rfl)) ?_
           have hnb53 := NB170_151.out
           have hnc53 := NB151_170.out
           have hnb54 := NB170_0.out
           have hnc54 := NB0_170.out
           have hcz55_0 : w48.cell? ⟨gb170, 0, none⟩ = some (.int .i64 4) := (blk_cell BK170.out 0).trans rfl
           have hcz55_1 : w48.cell? ⟨gb170, 1, none⟩ = some (.string (⟨#[]⟩ : ByteArray)) := (blk_cell BK170.out 1).trans rfl
           have hcz55_2 : w48.cell? ⟨gb170, 2, none⟩ = some (.slice none 0 0) := (blk_cell BK170.out 2).trans rfl
           have hcz55_3 : w48.cell? ⟨gb170, 3, none⟩ = some (.int .i64 0) := (blk_cell BK170.out 3).trans rfl
           have hcz55_4 : w48.cell? ⟨gb170, 4, none⟩ = some (u171004) := (blk_cell BK170.out 4).trans rfl
           have hfz55_0 := blk_frozen BK170.out 0
           have hfz55_1 := blk_frozen BK170.out 1
           have hfz55_2 := blk_frozen BK170.out 2
           have hfz55_3 := blk_frozen BK170.out 3
           have hfz55_4 := blk_frozen BK170.out 4
           have hnb56 := NB151_0.out
           have hnc56 := NB0_151.out
           have hcz57_0 : w48.cell? ⟨gb151, 0, none⟩ = some (.int .i64 0) := (blk_cell BK151.out 0).trans rfl
           have hcz57_1 : w48.cell? ⟨gb151, 1, none⟩ = some (.string (⟨#[]⟩ : ByteArray)) := (blk_cell BK151.out 1).trans rfl
           have hcz57_2 : w48.cell? ⟨gb151, 2, none⟩ = some (.slice none 0 0) := (blk_cell BK151.out 2).trans rfl
           have hcz57_3 : w48.cell? ⟨gb151, 3, none⟩ = some (.int .i64 0) := (blk_cell BK151.out 3).trans rfl
           have hcz57_4 : w48.cell? ⟨gb151, 4, none⟩ = some (.slice none 0 0) := (blk_cell BK151.out 4).trans rfl
           have hfz57_0 := blk_frozen BK151.out 0
           have hfz57_1 := blk_frozen BK151.out 1
           have hfz57_2 := blk_frozen BK151.out 2
           have hfz57_3 := blk_frozen BK151.out 3
           have hfz57_4 := blk_frozen BK151.out 4
           try go_wp2
           refine bodyPost_ret (results_cell_row rfl _ _ gb151 35 #[.int .i64 4, .string (⟨#[]⟩ : ByteArray), .slice none 0 0, .int .i64 0, .slice Ao51 y196.length co51] (0, 0) _ rfl (by (with_reducible repeat (first | refine zN ?_ _ | refine zD ?_ | refine zA ?_ _)); refine blk_put (cs := #[.int .i64 4, .string (⟨#[]⟩ : ByteArray), .slice none 0 0, .int .i64 0, .slice none 0 0]) ?_ 4 _ rfl; (with_reducible repeat (first | refine zN ?_ _ | refine zD ?_ | refine zA ?_ _)); refine blk_put (cs := #[.int .i64 4, .string (⟨#[]⟩ : ByteArray), .slice none 0 0, .int .i64 0, .slice none 0 0]) ?_ 3 _ rfl; (with_reducible repeat (first | refine zN ?_ _ | refine zD ?_ | refine zA ?_ _)); refine blk_put (cs := #[.int .i64 4, .string (⟨#[]⟩ : ByteArray), .slice none 0 0, .int .i64 0, .slice none 0 0]) ?_ 2 _ rfl; (with_reducible repeat (first | refine zN ?_ _ | refine zD ?_ | refine zA ?_ _)); refine blk_put (cs := #[.int .i64 4, .string (⟨#[]⟩ : ByteArray), .slice none 0 0, .int .i64 0, .slice none 0 0]) ?_ 1 _ rfl; (with_reducible repeat (first | refine zN ?_ _ | refine zD ?_ | refine zA ?_ _)); refine blk_put (cs := #[.int .i64 0, .string (⟨#[]⟩ : ByteArray), .slice none 0 0, .int .i64 0, .slice none 0 0]) ?_ 0 _ rfl; (with_reducible repeat (first | refine zN ?_ _ | refine zD ?_ | refine zA ?_ _)); refine blk_far ?_ NB151_170.out _; (with_reducible repeat (first | refine zN ?_ _ | refine zD ?_ | refine zA ?_ _)); exact BK151.out) Try.underlying35 rfl (by kernel_rfl)) rfl ?_
           exact ⟨_, _, by first | rfl | (simp [errW_none, errW_some] <;> rfl) | (simp [*, errW_none, errW_some] <;> rfl), by first | exact Kd.R_nil _ _ _ _ _ | exact Kd.N_nil _ _ _ _ _ | exact Kd.V_nil _ _ _ _ _ | exact Kd.Q_nil _ _ _ _ _ | exact Kd.S_nil _ _ _ _ _, by (with_reducible repeat (first | apply Kd.R_alloc | apply Kd.R_drewN | apply Kd.R_drew)); exact Kd.R_mono (Kd.R_far (p := ⟨gb151, 4, none⟩) (Kd.R_far (p := ⟨gb151, 3, none⟩) (Kd.R_far (p := ⟨gb151, 2, none⟩) (Kd.R_far (p := ⟨gb151, 1, none⟩) (Kd.R_far (p := ⟨gb151, 0, none⟩) (Kd.R_far (p := ⟨gb170, 4, none⟩) (Kd.R_mono (Kd.R_mono HO198.out (fun k_ hk => (⟨hk, hk.2⟩ : _ ∧ k_ ≠ gb170))) (fun k_ hk => (⟨hk, hk.1.1⟩ : _ ∧ k_ ≠ gb151))) (fun _ hk => hk.1.2) (.slice Ao51 y196.length co51)) (fun _ hk => hk.2) (.int .i64 4)) (fun _ hk => hk.2) (.string (⟨#[]⟩ : ByteArray))) (fun _ hk => hk.2) (.slice none 0 0)) (fun _ hk => hk.2) (.int .i64 0)) (fun _ hk => hk.2) (.slice Ao51 y196.length co51)) (fun _ hk => (by simp [Value.ownBlock])), by repeat (first | (with_reducible first | exact HI0.out | apply IsS115.alloc | apply IsS115.drewN | apply IsS115.drew | apply IsS115.set_1 | refine IsS115.far ?_ NB0_151.out _ | refine IsS115.far ?_ NB0_170.out _) | exact HI0.out), by repeat (first | (with_reducible first | exact HB.out | apply zB | apply zC | apply zE | refine below_set ?_ (IsS115.ge HI0.out) | refine below_set ?_ GE151.out | refine below_set ?_ GE170.out) | exact HB.out), by repeat (first | (with_reducible first | exact HK.out | apply KeepBut.set_ | apply keep_drewN | apply keep_drew | apply keep_alloc | refine keep_far ?_ GW151.out _ | refine keep_far ?_ GW170.out _) | exact HK.out)⟩
          ·rw [if_neg c45] at H
           exact absurd H (by simp)
      ·rw [if_neg c27] at H
       have c27b0 : (t153 == 4) = false := beq_eq_false_iff_ne.mpr c27
       have c27b1 : (t153 != 4) = true := bne_iff_ne.mpr c27
       replace H := Option.bind_eq_some_iff.mp H
       obtain ⟨⟨t200, t201⟩, A580, H⟩ := H
       replace H : (spec_l8Form.l1 kj4 a1 t200 s0_0 t201 3 (⟨#[]⟩ : ByteArray) 0 ([] : List (S35))) = some (r1, r2, r3, r4, r5, r6) := H
       have A58 := Aq A580
       clear A580
       have H' := Aq H
       clear H
       go_wp2_with (first | ((with_reducible refine gate_dst (N := 7) rfl ?_); refine box_event ?hg (N := 7) ?hd (cs := #[.int .i64 0, .string (⟨#[]⟩ : ByteArray), .slice none 0 0, .int .i64 0, .slice none 0 0]) (t := 35) ?hr ?_; (case hd => rfl); (case hg => rfl); (case hr => first | (go_simp; done) | (go_simp; rfl)); intro gb199 hg w59 hbox hb; have n0_ := Aq (blk_below (g := gb151) (o := .cells #[.int .i64 0, .string (⟨#[]⟩ : ByteArray), .slice none 0 0, .int .i64 0, .slice none 0 0] 35 (0, 0)) (by (with_reducible repeat (first | refine zN ?_ _ | refine zD ?_ | refine zA ?_ _)); exact BK151.out) hb); have n1_ := Aq (IsS115.below (by repeat (first | (with_reducible first | exact HI0.out | apply IsS115.alloc | apply IsS115.drewN | apply IsS115.drew | apply IsS115.set_1 | refine IsS115.far ?_ NB0_151.out _) | exact HI0.out)) hb); have n2_ := Aq (KeepBut.trans (by repeat (first | (with_reducible first | exact HK.out | apply KeepBut.set_ | apply keep_drewN | apply keep_drew | apply keep_alloc | refine keep_far ?_ GW151.out _) | exact HK.out)) (KeepBut.of_below hb g none) (.inl rfl)); have n3_ := Aq (below_step (by repeat (first | (with_reducible first | exact HB.out | apply zB | apply zC | apply zE | refine below_set ?_ (IsS115.ge HI0.out) | refine below_set ?_ GE151.out) | exact HB.out)) hb); have n4_ := Aq (hbox); have n5_ := Aq ((by rw [hg]; exact (keep_size (w := w) (g := g) (row := none) (by repeat (first | (with_reducible first | exact HK.out | apply KeepBut.set_ | apply keep_drewN | apply keep_drew | apply keep_alloc | refine keep_far ?_ GW151.out _) | exact HK.out))) : w.heap.size ≤ gb199)); have n6_ := Aq ((Nat.le_trans HW0.out (by rw [hg]; exact (keep_size (w := w) (g := g) (row := none) (by repeat (first | (with_reducible first | exact HK.out | apply KeepBut.set_ | apply keep_drewN | apply keep_drew | apply keep_alloc | refine keep_far ?_ GW151.out _) | exact HK.out))) : w.heap.size ≤ gb199) : w0.heap.size ≤ gb199)); have n7_ := Aq ((by rw [hg]; exact Nat.ne_of_lt (blk_lt (g := gb151) (o := .cells #[.int .i64 0, .string (⟨#[]⟩ : ByteArray), .slice none 0 0, .int .i64 0, .slice none 0 0] 35 (0, 0)) (by (with_reducible repeat (first | refine zN ?_ _ | refine zD ?_ | refine zA ?_ _)); exact BK151.out)) : gb151 ≠ gb199)); have n8_ := Aq ((by rw [hg]; exact Nat.ne_of_gt (blk_lt (g := gb151) (o := .cells #[.int .i64 0, .string (⟨#[]⟩ : ByteArray), .slice none 0 0, .int .i64 0, .slice none 0 0] 35 (0, 0)) (by (with_reducible repeat (first | refine zN ?_ _ | refine zD ?_ | refine zA ?_ _)); exact BK151.out)) : gb199 ≠ gb151)); have n9_ := Aq ((by rw [hg]; exact Nat.ne_of_lt (IsS115.lt (show IsS115 w0 _ g s0_0 t154 from by repeat (first | (with_reducible first | exact HI0.out | apply IsS115.alloc | apply IsS115.drewN | apply IsS115.drew | apply IsS115.set_1 | refine IsS115.far ?_ NB0_151.out _) | exact HI0.out))) : g ≠ gb199)); have n10_ := Aq ((by rw [hg]; exact Nat.ne_of_gt (IsS115.lt (show IsS115 w0 _ g s0_0 t154 from by repeat (first | (with_reducible first | exact HI0.out | apply IsS115.alloc | apply IsS115.drewN | apply IsS115.drew | apply IsS115.set_1 | refine IsS115.far ?_ NB0_151.out _) | exact HI0.out))) : gb199 ≠ g)); clear BK151 HI0 HK HB; have BK151 := n0_; have HI0 := n1_; have HK := n2_; have HB := n3_; have BK199 := n4_; have GW199 := n5_; have GE199 := n6_; have NB151_199 := n7_; have NB199_151 := n8_; have NB0_199 := n9_; have NB199_0 := n10_; clear n0_ n1_ n2_ n3_ n4_ n5_ n6_ n7_ n8_ n9_ n10_ hb hbox hg; have hnb60 := NB199_151.out; have hnc60 := NB151_199.out; have hnb61 := NB199_0.out; have hnc61 := NB0_199.out; have hcz62_0 : w59.cell? ⟨gb199, 0, none⟩ = some (.int .i64 0) := (blk_cell BK199.out 0).trans rfl; have hcz62_1 : w59.cell? ⟨gb199, 1, none⟩ = some (.string (⟨#[]⟩ : ByteArray)) := (blk_cell BK199.out 1).trans rfl; have hcz62_2 : w59.cell? ⟨gb199, 2, none⟩ = some (.slice none 0 0) := (blk_cell BK199.out 2).trans rfl; have hcz62_3 : w59.cell? ⟨gb199, 3, none⟩ = some (.int .i64 0) := (blk_cell BK199.out 3).trans rfl; have hcz62_4 : w59.cell? ⟨gb199, 4, none⟩ = some (.slice none 0 0) := (blk_cell BK199.out 4).trans rfl; have hfz62_0 := blk_frozen BK199.out 0; have hfz62_1 := blk_frozen BK199.out 1; have hfz62_2 := blk_frozen BK199.out 2; have hfz62_3 := blk_frozen BK199.out 3; have hfz62_4 := blk_frozen BK199.out 4) | ((with_reducible refine gate_callee (f := 47) rfl ?_); refine goesL_ (some 58) rfl rfl Try.func47 (by kernel_rfl) rfl #[.pointer (some ⟨g, 0, none⟩), .int .i64 4] rfl (by (try simp only [List.map_toArray, List.map_cons, List.map_nil]); first | done | rfl | (simp only [List.length_drop, List.length_take]; rfl)) ?_; (with_reducible refine (spec_l1Rd_pick.calls kj4 g s0_0 t154 4 t200 t201 w0 _ ?side1 ?side2 A58.out).mono ?_); (case side1 => repeat (first | (with_reducible first | exact HI0.out | apply IsS115.alloc | apply IsS115.drewN | apply IsS115.drew | apply IsS115.set_1 | refine IsS115.far ?_ NB0_151.out _ | refine IsS115.far ?_ NB0_199.out _) | exact HI0.out)); (case side2 => repeat (first | (with_reducible first | exact HB.out | apply zB | apply zC | apply zE | refine below_set ?_ (IsS115.ge HI0.out) | refine below_set ?_ GE151.out | refine below_set ?_ GE199.out) | exact HB.out)); rintro e w63 ⟨rfl, hi, hb, hk⟩; refine ⟨_, rfl, ?_⟩; have n0_ := Aq (KeepBut.blk hk (g' := gb151) (o := .cells #[.int .i64 0, .string (⟨#[]⟩ : ByteArray), .slice none 0 0, .int .i64 0, .slice none 0 0] 35 (0, 0)) (by (with_reducible repeat (first | refine zN ?_ _ | refine zD ?_ | refine zA ?_ _)); refine blk_far ?_ NB151_199.out _; (with_reducible repeat (first | refine zN ?_ _ | refine zD ?_ | refine zA ?_ _)); refine blk_far ?_ NB151_199.out _; (with_reducible repeat (first | refine zN ?_ _ | refine zD ?_ | refine zA ?_ _)); refine blk_far ?_ NB151_199.out _; (with_reducible repeat (first | refine zN ?_ _ | refine zD ?_ | refine zA ?_ _)); refine blk_far ?_ NB151_199.out _; (with_reducible repeat (first | refine zN ?_ _ | refine zD ?_ | refine zA ?_ _)); refine blk_far ?_ NB151_199.out _; (with_reducible repeat (first | refine zN ?_ _ | refine zD ?_ | refine zA ?_ _)); exact BK151.out) NB151_0.out (by simp)); have n1_ := Aq (KeepBut.blk hk (g' := gb199) (o := .cells #[.int .i64 3, .string (⟨#[]⟩ : ByteArray), .slice none 0 0, .int .i64 0, .slice none 0 0] 35 (0, 0)) (by (with_reducible repeat (first | refine zN ?_ _ | refine zD ?_ | refine zA ?_ _)); refine blk_put (cs := #[.int .i64 3, .string (⟨#[]⟩ : ByteArray), .slice none 0 0, .int .i64 0, .slice none 0 0]) ?_ 4 _ rfl; (with_reducible repeat (first | refine zN ?_ _ | refine zD ?_ | refine zA ?_ _)); refine blk_put (cs := #[.int .i64 3, .string (⟨#[]⟩ : ByteArray), .slice none 0 0, .int .i64 0, .slice none 0 0]) ?_ 3 _ rfl; (with_reducible repeat (first | refine zN ?_ _ | refine zD ?_ | refine zA ?_ _)); refine blk_put (cs := #[.int .i64 3, .string (⟨#[]⟩ : ByteArray), .slice none 0 0, .int .i64 0, .slice none 0 0]) ?_ 2 _ rfl; (with_reducible repeat (first | refine zN ?_ _ | refine zD ?_ | refine zA ?_ _)); refine blk_put (cs := #[.int .i64 3, .string (⟨#[]⟩ : ByteArray), .slice none 0 0, .int .i64 0, .slice none 0 0]) ?_ 1 _ rfl; (with_reducible repeat (first | refine zN ?_ _ | refine zD ?_ | refine zA ?_ _)); refine blk_put (cs := #[.int .i64 0, .string (⟨#[]⟩ : ByteArray), .slice none 0 0, .int .i64 0, .slice none 0 0]) ?_ 0 _ rfl; (with_reducible repeat (first | refine zN ?_ _ | refine zD ?_ | refine zA ?_ _)); exact BK199.out) NB199_0.out (by simp)); have n2_ := Aq (KeepBut.trans (by repeat (first | (with_reducible first | exact HK.out | apply KeepBut.set_ | apply keep_drewN | apply keep_drew | apply keep_alloc | refine keep_far ?_ GW151.out _ | refine keep_far ?_ GW199.out _) | exact HK.out)) hk (.inl rfl)); have n3_ := Aq (hb); have n4_ := Aq (hi); clear BK151 BK199 HK HB HI0; have BK151 := n0_; have BK199 := n1_; have HK := n2_; have HB := n3_; have HI0 := n4_; clear n0_ n1_ n2_ n3_ n4_; (try clear hb); (try clear hb2); (try clear hk); (try clear hi)))
       go_loopg [8] kj4 (fun kq v8 w' => ∃ (x8_2 : Int) (x1001_2 : Int) (x200004_2 : List (S35)) (u200004 : Value), v8 = .int .i64 x8_2 ∧ Aside0 (spec_l8Form.l1 kq a1 x8_2 s0_0 x1001_2 3 (⟨#[]⟩ : ByteArray) 0 x200004_2 = some (r1, r2, r3, r4, r5, r6)) ∧ Aside0 (kq ≤ kj4) ∧ Aside0 (Kd.R k35 35 w' w.heap.size (fun k_ => k_ ≠ gb151 ∧ k_ ≠ gb199) u200004 x200004_2) ∧ Aside0 (w'.heap[gb151]? = some (.cells #[.int .i64 0, .string (⟨#[]⟩ : ByteArray), (.slice none 0 0), .int .i64 0, (.slice none 0 0)] 35 (0, 0))) ∧ Aside0 (w'.heap[gb199]? = some (.cells #[.int .i64 3, .string (⟨#[]⟩ : ByteArray), (.slice none 0 0), .int .i64 0, u200004] 35 (0, 0))) ∧ Aside0 (IsS115 w0 w' g s0_0 x1001_2) ∧ Aside0 (KeepBut w w' g none) ∧ Aside0 (Below w0.heap.size w0 w'))
       case atStart => exact ⟨(t200), (t201), (([] : List (S35))), (.slice none 0 0), (by first | rfl | (simp; done) | (simp [*]; done)), H', ⟨Nat.le_refl _⟩, ⟨by first | exact Kd.R_nil _ _ _ _ _ | exact Kd.N_nil _ _ _ _ _ | exact Kd.V_nil _ _ _ _ _ | exact Kd.Q_nil _ _ _ _ _ | exact Kd.S_nil _ _ _ _ _⟩, ⟨by (with_reducible repeat (first | refine zN ?_ _ | refine zD ?_ | refine zA ?_ _)); exact BK151.out⟩, ⟨by (with_reducible repeat (first | refine zN ?_ _ | refine zD ?_ | refine zA ?_ _)); exact BK199.out⟩, ⟨by repeat (first | (with_reducible first | exact HI0.out | apply IsS115.alloc | apply IsS115.drewN | apply IsS115.drew | apply IsS115.set_1 | refine IsS115.far ?_ NB0_151.out _ | refine IsS115.far ?_ NB0_199.out _) | exact HI0.out)⟩, ⟨by repeat (first | (with_reducible first | exact HK.out | apply KeepBut.set_ | apply keep_drewN | apply keep_drew | apply keep_alloc | refine keep_far ?_ GW151.out _ | refine keep_far ?_ GW199.out _) | exact HK.out)⟩, ⟨by repeat (first | (with_reducible first | exact HB.out | apply zB | apply zC | apply zE | refine below_set ?_ (IsS115.ge HI0.out) | refine below_set ?_ GE151.out | refine below_set ?_ GE199.out) | exact HB.out)⟩⟩
       case round =>
        clear H'
        try clear c1
        try clear c2
        try clear p2
        try clear c3
        try clear c4
        try clear c5
        try clear c6
        try clear p6
        try clear c7
        try clear c8
        try clear c8b0
        try clear c8b1
        try clear c9
        try clear c12
        try clear c16
        try clear c16b0
        try clear c16b1
        try clear c22
        try clear c24
        try clear c24b0
        try clear c24b1
        try clear c25
        try clear c27
        try clear c27b0
        try clear c27b1
        try clear c30
        try clear c31
        try clear c34
        try clear c34b0
        try clear c36
        try clear c45
        try clear c46
        try clear c47
        try clear c53
        try clear c54
        try clear c56
        try clear c60
        try clear c61
        try clear hcz13_0
        try clear hcz13_1
        try clear hcz13_2
        try clear hcz13_3
        try clear hcz13_4
        try clear hcz23_0
        try clear hcz23_1
        try clear hcz23_2
        try clear hcz23_3
        try clear hcz23_4
        try clear hcz26_0
        try clear hcz26_1
        try clear hcz26_2
        try clear hcz26_3
        try clear hcz26_4
        try clear hcz32_0
        try clear hcz32_1
        try clear hcz32_2
        try clear hcz32_3
        try clear hcz32_4
        try clear hcz55_0
        try clear hcz55_1
        try clear hcz55_2
        try clear hcz55_3
        try clear hcz55_4
        try clear hcz57_0
        try clear hcz57_1
        try clear hcz57_2
        try clear hcz57_3
        try clear hcz57_4
        try clear hcz62_0
        try clear hcz62_1
        try clear hcz62_2
        try clear hcz62_3
        try clear hcz62_4
        try clear hfz13_0
        try clear hfz13_1
        try clear hfz13_2
        try clear hfz13_3
        try clear hfz13_4
        try clear hfz23_0
        try clear hfz23_1
        try clear hfz23_2
        try clear hfz23_3
        try clear hfz23_4
        try clear hfz26_0
        try clear hfz26_1
        try clear hfz26_2
        try clear hfz26_3
        try clear hfz26_4
        try clear hfz32_0
        try clear hfz32_1
        try clear hfz32_2
        try clear hfz32_3
        try clear hfz32_4
        try clear hfz55_0
        try clear hfz55_1
        try clear hfz55_2
        try clear hfz55_3
        try clear hfz55_4
        try clear hfz57_0
        try clear hfz57_1
        try clear hfz57_2
        try clear hfz57_3
        try clear hfz57_4
        try clear hfz62_0
        try clear hfz62_1
        try clear hfz62_2
        try clear hfz62_3
        try clear hfz62_4
        try clear p2
        try clear p6
        obtain ⟨x8_2, x1001_2, x200004_2, u200004, rfl, HA, HK2, HO_200004, BK151, BK199, HI0, HK, HB⟩ := hrel
        cases gk with
        | zero => exact absurd HA.out (by simp [spec_l8Form.l1])
        | succ k2 =>
         have H := HA.out
         clear HA
         simp only [spec_l8Form.l1] at H
         by_cases c64 : x8_2 > 0
         ·rw [if_pos c64] at H
          have c64b0 : decide (0 < x8_2) = true := decide_eq_true c64
          clear c64
          replace H := Option.bind_eq_some_iff.mp H
          obtain ⟨⟨t202, t203, t204, t207, t208, t211⟩, A650, H⟩ := H
          replace H : (if x200004_2.length < 1759218604441 then (spec_l8Form.l1 k2 a1 (wrap64 (x8_2 - 1)) s0_0 t211 3 (⟨#[]⟩ : ByteArray) 0 (x200004_2 ++ [(⟨t202, t203, t204, t207, t208⟩ : S35)])) else (none)) = some (r1, r2, r3, r4, r5, r6) := H
          have A65 := Aq A650
          clear A650
          by_cases c66 : x200004_2.length < 1759218604441
          ·rw [if_pos c66] at H
           have LMc66 := Aq c66
           clear c66
           obtain ⟨y212, hy212⟩ : ∃ y_ : List (S35), y_ = (x200004_2 ++ [(⟨t202, t203, t204, t207, t208⟩ : S35)]) := ⟨_, rfl⟩
           replace H : (spec_l8Form.l1 k2 a1 (wrap64 (x8_2 - 1)) s0_0 t211 3 (⟨#[]⟩ : ByteArray) 0 y212) = some (r1, r2, r3, r4, r5, r6) := by first | (rw [hy212]; with_reducible exact H) | (have H2_ := (Option.bind_some _ _).symm.trans H; rw [hy212]; with_reducible exact H2_) | (have H2_ := (Option.bind_some _ _).symm.trans H; with_reducible exact H2_) | with_reducible exact H | (rw [hy212]; exact H) | exact H
           have Ny212 := Aq hy212
           clear hy212
           have H' := Aq H
           clear H
           try go_wp2
           have n0_ := Aq (Kd.R_drew HO_200004.out)
           have n1_ := Aq (zD BK151.out)
           have n2_ := Aq (zD BK199.out)
           have n3_ := Aq (IsS115.drew HI0.out)
           have n4_ := Aq (keep_drew HK.out)
           have n5_ := Aq (zE HB.out)
           clear HO_200004 BK151 BK199 HI0 HK HB
           have HO_200004 := n0_
           have BK151 := n1_
           have BK199 := n2_
           have HI0 := n3_
           have HK := n4_
           have HB := n5_
           clear n0_ n1_ n2_ n3_ n4_ n5_
           refine start_ (n := 10) (S := fun w' => w'.cell? ⟨gb199, 0, none⟩ = some (.int .i64 3) ∧ w'.cell? ⟨gb199, 1, none⟩ = some (.string (⟨#[]⟩ : ByteArray)) ∧ w'.cell? ⟨gb199, 2, none⟩ = some (.slice none 0 0) ∧ w'.cell? ⟨gb199, 3, none⟩ = some (.int .i64 0) ∧ w'.cell? ⟨gb199, 4, none⟩ = some (u200004)) (ds := [9]) #[false, false, false, false, false, false, false, false, false, false] (by kernel_rfl) rfl rfl ⟨(blk_cell BK199.out 0).trans rfl, (blk_cell BK199.out 1).trans rfl, (blk_cell BK199.out 2).trans rfl, (blk_cell BK199.out 3).trans rfl, (blk_cell BK199.out 4).trans rfl⟩ (fun hHeld => ?_); refine with_tabW spec_l8Form.tab21 spec_l8Form.bits21 (fun HT_ HW_ => ?_)
           generalize wr.drew = w67 at HO_200004 BK151 BK199 HI0 HK HB hHeld ⊢
           refine pure_ (i := 0) (N := some 63) (v := ?_) (a' := ?_) #[true, false, false, false, false, false, false, false, false, false] rfl rfl (any_of HT_.out (by kernel_rfl)) (fun _ _ _ h => h) (Or.inl ⟨by rfl, ?_⟩) ?_ ?_
           rotate_left
           ·intro w'
            go_simp
            with_reducible rfl
           rotate_left
           ·simp only [Act.put, sA, sB, sC, i64_w, i32_w]
            rfl
           refine pure_ (i := 2) (N := some 65) (v := ?_) (a' := ?_) #[true, false, true, false, false, false, false, false, false, false] rfl rfl (any_of HT_.out (by kernel_rfl)) (fun _ _ _ h => h) (Or.inl ⟨by rfl, ?_⟩) ?_ ?_
           rotate_left
           ·intro w'
            go_simp
            with_reducible rfl
           rotate_left
           ·simp only [Act.put, sA, sB, sC, i64_w, i32_w]
            rfl
           refine pure_ (i := 3) (N := some 66) (v := ?_) (a' := ?_) #[true, false, true, true, false, false, false, false, false, false] rfl rfl (any_of HT_.out (by kernel_rfl)) (fun _ _ _ h => h) (Or.inl ⟨by rfl, ?_⟩) ?_ ?_
           rotate_left
           ·intro w'
            go_simp
            with_reducible rfl
           rotate_left
           ·simp only [Act.put, sA, sB, sC, i64_w, i32_w]
            rfl
           refine pure_ (i := 4) (N := some 67) (v := ?_) (a' := ?_) #[true, false, true, true, true, false, false, false, false, false] rfl rfl (any_of HT_.out (by kernel_rfl)) (fun _ _ _ h => h) (Or.inl ⟨by rfl, ?_⟩) ?_ ?_
           rotate_left
           ·intro w'
            go_simp
            with_reducible rfl
           rotate_left
           ·simp only [Act.put, sA, sB, sC, i64_w, i32_w]
            rfl
           refine take_ (i := 1) (N := some 64) (v := ?_) (a' := ?_) #[true, true, true, true, true, false, false, false, false, false] rfl rfl (take_ofW HT_.out HW_.out (by kernel_rfl)) (fun _ _ _ h => h) (Or.inl ⟨by rfl, ?_⟩) hHeld ?_ ?_
           rotate_left
           ·rintro w' ⟨s0, s1, s2, s3, s4⟩
            go_simp
            with_reducible rfl
           rotate_left
           ·simp only [Act.put, sA, sB, sC, i64_w, i32_w]
            rfl
           refine one_ (i := 5) (N := some 68) #[true, true, true, true, true, true, false, false, false, false] rfl rfl (one_of HT_.out (by kernel_rfl)) (by decide) (fun K hK => ?_)
           refine goes_ Try.func80 (by kernel_rfl) rfl #[.pointer (some ⟨g, 0, none⟩), .int .i64 (wrap64 (a1 - 1))] (by rfl) rfl rfl (by (try simp only [List.map_toArray, List.map_cons, List.map_nil]); first | done | rfl | (simp only [List.length_drop, List.length_take]; rfl)) ?_
           with_reducible refine (ih k2 (by have := HJ4.out; have := HK2.out; omega) g s0_0 x1001_2 (wrap64 (a1 - 1)) t202 t203 t204 t207 t208 t211 w0 _ ?side1 ?side2 A65.out).mono ?_
           (case side1 => repeat (first | (with_reducible first | exact HI0.out | apply IsS115.alloc | apply IsS115.drewN | apply IsS115.drew | apply IsS115.set_1 | refine IsS115.far ?_ NB0_151.out _ | refine IsS115.far ?_ NB0_199.out _) | exact HI0.out))
           (case side2 => repeat (first | (with_reducible first | exact HB.out | apply zB | apply zC | apply zE | refine below_set ?_ (IsS115.ge HI0.out) | refine below_set ?_ GE151.out | refine below_set ?_ GE199.out) | exact HB.out))
           rintro e w68 ⟨v205, v209, rfl, ho0, ho1, hi, hb, hk⟩
           refine ⟨_, rfl, ?_⟩
           have n0_ := Aq (Kd.R_mono (Kd.R_told (Kd.R_told (Kd.R_oldK (IsS115.apart (show IsS115 w0 _ g s0_0 x1001_2 from by repeat (first | (with_reducible first | exact HI0.out | apply IsS115.alloc | apply IsS115.drewN | apply IsS115.drew | apply IsS115.set_1 | refine IsS115.far ?_ NB0_151.out _ | refine IsS115.far ?_ NB0_199.out _) | exact HI0.out)) (by (with_reducible repeat (first | apply Kd.R_alloc | apply Kd.R_drewN | apply Kd.R_drew)); exact HO_200004.out) (by decide)) hk) (Kd.R_base ho0)) (Kd.R_base ho1)) (fun _ h_ => h_.1))
           have n1_ := Aq (KeepBut.blk hk (g' := gb151) (o := .cells #[.int .i64 0, .string (⟨#[]⟩ : ByteArray), .slice none 0 0, .int .i64 0, .slice none 0 0] 35 (0, 0)) (by (with_reducible repeat (first | refine zN ?_ _ | refine zD ?_ | refine zA ?_ _)); exact BK151.out) NB151_0.out (by simp))
           have n2_ := Aq (KeepBut.blk hk (g' := gb199) (o := .cells #[.int .i64 3, .string (⟨#[]⟩ : ByteArray), .slice none 0 0, .int .i64 0, u200004] 35 (0, 0)) (by (with_reducible repeat (first | refine zN ?_ _ | refine zD ?_ | refine zA ?_ _)); exact BK199.out) NB199_0.out (by simp))
           have n3_ := Aq (Kd.R_lower ho0 (keep_size (w := w) (g := g) (row := none) (by repeat (first | (with_reducible first | exact HK.out | apply KeepBut.set_ | apply keep_drewN | apply keep_drew | apply keep_alloc | refine keep_far ?_ GW151.out _ | refine keep_far ?_ GW199.out _) | exact HK.out))))
           have n4_ := Aq (Kd.R_lower (Kd.R_newB (Kd.R_newB (Kd.R_new' ho1 (Kd.R_lt (by (with_reducible repeat (first | apply Kd.R_alloc | apply Kd.R_drewN | apply Kd.R_drew)); exact HO_200004.out))) (g := gb151) (o := .cells #[.int .i64 0, .string (⟨#[]⟩ : ByteArray), .slice none 0 0, .int .i64 0, .slice none 0 0] 35 (0, 0)) (by (with_reducible repeat (first | refine zN ?_ _ | refine zD ?_ | refine zA ?_ _)); exact BK151.out)) (g := gb199) (o := .cells #[.int .i64 3, .string (⟨#[]⟩ : ByteArray), .slice none 0 0, .int .i64 0, u200004] 35 (0, 0)) (by (with_reducible repeat (first | refine zN ?_ _ | refine zD ?_ | refine zA ?_ _)); exact BK199.out)) (keep_size (w := w) (g := g) (row := none) (by repeat (first | (with_reducible first | exact HK.out | apply KeepBut.set_ | apply keep_drewN | apply keep_drew | apply keep_alloc | refine keep_far ?_ GW151.out _ | refine keep_far ?_ GW199.out _) | exact HK.out))))
           have n5_ := Aq (KeepBut.trans (by repeat (first | (with_reducible first | exact HK.out | apply KeepBut.set_ | apply keep_drewN | apply keep_drew | apply keep_alloc | refine keep_far ?_ GW151.out _ | refine keep_far ?_ GW199.out _) | exact HK.out)) hk (.inl rfl))
           have n6_ := Aq (hb)
           have n7_ := Aq (hi)
           clear HO_200004 BK151 BK199 HK HB HI0
           have HO_200004 := n0_
           have BK151 := n1_
           have BK199 := n2_
           have HO206 := n3_
           have HO210 := n4_
           have HK := n5_
           have HB := n6_
           have HI0 := n7_
           clear n0_ n1_ n2_ n3_ n4_ n5_ n6_ n7_
           (try clear hb)
           (try clear hb2)
           (try clear hk)
           (try clear hi)
           (try clear ho0)
           (try clear ho1)
           obtain ⟨Ao70, co70, eo70⟩ := Kd.R_slice HO206.out
           (first | subst eo70 | (injection eo70 with f1_ f2_ f3_; have f4_ := f1_.symm; have f5_ := f3_.symm; clear f1_ f2_ f3_; subst f4_; subst f5_))
           obtain ⟨Ao71, co71, eo71⟩ := Kd.R_slice HO210.out
           (first | subst eo71 | (injection eo71 with f1_ f2_ f3_; have f4_ := f1_.symm; have f5_ := f3_.symm; clear f1_ f2_ f3_; subst f4_; subst f5_))
           refine hK.out _ _ ⟨(blk_cell BK199.out 0).trans rfl, (blk_cell BK199.out 1).trans rfl, (blk_cell BK199.out 2).trans rfl, (blk_cell BK199.out 3).trans rfl, (blk_cell BK199.out 4).trans rfl⟩ (fun hHeld => ?_)
           clear hK K
           refine norm_ (a' := ?_) ?_ ?_
           rotate_left
           ·show Act.put _ (some 68) _ = _
            simp only [Act.put, sA, sB, sC, i64_w, i32_w]
            rfl
           refine one_ (i := 6) (N := some 69) #[true, true, true, true, true, true, true, false, false, false] rfl rfl (one_of HT_.out (by kernel_rfl)) (by decide) (fun K hK => ?_)
           refine value_ (w1 := ?_) (v := ?_) (by rfl) rfl ?_ ?_
           rotate_left 2
           ·go_simp
            constructor
            ·rfl
            ·rfl
           refine hK.out _ _ ⟨(blk_cell (zA BK199.out _) 0).trans rfl, (blk_cell (zA BK199.out _) 1).trans rfl, (blk_cell (zA BK199.out _) 2).trans rfl, (blk_cell (zA BK199.out _) 3).trans rfl, (blk_cell (zA BK199.out _) 4).trans rfl⟩ (fun hHeld => ?_)
           clear hK K
           refine norm_ (a' := ?_) ?_ ?_
           rotate_left
           ·show Act.put _ (some 69) _ = _
            simp only [Act.put, sA, sB, sC, i64_w, i32_w]
            rfl
           refine one_ (i := 7) (N := some 70) #[true, true, true, true, true, true, true, true, false, false] rfl rfl (one_of HT_.out (by kernel_rfl)) (by decide) (fun K hK => ?_)
           refine Kd.R_append_step k35 w.heap.size (by rfl) (.tmp 64) (.tmp 69) 33 35 (.agg #[(.int .i64 0), (.string ⟨#[]⟩), (.slice none 0 0), (.int .i64 0), (.slice none 0 0)]) 80 rfl Try.underlying33 info35 rfl (by decide) (by omega) u200004 x200004_2 (⟨t202, t203, t204, t207, t208⟩ : S35) [.int .i64 t202, .string t203, .slice Ao70 t204.length co70, .int .i64 t207, .slice Ao71 t208.length co71] (fun k_ => k_ ≠ gb151 ∧ k_ ≠ gb199) (fun k_ => ((fun k_ => k_ ≠ gb151 ∧ k_ ≠ gb199)) k_ ∧ some k_ ≠ (u200004 : Value).ownBlock) rfl rfl ?aP (fun _ hk => hk) ?aF ?aO (Below.refl _ _) ?aS ?aL ?_
           (case aP => exact k35_mkM _ _ _ (⟨t202, t203, t204, t207, t208⟩ : S35) (Kd.R_mono (Kd.R_types (Kd.R_types (Kd.R_apart' (HO206.out) (Kd.R_typed HO_200004.out) (by decide)) BK151.out (by decide)) BK199.out (by decide)) (fun k_ hk => ⟨⟨hk.1.2, hk.2⟩, hk.1.1.2⟩)) (Kd.R_mono (HO210.out) (fun k_ hk => ⟨⟨hk.1.2, hk.2⟩, hk.1.1.2⟩)))
           (case aF => exact (fun k_ hk => ⟨Kd.freshB (g := gb151) (o := .cells #[.int .i64 0, .string (⟨#[]⟩ : ByteArray), .slice none 0 0, .int .i64 0, .slice none 0 0] 35 (0, 0)) (by (with_reducible repeat (first | refine zN ?_ _ | refine zD ?_ | refine zA ?_ _)); exact BK151.out) k_ hk, Kd.freshB (g := gb199) (o := .cells #[.int .i64 3, .string (⟨#[]⟩ : ByteArray), .slice none 0 0, .int .i64 0, u200004] 35 (0, 0)) (by (with_reducible repeat (first | refine zN ?_ _ | refine zD ?_ | refine zA ?_ _)); exact BK199.out) k_ hk⟩))
           (case aO => exact (by (with_reducible repeat (first | apply Kd.R_alloc | apply Kd.R_drewN | apply Kd.R_drew)); exact Kd.R_mono HO_200004.out (fun _ hk => ⟨hk.1.1.1, hk.1.1.2⟩)))
           (case aS => exact (keep_size (w := w) (g := g) (row := none) (by repeat (first | (with_reducible first | exact HK.out | apply KeepBut.set_ | apply keep_drewN | apply keep_drew | apply keep_alloc | refine keep_far ?_ GW151.out _ | refine keep_far ?_ GW199.out _) | exact HK.out))))
           (case aL => have := LMc66.out; omega)
           intro v213 w69 ho hb hg hat
           rw [← Ny212.out] at ho
           have n0_ := Aq (blk_grown (g := gb151) (o := .cells #[.int .i64 0, .string (⟨#[]⟩ : ByteArray), .slice none 0 0, .int .i64 0, .slice none 0 0] 35 (0, 0)) (by (with_reducible repeat (first | refine zN ?_ _ | refine zD ?_ | refine zA ?_ _)); exact BK151.out) hg (Kd.R_away HO_200004.out (fun _ hk => hk.1.1.1)))
           have n1_ := Aq (blk_grown (g := gb199) (o := .cells #[.int .i64 3, .string (⟨#[]⟩ : ByteArray), .slice none 0 0, .int .i64 0, u200004] 35 (0, 0)) (by (with_reducible repeat (first | refine zN ?_ _ | refine zD ?_ | refine zA ?_ _)); exact BK199.out) hg (Kd.R_away HO_200004.out (fun _ hk => hk.1.1.2)))
           have n2_ := Aq (IsS115.grown (by repeat (first | (with_reducible first | exact HI0.out | apply IsS115.alloc | apply IsS115.drewN | apply IsS115.drew | apply IsS115.set_1 | refine IsS115.far ?_ NB0_151.out _ | refine IsS115.far ?_ NB0_199.out _) | exact HI0.out)) hg (IsS115.own_ne HI0.out HO_200004.out (by decide)))
           have n3_ := Aq (below_weaken (by repeat (first | (with_reducible first | exact HB.out | apply zB | apply zC | apply zE | refine below_set ?_ (IsS115.ge HI0.out) | refine below_set ?_ GE151.out | refine below_set ?_ GE199.out) | exact HB.out)) HL.out hb)
           have n4_ := Aq (KeepBut.trans (by repeat (first | (with_reducible first | exact HK.out | apply KeepBut.set_ | apply keep_drewN | apply keep_drew | apply keep_alloc | refine keep_far ?_ GW151.out _ | refine keep_far ?_ GW199.out _) | exact HK.out)) (KeepBut.of_grown hg g) (Kd.R_base2 HO_200004.out))
           have n5_ := Aq (ho)
           clear BK151 BK199 HI0 HB HK HO_200004 HO206 HO210
           have BK151 := n0_
           have BK199 := n1_
           have HI0 := n2_
           have HB := n3_
           have HK := n4_
           have HO214 := n5_
           clear n0_ n1_ n2_ n3_ n4_ n5_ ho hb hg hat
           obtain ⟨Ao72, co72, eo72⟩ := Kd.R_slice HO214.out
           (first | subst eo72 | (injection eo72 with f1_ f2_ f3_; have f4_ := f1_.symm; have f5_ := f3_.symm; clear f1_ f2_ f3_; subst f4_; subst f5_))
           refine hK.out _ _ ⟨(blk_cell BK199.out 0).trans rfl, (blk_cell BK199.out 1).trans rfl, (blk_cell BK199.out 2).trans rfl, (blk_cell BK199.out 3).trans rfl, (blk_cell BK199.out 4).trans rfl⟩ (fun hHeld => ?_)
           clear hK K
           refine norm_ (a' := ?_) ?_ ?_
           rotate_left
           ·show Act.put _ (some 70) _ = _
            simp only [Act.put, sA, sB, sC, i64_w, i32_w]
            rfl
           refine pure_ (i := 8) (N := some 71) (v := ?_) (a' := ?_) #[true, true, true, true, true, true, true, true, true, false] rfl rfl (any_of HT_.out (by kernel_rfl)) (fun _ _ _ h => h) (Or.inl ⟨by rfl, ?_⟩) ?_ ?_
           rotate_left
           ·intro w'
            go_simp
            with_reducible rfl
           rotate_left
           ·simp only [Act.put, sA, sB, sC, i64_w, i32_w]
            rfl
           refine last_ (i := 9) (N := none) #[true, true, true, true, true, true, true, true, true, true] rfl rfl (one_of HT_.out (by kernel_rfl)) (by decide) (fun K hK => ?_)
           have hs73 : w69.cell? ⟨gb199, 4, none⟩ = some (u200004) := (blk_cell BK199.out 4).trans rfl
           have hfs73 := blk_frozen BK199.out 4
           have hns73_0 := NB151_199.out
           have hms73_0 := NB199_151.out
           refine skip_ (w1 := ?_) (by rfl) rfl ?_ ?_
           rotate_left
           ·go_simp
            rfl
           refine hK.out _ _ ?_
           clear hK K
           refine done_ (done_of HT_.out (by kernel_rfl)) ?_
           try go_wp2
           go_roundg k2
           case measure => have := HJ4.out; have := HK2.out; omega
           case rel => exact ⟨(wrap64 (x8_2 - 1)), (t211), (y212), (.slice Ao72 y212.length co72), (by first | rfl | (simp; done) | (simp [*]; done)), H', ⟨by have := HJ4.out; have := HK2.out; omega⟩, ⟨by (with_reducible repeat (first | apply Kd.R_alloc | apply Kd.R_drewN | apply Kd.R_drew)); exact Kd.R_mono (Kd.R_far (p := ⟨gb199, 4, none⟩) (Kd.R_mono HO214.out (fun k_ hk => (⟨hk, hk.2⟩ : _ ∧ k_ ≠ gb199))) (fun _ hk => hk.2) (.slice Ao72 y212.length co72)) (fun _ hk => ⟨hk.1.1, hk.1.2⟩)⟩, ⟨by (with_reducible repeat (first | refine zN ?_ _ | refine zD ?_ | refine zA ?_ _)); refine blk_far ?_ NB151_199.out _; (with_reducible repeat (first | refine zN ?_ _ | refine zD ?_ | refine zA ?_ _)); exact BK151.out⟩, ⟨by (with_reducible repeat (first | refine zN ?_ _ | refine zD ?_ | refine zA ?_ _)); refine blk_put (cs := #[.int .i64 3, .string (⟨#[]⟩ : ByteArray), .slice none 0 0, .int .i64 0, u200004]) ?_ 4 _ rfl; (with_reducible repeat (first | refine zN ?_ _ | refine zD ?_ | refine zA ?_ _)); exact BK199.out⟩, ⟨by repeat (first | (with_reducible first | exact HI0.out | apply IsS115.alloc | apply IsS115.drewN | apply IsS115.drew | apply IsS115.set_1 | refine IsS115.far ?_ NB0_151.out _ | refine IsS115.far ?_ NB0_199.out _) | exact HI0.out)⟩, ⟨by repeat (first | (with_reducible first | exact HK.out | apply KeepBut.set_ | apply keep_drewN | apply keep_drew | apply keep_alloc | refine keep_far ?_ GW151.out _ | refine keep_far ?_ GW199.out _) | exact HK.out)⟩, ⟨by repeat (first | (with_reducible first | exact HB.out | apply zB | apply zC | apply zE | refine below_set ?_ (IsS115.ge HI0.out) | refine below_set ?_ GE151.out | refine below_set ?_ GE199.out) | exact HB.out)⟩⟩
          ·rw [if_neg c66] at H
           exact absurd H (by simp)
         ·rw [if_neg c64] at H
          have c64b0 : decide (0 < x8_2) = false := decide_eq_false c64
          clear c64
          simp only [Option.some.injEq, Prod.mk.injEq] at H
          obtain ⟨rfl, rfl, rfl, rfl, rfl, rfl⟩ := H
          have hnb74 := NB199_151.out
          have hnc74 := NB151_199.out
          have hnb75 := NB199_0.out
          have hnc75 := NB0_199.out
          have hcz76_0 : wr.cell? ⟨gb199, 0, none⟩ = some (.int .i64 3) := (blk_cell BK199.out 0).trans rfl
          have hcz76_1 : wr.cell? ⟨gb199, 1, none⟩ = some (.string (⟨#[]⟩ : ByteArray)) := (blk_cell BK199.out 1).trans rfl
          have hcz76_2 : wr.cell? ⟨gb199, 2, none⟩ = some (.slice none 0 0) := (blk_cell BK199.out 2).trans rfl
          have hcz76_3 : wr.cell? ⟨gb199, 3, none⟩ = some (.int .i64 0) := (blk_cell BK199.out 3).trans rfl
          have hcz76_4 : wr.cell? ⟨gb199, 4, none⟩ = some (u200004) := (blk_cell BK199.out 4).trans rfl
          have hfz76_0 := blk_frozen BK199.out 0
          have hfz76_1 := blk_frozen BK199.out 1
          have hfz76_2 := blk_frozen BK199.out 2
          have hfz76_3 := blk_frozen BK199.out 3
          have hfz76_4 := blk_frozen BK199.out 4
          have hnb77 := NB151_0.out
          have hnc77 := NB0_151.out
          have hcz78_0 : wr.cell? ⟨gb151, 0, none⟩ = some (.int .i64 0) := (blk_cell BK151.out 0).trans rfl
          have hcz78_1 : wr.cell? ⟨gb151, 1, none⟩ = some (.string (⟨#[]⟩ : ByteArray)) := (blk_cell BK151.out 1).trans rfl
          have hcz78_2 : wr.cell? ⟨gb151, 2, none⟩ = some (.slice none 0 0) := (blk_cell BK151.out 2).trans rfl
          have hcz78_3 : wr.cell? ⟨gb151, 3, none⟩ = some (.int .i64 0) := (blk_cell BK151.out 3).trans rfl
          have hcz78_4 : wr.cell? ⟨gb151, 4, none⟩ = some (.slice none 0 0) := (blk_cell BK151.out 4).trans rfl
          have hfz78_0 := blk_frozen BK151.out 0
          have hfz78_1 := blk_frozen BK151.out 1
          have hfz78_2 := blk_frozen BK151.out 2
          have hfz78_3 := blk_frozen BK151.out 3
          have hfz78_4 := blk_frozen BK151.out 4
          obtain ⟨Ao79, co79, eo79⟩ := Kd.R_slice HO_200004.out
          subst eo79
          go_wp2
          refine bodyPost_ret (results_cell_row rfl _ _ gb151 35 #[.int .i64 3, .string (⟨#[]⟩ : ByteArray), .slice none 0 0, .int .i64 0, .slice Ao79 x200004_2.length co79] (0, 0) _ rfl (by (with_reducible repeat (first | refine zN ?_ _ | refine zD ?_ | refine zA ?_ _)); refine blk_put (cs := #[.int .i64 3, .string (⟨#[]⟩ : ByteArray), .slice none 0 0, .int .i64 0, .slice none 0 0]) ?_ 4 _ rfl; (with_reducible repeat (first | refine zN ?_ _ | refine zD ?_ | refine zA ?_ _)); refine blk_put (cs := #[.int .i64 3, .string (⟨#[]⟩ : ByteArray), .slice none 0 0, .int .i64 0, .slice none 0 0]) ?_ 3 _ rfl; (with_reducible repeat (first | refine zN ?_ _ | refine zD ?_ | refine zA ?_ _)); refine blk_put (cs := #[.int .i64 3, .string (⟨#[]⟩ : ByteArray), .slice none 0 0, .int .i64 0, .slice none 0 0]) ?_ 2 _ rfl; (with_reducible repeat (first | refine zN ?_ _ | refine zD ?_ | refine zA ?_ _)); refine blk_put (cs := #[.int .i64 3, .string (⟨#[]⟩ : ByteArray), .slice none 0 0, .int .i64 0, .slice none 0 0]) ?_ 1 _ rfl; (with_reducible repeat (first | refine zN ?_ _ | refine zD ?_ | refine zA ?_ _)); refine blk_put (cs := #[.int .i64 0, .string (⟨#[]⟩ : ByteArray), .slice none 0 0, .int .i64 0, .slice none 0 0]) ?_ 0 _ rfl; (with_reducible repeat (first | refine zN ?_ _ | refine zD ?_ | refine zA ?_ _)); exact BK151.out) Try.underlying35 rfl (by kernel_rfl)) rfl ?_
          exact ⟨_, _, by first | rfl | (simp [errW_none, errW_some] <;> rfl) | (simp [*, errW_none, errW_some] <;> rfl), by first | exact Kd.R_nil _ _ _ _ _ | exact Kd.N_nil _ _ _ _ _ | exact Kd.V_nil _ _ _ _ _ | exact Kd.Q_nil _ _ _ _ _ | exact Kd.S_nil _ _ _ _ _, by (with_reducible repeat (first | apply Kd.R_alloc | apply Kd.R_drewN | apply Kd.R_drew)); exact Kd.R_mono (Kd.R_far (p := ⟨gb151, 4, none⟩) (Kd.R_far (p := ⟨gb151, 3, none⟩) (Kd.R_far (p := ⟨gb151, 2, none⟩) (Kd.R_far (p := ⟨gb151, 1, none⟩) (Kd.R_far (p := ⟨gb151, 0, none⟩) (Kd.R_mono HO_200004.out (fun k_ hk => (⟨hk, hk.1⟩ : _ ∧ k_ ≠ gb151))) (fun _ hk => hk.2) (.int .i64 3)) (fun _ hk => hk.2) (.string (⟨#[]⟩ : ByteArray))) (fun _ hk => hk.2) (.slice none 0 0)) (fun _ hk => hk.2) (.int .i64 0)) (fun _ hk => hk.2) (.slice Ao79 x200004_2.length co79)) (fun _ hk => (by simp [Value.ownBlock])), by repeat (first | (with_reducible first | exact HI0.out | apply IsS115.alloc | apply IsS115.drewN | apply IsS115.drew | apply IsS115.set_1 | refine IsS115.far ?_ NB0_151.out _ | refine IsS115.far ?_ NB0_199.out _) | exact HI0.out), by repeat (first | (with_reducible first | exact HB.out | apply zB | apply zC | apply zE | refine below_set ?_ (IsS115.ge HI0.out) | refine below_set ?_ GE151.out | refine below_set ?_ GE199.out) | exact HB.out), by repeat (first | (with_reducible first | exact HK.out | apply KeepBut.set_ | apply keep_drewN | apply keep_drew | apply keep_alloc | refine keep_far ?_ GW151.out _ | refine keep_far ?_ GW199.out _) | exact HK.out)⟩
end Go.Proofs.Ytmdhanegafclmaa.PFnExpFind
