-- Laid by a program of this session (wip/tools/mkprint2.py, which turns a copy of the print); not the kit print itself.
import Derived.Test.YtmdhanegafclmaaPFnExactExpCoreShowx0
namespace Go.Proofs.Ytmdhanegafclmaa.PFnExactExpCoreShow
open Go.RowKit Go.Proofs.YtmdhanegafclmaaW.PrintWords Go.Proofs.YtmdhanegafclmaaW.PrintLast Go.Proofs.YtmdhanegafclmaaW.PrintMore
attribute [local go_sem] max2_int min2_int max_two min_two max_three min_three max_four min_four   -- for this text's walks alone
set_option linter.unusedVariables false
set_option linter.unusedSimpArgs false

/-! ### laws_toStringS: function 55 -/
def laws_toStringS.l0 : Nat → List ByteArray → List ByteArray → Int → Option (List ByteArray)
  | 0, _, _, _ => none
  | k + 1, x0, x3, x4 => if x4 < (x0.length : Int) then (if 0 ≤ x4 then (if x4 < (x3.length : Int) then (laws_toStringS.l0 k x0 (x3.set (x4 : Int).toNat (rdOf ByteArray.empty x0 x4)) (wrap64 (x4 + 1))) else (none)) else (none)) else (some x3)
def laws_toStringS.f (k : Nat) (l0 : List ByteArray) : Option (List ByteArray) := if 0 ≤ (l0.length : Int) then (if ((l0.length : Int) : Int).toNat ≤ 17592186044416 then (laws_toStringS.l0 k l0 (List.replicate ((l0.length : Int) : Int).toNat (⟨#[]⟩ : ByteArray)) 0) else (none)) else (none)
theorem laws_toStringS.mono_l : ∀ k, (∀ y0 y1 y2, LeO (laws_toStringS.l0 k y0 y1 y2) (laws_toStringS.l0 (k + 1) y0 y1 y2))
  | 0 => fun _ _ _ r h => by simp [laws_toStringS.l0] at h
  | k + 1 => by
    have ih0 := laws_toStringS.mono_l k
    · intro y0 y1 y2
      unfold laws_toStringS.l0
      repeat' first
      | (with_reducible exact ih0 _ _ _)
      | (with_reducible exact LeO.refl _)
      | (with_reducible exact LeO.none _)
      | (with_reducible refine LeO.ite ?_ ?_)
      | (with_reducible refine LeO.bind ?_ (fun _ => ?_))
      | exact ih0 _ _ _
      | exact LeO.none _
      | refine LeO.ite ?_ ?_
      | refine LeO.bind ?_ (fun _ => ?_)
theorem laws_toStringS.mono : ∀ a0 k, LeO (laws_toStringS.f k a0) (laws_toStringS.f (k + 1) a0) := by
  intro a0 k
  have ih0 := laws_toStringS.mono_l k
  unfold laws_toStringS.f
  repeat' first
      | (with_reducible exact ih0 _ _ _)
      | (with_reducible exact LeO.refl _)
      | (with_reducible exact LeO.none _)
      | (with_reducible refine LeO.ite ?_ ?_)
      | (with_reducible refine LeO.bind ?_ (fun _ => ?_))
      | exact ih0 _ _ _
      | exact LeO.none _
      | refine LeO.ite ?_ ?_
      | refine LeO.bind ?_ (fun _ => ?_)
set_option maxHeartbeats 8000000 in
set_option maxRecDepth 100000 in
theorem laws_toStringS.calls (k : Nat) (A0 : Option Addr) (c0 : Nat) (l0 : List ByteArray) (r : List ByteArray) (w : World) (hr0 : Kd.C Kd.string w A0 l0.length l0) (hc0 : l0.length ≤ c0) (h : laws_toStringS.f k l0 = some r) :
    Calls Try.prog 55 #[.slice A0 l0.length c0] w fun e w' => ∃ v0_ : Value, e = .returned (v0_) ∧ Kd.R Kd.string 9 w' w.heap.size (fun _ => True) v0_ r ∧ Below w.heap.size w w' := by
  have HR0 := Aside0.mk hr0
  have HC0 := Aside0.mk hc0
  clear hr0 hc0
  have HB := Aside0.mk (Below.refl w.heap.size w)
  have H : (if 0 ≤ (l0.length : Int) then (if ((l0.length : Int) : Int).toNat ≤ 17592186044416 then (laws_toStringS.l0 k l0 (List.replicate ((l0.length : Int) : Int).toNat (⟨#[]⟩ : ByteArray)) 0) else (none)) else (none)) = some r := h
  clear h
  by_cases c2 : 0 ≤ (l0.length : Int)
  · rw [if_pos c2] at H
    have c2b0 := eq_true c2
    have c2b1 : decide (0 ≤ (l0.length : Int)) = true := decide_eq_true c2
    clear c2
    by_cases c3 : ((l0.length : Int) : Int).toNat ≤ 17592186044416
    · rw [if_pos c3] at H
      have c3b0 := eq_true c3
      have c3b1 : decide (((l0.length : Int) : Int).toNat ≤ 17592186044416) = true := decide_eq_true c3
      clear c3
      obtain ⟨y3121, hy3121⟩ : ∃ y_ : List ByteArray, y_ = (List.replicate ((l0.length : Int) : Int).toNat (⟨#[]⟩ : ByteArray)) := ⟨_, rfl⟩
      replace H : (laws_toStringS.l0 k l0 y3121 0) = some r := by first | (rw [hy3121]; with_reducible exact H) | (have H2_ := (Option.bind_some _ _).symm.trans H; rw [hy3121]; with_reducible exact H2_) | (have H2_ := (Option.bind_some _ _).symm.trans H; with_reducible exact H2_) | with_reducible exact H | (rw [hy3121]; exact H) | exact H
      have Ny3121 := Aside0.mk hy3121
      clear hy3121
      have H' := Aside0.mk H
      clear H
      go_enter Try.func55, Try.ntmps55
      go_wp2_with (first | ((with_reducible refine gate_dst (N := 7) rfl ?_); refine Kd.R_make Kd.string _ 9 rfl (N := 7) rfl 45 _ _ rfl (l0.length : Int) rfl rfl Try.underlying45 (.string ⟨#[]⟩) 16 info9 rfl (by decide) (by omega) (⟨#[]⟩ : ByteArray) (ok := fun _ => True) (okp := fun _ => True) rfl (fun _ hk => hk) trivial (of_decide_eq_true (by first | (with_reducible assumption) | assumption)) (Nat.le_trans (Nat.mul_le_mul_right _ (of_decide_eq_true (by first | (with_reducible assumption) | assumption) : (l0.length : Int).toNat ≤ 17592186044416)) (by omega)) (Below.refl _ _) (Nat.le_refl _) ?_; intro v3122 w4 ho5 hb hg_ hnew_; clear hg_ hnew_; (first | rw [← Ny3121.out] at ho5 | (simp only [Int.reduceToNat] at ho5; rw [← Ny3121.out] at ho5)); have n0_ := Aside0.mk (Kd.R_lower ho5 (below_size (by repeat (first | (with_reducible first | exact HB.out | apply below_alloc | apply pw_below_drewN | apply below_drew1) | exact HB.out)))); have n1_ := Aside0.mk (below_step (by repeat (first | (with_reducible first | exact HB.out | apply below_alloc | apply pw_below_drewN | apply below_drew1) | exact HB.out)) hb); clear HB; have HO3123 := n0_; have HB := n1_; clear n0_ n1_; clear hb ho5))
      go_loopg [4] k (fun kq v4 w' => ∃ (x3_1 : List ByteArray) (x4_1 : Int), v4 = .int .i64 x4_1 ∧ Aside0 (laws_toStringS.l0 kq l0 x3_1 x4_1 = some r) ∧ Aside0 (kq ≤ k) ∧ Aside0 (Kd.R Kd.string 9 w' w.heap.size (fun _ => True) v3122 x3_1) ∧ Aside0 (Below w.heap.size w w'))
      case atStart => exact ⟨(y3121), (0), (by first | rfl | (simp; done) | (simp [*]; done)), H', ⟨Nat.le_refl _⟩, ⟨by (with_reducible repeat (first | apply Kd.R_alloc | apply Kd.R_drewN | apply Kd.R_drew)); exact HO3123.out⟩, ⟨by repeat (first | (with_reducible first | exact HB.out | apply below_alloc | apply pw_below_drewN | apply below_drew1) | exact HB.out)⟩⟩
      case round =>
        clear H'
        try clear c2
        try clear c2b0
        try clear c2b1
        try clear p2
        try clear c3
        try clear c3b0
        try clear c3b1
        try clear c5
        obtain ⟨x3_1, x4_1, rfl, HA, HK1, HO_3, HB⟩ := hrel
        cases gk with
        | zero => exact absurd HA.out (by simp [laws_toStringS.l0])
        | succ k1 =>
          have H := HA.out
          clear HA
          simp only [laws_toStringS.l0] at H
          by_cases c6 : x4_1 < (l0.length : Int)
          · rw [if_pos c6] at H
            have c6b0 : decide (x4_1 < (l0.length : Int)) = true := decide_eq_true c6
            clear c6
            by_cases c7 : 0 ≤ x4_1
            · rw [if_pos c7] at H
              have c7b0 : decide (0 ≤ x4_1) = true := decide_eq_true c7
              clear c7
              by_cases c8 : x4_1 < (x3_1.length : Int)
              · rw [if_pos c8] at H
                have c8b0 : decide (x4_1 < (x3_1.length : Int)) = true := decide_eq_true c8
                clear c8
                obtain ⟨y3125, hy3125⟩ : ∃ y_ : List ByteArray, y_ = (x3_1.set (x4_1 : Int).toNat (rdOf ByteArray.empty l0 x4_1)) := ⟨_, rfl⟩
                replace H : (laws_toStringS.l0 k1 l0 y3125 (wrap64 (x4_1 + 1))) = some r := by first | (rw [hy3125]; with_reducible exact H) | (have H2_ := (Option.bind_some _ _).symm.trans H; rw [hy3125]; with_reducible exact H2_) | (have H2_ := (Option.bind_some _ _).symm.trans H; with_reducible exact H2_) | with_reducible exact H | (rw [hy3125]; exact H) | exact H
                have Ny3125 := Aside0.mk hy3125
                clear hy3125
                have H' := Aside0.mk H
                clear H
                have p3124 : 0 ≤ (x4_1 : Int) := of_decide_eq_true (by first | (with_reducible assumption) | assumption)
                have q3124 : x4_1 < (l0.length : Int) := of_decide_eq_true (by first | (with_reducible assumption) | assumption)
                obtain ⟨ad3124, e3124, hx3124_0⟩ := Kd.at_string HR0.out x4_1 p3124 q3124
                cases e3124
                replace hx3124_0 := (HB.out.cell (World.block_lt_of_cell? w _ hx3124_0)).trans hx3124_0
                replace p3124 := eq_true p3124
                replace q3124 := eq_true q3124
                have p9 : 0 ≤ (x4_1 : Int) := of_decide_eq_true (by first | (with_reducible assumption) | assumption)
                have q9 : (x4_1 : Int) < ((x3_1.length : Int) : Int) := of_decide_eq_true (by first | (with_reducible assumption) | assumption)
                obtain ⟨go9, co9, eo9, gb9, gl9, cl9, HG9⟩ := Kd.R_form HO_3.out (by omega)
                (first | cases eo9 | (injection eo9 with ea_ en_ ec_; (first | subst ea_ | (injection ea_ with ea_; subst ea_)); subst ec_; clear en_))
                have GB9 := Aside0.mk gb9
                have GG9 := Aside0.mk HG9
                clear gb9 gl9 HG9
                obtain ⟨hx9_0, hf9_0⟩ := Kd.R_celln (⟨#[]⟩ : ByteArray) HO_3.out (x4_1 : Int) p9 q9
                replace p9 := eq_true p9
                replace q9 := eq_true q9
                have HP10 := Kd.R_putg HO_3.out (x4_1 : Int) (rdOf ByteArray.empty l0 x4_1)
                go_wp2_with (first | ((with_reducible refine gate_store (t := 9) (p := 20) rfl ?_); refine store_event (t := 9) (p := 20) (v := ?vo_w11) (w1 := (wr.setCell ⟨go9, (x4_1 : Int).toNat, none⟩ (.string (rdOf ByteArray.empty l0 x4_1)))) ?hg ?ho ?hn ?hr ?_; (case ho => rfl); (case hg => rfl); (case hn => rfl); (case hr => first | (go_simp; done) | (go_simp; rfl)); intro w11 hw; have hg : wr.grownBy w11 (some go9) := (by rw [hw]; exact HP10.2); have hp_ : Kd.R Kd.string 9 w11 w.heap.size (fun _ => True) (.slice (some ⟨go9, 0, none⟩) x3_1.length co9) y3125 := (by rw [hw, Ny3125.out]; exact HP10.1); clear HP10; have n0_ := Aside0.mk (hp_); have n1_ := Aside0.mk ((by rw [hw]; exact below_set (HB.out) GB9.out : Below w.heap.size w w11)); clear HO_3; clear HB; have HO_3 := n0_; have HB := n1_; clear n0_ n1_; clear hg hw hp_))
                go_roundg k1
                case measure => have := HK1.out; omega
                case rel => exact ⟨(y3125), (wrap64 (x4_1 + 1)), (by first | rfl | (simp; done) | (simp [*]; done)), H', ⟨by have := HK1.out; omega⟩, ⟨by (with_reducible repeat (first | apply Kd.R_alloc | apply Kd.R_drewN | apply Kd.R_drew)); exact HO_3.out⟩, ⟨by repeat (first | (with_reducible first | exact HB.out | apply below_alloc | apply pw_below_drewN | apply below_drew1) | exact HB.out)⟩⟩
              · rw [if_neg c8] at H
                exact absurd H (by simp)
            · rw [if_neg c7] at H
              exact absurd H (by simp)
          · rw [if_neg c6] at H
            have c6b0 : decide (x4_1 < (l0.length : Int)) = false := decide_eq_false c6
            clear c6
            obtain rfl := Option.some.inj H
            go_wp2
            go_ret
            exact ⟨_, by first | rfl | (simp [errW_none, errW_some] <;> rfl) | (simp [*, errW_none, errW_some] <;> rfl), by (with_reducible repeat (first | apply Kd.R_alloc | apply Kd.R_drewN | apply Kd.R_drew)); exact HO_3.out, by repeat (first | (with_reducible first | exact HB.out | apply below_alloc | apply pw_below_drewN | apply below_drew1) | exact HB.out)⟩
    · rw [if_neg c3] at H
      exact absurd H (by simp)
  · rw [if_neg c2] at H
    exact absurd H (by simp)

/-! ### laws_toExpCoreS: function 14 -/
/-! ### laws_toExpCore: function 24 -/
mutual
def laws_toExpCoreS.l0 : Nat → List (S47) → List (S51) → Int → Option ((List (S51)))
  | 0, _, _, _ => none
  | k + 1, x0, x3, x4 => if x4 < (x0.length : Int) then (if 0 ≤ x4 then ((laws_toExpCore.f k ((rd_T47 x0 x4).f0) ((rd_T47 x0 x4).f1) ((rd_T47 x0 x4).f2) ((rd_T47 x0 x4).f3) ((rd_T47 x0 x4).f4)).bind fun bt3130 => (if x4 < (x3.length : Int) then (laws_toExpCoreS.l0 k x0 (x3.set (x4 : Int).toNat (⟨bt3130.1, bt3130.2.1, bt3130.2.2.1, bt3130.2.2.2.1, bt3130.2.2.2.2⟩ : S51)) (wrap64 (x4 + 1))) else (none))) else (none)) else (some x3)
def laws_toExpCoreS.f : Nat → List (S47) → Option ((List (S51)))
  | 0, _ => none
  | k + 1, l0 => if 0 ≤ (l0.length : Int) then (if ((l0.length : Int) : Int).toNat ≤ 3518437208883 then (laws_toExpCoreS.l0 k l0 (List.replicate ((l0.length : Int) : Int).toNat z51) 0) else (none)) else (none)
def laws_toExpCore.f : Nat → Int → ByteArray → Bool → List ByteArray → List (S47) → Option (Int × ByteArray × Bool × List ByteArray × (List (S51)))
  | 0, _, _, _, _, _ => none
  | k + 1, a0_0, a0_1, a0_2, l0_3, l0_4 => (laws_toStringS.f k l0_3).bind fun t6129 => ((laws_toExpCoreS.f k l0_4).bind fun t6132 => (some (a0_0, a0_1, a0_2, t6129, t6132)))
end
theorem laws_toExpCoreS_group.mono_l : ∀ k, (∀ y0, LeO (laws_toExpCoreS.f k y0) (laws_toExpCoreS.f (k + 1) y0)) ∧ (∀ y0 y1 y2, LeO (laws_toExpCoreS.l0 k y0 y1 y2) (laws_toExpCoreS.l0 (k + 1) y0 y1 y2)) ∧ (∀ y0 y1 y2 y3 y4, LeO (laws_toExpCore.f k y0 y1 y2 y3 y4) (laws_toExpCore.f (k + 1) y0 y1 y2 y3 y4))
  | 0 => ⟨fun _ r h => by simp [laws_toExpCoreS.f] at h, fun _ _ _ r h => by simp [laws_toExpCoreS.l0] at h, fun _ _ _ _ _ r h => by simp [laws_toExpCore.f] at h⟩
  | k + 1 => by
    obtain ⟨ih0, ih1, ih2⟩ := laws_toExpCoreS_group.mono_l k
    refine ⟨?_, ?_, ?_⟩
    · intro y0
      unfold laws_toExpCoreS.f
      repeat' first
      | (with_reducible exact ih0 _)
      | (with_reducible exact ih1 _ _ _)
      | (with_reducible exact ih2 _ _ _ _ _)
      | (with_reducible exact laws_toStringS.mono _ _)
      | (with_reducible exact LeO.refl _)
      | (with_reducible exact LeO.none _)
      | (with_reducible refine LeO.ite ?_ ?_)
      | (with_reducible refine LeO.bind ?_ (fun _ => ?_))
      | exact ih0 _
      | exact ih1 _ _ _
      | exact ih2 _ _ _ _ _
      | exact laws_toStringS.mono _ _
      | exact LeO.none _
      | refine LeO.ite ?_ ?_
      | refine LeO.bind ?_ (fun _ => ?_)
    · intro y0 y1 y2
      unfold laws_toExpCoreS.l0
      repeat' first
      | (with_reducible exact ih0 _)
      | (with_reducible exact ih1 _ _ _)
      | (with_reducible exact ih2 _ _ _ _ _)
      | (with_reducible exact laws_toStringS.mono _ _)
      | (with_reducible exact LeO.refl _)
      | (with_reducible exact LeO.none _)
      | (with_reducible refine LeO.ite ?_ ?_)
      | (with_reducible refine LeO.bind ?_ (fun _ => ?_))
      | exact ih0 _
      | exact ih1 _ _ _
      | exact ih2 _ _ _ _ _
      | exact laws_toStringS.mono _ _
      | exact LeO.none _
      | refine LeO.ite ?_ ?_
      | refine LeO.bind ?_ (fun _ => ?_)
    · intro y0 y1 y2 y3 y4
      unfold laws_toExpCore.f
      repeat' first
      | (with_reducible exact ih0 _)
      | (with_reducible exact ih1 _ _ _)
      | (with_reducible exact ih2 _ _ _ _ _)
      | (with_reducible exact laws_toStringS.mono _ _)
      | (with_reducible exact LeO.refl _)
      | (with_reducible exact LeO.none _)
      | (with_reducible refine LeO.ite ?_ ?_)
      | (with_reducible refine LeO.bind ?_ (fun _ => ?_))
      | exact ih0 _
      | exact ih1 _ _ _
      | exact ih2 _ _ _ _ _
      | exact laws_toStringS.mono _ _
      | exact LeO.none _
      | refine LeO.ite ?_ ?_
      | refine LeO.bind ?_ (fun _ => ?_)
theorem laws_toExpCoreS.mono : ∀ a0 k, LeO (laws_toExpCoreS.f k a0) (laws_toExpCoreS.f (k + 1) a0) := by
  intro a0 k
  obtain ⟨ih0, ih1, ih2⟩ := laws_toExpCoreS_group.mono_l k
  exact ih0 a0
theorem laws_toExpCore.mono : ∀ a0 a1 a2 a3 a4 k, LeO (laws_toExpCore.f k a0 a1 a2 a3 a4) (laws_toExpCore.f (k + 1) a0 a1 a2 a3 a4) := by
  intro a0 a1 a2 a3 a4 k
  obtain ⟨ih0, ih1, ih2⟩ := laws_toExpCoreS_group.mono_l k
  exact ih2 a0 a1 a2 a3 a4
abbrev laws_toExpCoreS.Spec (k : Nat) : Prop := ∀ (A0 : Option Addr) (c0 : Nat) (l0 : List (S47)) (r : List (S51)) (w : World) (hr0 : Kd.C k47 w A0 l0.length l0) (hc0 : l0.length ≤ c0) (h : laws_toExpCoreS.f k l0 = some r),
    Calls Try.prog 14 #[.slice A0 l0.length c0] w fun e w' => ∃ v0_ : Value, e = .returned (v0_) ∧ Kd.R k51 51 w' w.heap.size (fun _ => True) v0_ r ∧ Below w.heap.size w w'
abbrev laws_toExpCore.Spec (k : Nat) : Prop := ∀ (a0_0 : Int) (a0_1 : ByteArray) (a0_2 : Bool) (A0_3 : Option Addr) (c0_3 : Nat) (l0_3 : List ByteArray) (A0_4 : Option Addr) (c0_4 : Nat) (l0_4 : List (S47)) (r1 : Int) (r2 : ByteArray) (r3 : Bool) (r4 : List ByteArray) (r5 : List (S51)) (w : World) (hr0_3 : Kd.C Kd.string w A0_3 l0_3.length l0_3) (hc0_3 : l0_3.length ≤ c0_3) (hr0_4 : Kd.C k47 w A0_4 l0_4.length l0_4) (hc0_4 : l0_4.length ≤ c0_4) (h : laws_toExpCore.f k a0_0 a0_1 a0_2 l0_3 l0_4 = some (r1, r2, r3, r4, r5)),
    Calls Try.prog 24 #[.agg #[.int .i64 a0_0, .string a0_1, .bool a0_2, .slice A0_3 l0_3.length c0_3, .slice A0_4 l0_4.length c0_4]] w fun e w' => ∃ v3_ v4_ : Value, e = .returned (.agg #[.int .i64 r1, .string r2, .bool r3, v3_, v4_]) ∧ Kd.R Kd.string 9 w' w.heap.size (fun _ => True) v3_ r4 ∧ Kd.R k51 51 w' w.heap.size (fun k_ => some k_ ≠ (v3_ : Value).ownBlock) v4_ r5 ∧ Below w.heap.size w w'
set_option maxHeartbeats 8000000 in
set_option maxRecDepth 100000 in
theorem laws_toExpCoreS.step (k : Nat) (ih14 : ∀ m, m < k → laws_toExpCoreS.Spec m) (ih24 : ∀ m, m < k → laws_toExpCore.Spec m) : ∀ (A0 : Option Addr) (c0 : Nat) (l0 : List (S47)) (r : List (S51)) (w : World) (hr0 : Kd.C k47 w A0 l0.length l0) (hc0 : l0.length ≤ c0) (h : laws_toExpCoreS.f k l0 = some r),
    Calls Try.prog 14 #[.slice A0 l0.length c0] w fun e w' => ∃ v0_ : Value, e = .returned (v0_) ∧ Kd.R k51 51 w' w.heap.size (fun _ => True) v0_ r ∧ Below w.heap.size w w' := by
  intro A0 c0 l0 r w hr0 hc0 h
  cases k with
  | zero => exact absurd h (by simp [laws_toExpCoreS.f])
  | succ k =>
  simp only [laws_toExpCoreS.f] at h
  have hu47 := Try.underlying47
  have hu51 := Try.underlying51
  have HR0 := Aside0.mk hr0
  have HC0 := Aside0.mk hc0
  clear hr0 hc0
  have HB := Aside0.mk (Below.refl w.heap.size w)
  have H : (if 0 ≤ (l0.length : Int) then (if ((l0.length : Int) : Int).toNat ≤ 3518437208883 then (laws_toExpCoreS.l0 k l0 (List.replicate ((l0.length : Int) : Int).toNat z51) 0) else (none)) else (none)) = some r := h
  clear h
  by_cases c2 : 0 ≤ (l0.length : Int)
  · rw [if_pos c2] at H
    have c2b0 := eq_true c2
    have c2b1 : decide (0 ≤ (l0.length : Int)) = true := decide_eq_true c2
    clear c2
    by_cases c3 : ((l0.length : Int) : Int).toNat ≤ 3518437208883
    · rw [if_pos c3] at H
      have c3b0 := eq_true c3
      have c3b1 : decide (((l0.length : Int) : Int).toNat ≤ 3518437208883) = true := decide_eq_true c3
      clear c3
      obtain ⟨y3126, hy3126⟩ : ∃ y_ : List (S51), y_ = (List.replicate ((l0.length : Int) : Int).toNat z51) := ⟨_, rfl⟩
      replace H : (laws_toExpCoreS.l0 k l0 y3126 0) = some r := by first | (rw [hy3126]; with_reducible exact H) | (have H2_ := (Option.bind_some _ _).symm.trans H; rw [hy3126]; with_reducible exact H2_) | (have H2_ := (Option.bind_some _ _).symm.trans H; with_reducible exact H2_) | with_reducible exact H | (rw [hy3126]; exact H) | exact H
      have Ny3126 := Aside0.mk hy3126
      clear hy3126
      have H' := Aside0.mk H
      clear H
      go_enter Try.func14, Try.ntmps14
      go_wp2_with (first | ((with_reducible refine gate_dst (N := 7) rfl ?_); refine Kd.R_make k51 _ 51 rfl (N := 7) rfl 27 _ _ rfl (l0.length : Int) rfl rfl Try.underlying27 (.agg #[(.int .i64 0), (.string ⟨#[]⟩), (.bool false), (.slice none 0 0), (.slice none 0 0)]) 80 info51 rfl (by decide) (by omega) z51 (ok := fun _ => True) (okp := fun _ => True) (k51_mkM _ _ _ z51 (Kd.R_nil _ _ _ _ _) (Kd.R_nil _ _ _ _ _)) (fun _ hk => hk) trivial (of_decide_eq_true (by first | (with_reducible assumption) | assumption)) (Nat.le_trans (Nat.mul_le_mul_right _ (of_decide_eq_true (by first | (with_reducible assumption) | assumption) : (l0.length : Int).toNat ≤ 3518437208883)) (by omega)) (Below.refl _ _) (Nat.le_refl _) ?_; intro v3127 w4 ho5 hb hg_ hnew_; clear hg_ hnew_; (first | rw [← Ny3126.out] at ho5 | (simp only [Int.reduceToNat] at ho5; rw [← Ny3126.out] at ho5)); have n0_ := Aside0.mk (Kd.R_lower ho5 (below_size (by repeat (first | (with_reducible first | exact HB.out | apply below_alloc | apply pw_below_drewN | apply below_drew1) | exact HB.out)))); have n1_ := Aside0.mk (below_step (by repeat (first | (with_reducible first | exact HB.out | apply below_alloc | apply pw_below_drewN | apply below_drew1) | exact HB.out)) hb); clear HB; have HO3128 := n0_; have HB := n1_; clear n0_ n1_; clear hb ho5))
      go_loopg [4] k (fun kq v4 w' => ∃ (x3_1 : List (S51)) (x4_1 : Int), v4 = .int .i64 x4_1 ∧ Aside0 (laws_toExpCoreS.l0 kq l0 x3_1 x4_1 = some r) ∧ Aside0 (kq ≤ k) ∧ Aside0 (Kd.R k51 51 w' w.heap.size (fun _ => True) v3127 x3_1) ∧ Aside0 (Below w.heap.size w w'))
      case atStart => exact ⟨(y3126), (0), (by first | rfl | (simp; done) | (simp [*]; done)), H', ⟨Nat.le_refl _⟩, ⟨by (with_reducible repeat (first | apply Kd.R_alloc | apply Kd.R_drewN | apply Kd.R_drew)); exact HO3128.out⟩, ⟨by repeat (first | (with_reducible first | exact HB.out | apply below_alloc | apply pw_below_drewN | apply below_drew1) | exact HB.out)⟩⟩
      case round =>
        clear H'
        try clear c1
        try clear c2
        try clear c2b0
        try clear c2b1
        try clear p2
        try clear c3
        try clear c3b0
        try clear c3b1
        obtain ⟨x3_1, x4_1, rfl, HA, HK1, HO_3, HB⟩ := hrel
        cases gk with
        | zero => exact absurd HA.out (by simp [laws_toExpCoreS.l0])
        | succ k1 =>
          have H := HA.out
          clear HA
          simp only [laws_toExpCoreS.l0] at H
          by_cases c6 : x4_1 < (l0.length : Int)
          · rw [if_pos c6] at H
            have c6b0 : decide (x4_1 < (l0.length : Int)) = true := decide_eq_true c6
            clear c6
            by_cases c7 : 0 ≤ x4_1
            · rw [if_pos c7] at H
              have c7b0 : decide (0 ≤ x4_1) = true := decide_eq_true c7
              clear c7
              replace H := Option.bind_eq_some_iff.mp H
              obtain ⟨⟨t3130, t3131, t3132, t3133, t3136⟩, A80, H⟩ := H
              replace H : (if x4_1 < (x3_1.length : Int) then (laws_toExpCoreS.l0 k1 l0 (x3_1.set (x4_1 : Int).toNat (⟨t3130, t3131, t3132, t3133, t3136⟩ : S51)) (wrap64 (x4_1 + 1))) else (none)) = some r := H
              have A8 := Aside0.mk A80
              clear A80
              by_cases c9 : x4_1 < (x3_1.length : Int)
              · rw [if_pos c9] at H
                have c9b0 : decide (x4_1 < (x3_1.length : Int)) = true := decide_eq_true c9
                clear c9
                obtain ⟨y3139, hy3139⟩ : ∃ y_ : List (S51), y_ = (x3_1.set (x4_1 : Int).toNat (⟨t3130, t3131, t3132, t3133, t3136⟩ : S51)) := ⟨_, rfl⟩
                replace H : (laws_toExpCoreS.l0 k1 l0 y3139 (wrap64 (x4_1 + 1))) = some r := by first | (rw [hy3139]; with_reducible exact H) | (have H2_ := (Option.bind_some _ _).symm.trans H; rw [hy3139]; with_reducible exact H2_) | (have H2_ := (Option.bind_some _ _).symm.trans H; with_reducible exact H2_) | with_reducible exact H | (rw [hy3139]; exact H) | exact H
                have Ny3139 := Aside0.mk hy3139
                clear hy3139
                have H' := Aside0.mk H
                clear H
                have p3129 : 0 ≤ (x4_1 : Int) := of_decide_eq_true (by first | (with_reducible assumption) | assumption)
                have q3129 : x4_1 < (l0.length : Int) := of_decide_eq_true (by first | (with_reducible assumption) | assumption)
                obtain ⟨ad3129, A3129_3, c3129_3, A3129_4, c3129_4, e3129, hx3129_0, hx3129_1, hx3129_2, hx3129_3, hx3129_4, hl3129_3, hi3129_3, hl3129_4, hi3129_4⟩ := at_T47 HR0.out x4_1 p3129 q3129
                cases e3129
                replace hx3129_0 := (HB.out.cell (World.block_lt_of_cell? w _ hx3129_0)).trans hx3129_0
                replace hx3129_1 := (HB.out.cell (World.block_lt_of_cell? w _ hx3129_1)).trans hx3129_1
                replace hx3129_2 := (HB.out.cell (World.block_lt_of_cell? w _ hx3129_2)).trans hx3129_2
                replace hx3129_3 := (HB.out.cell (World.block_lt_of_cell? w _ hx3129_3)).trans hx3129_3
                replace hx3129_4 := (HB.out.cell (World.block_lt_of_cell? w _ hx3129_4)).trans hx3129_4
                have HR3129_3 := Aside0.mk hi3129_3
                have HC3129_3 := Aside0.mk hl3129_3
                clear hi3129_3 hl3129_3
                have HR3129_4 := Aside0.mk hi3129_4
                have HC3129_4 := Aside0.mk hl3129_4
                clear hi3129_4 hl3129_4
                replace p3129 := eq_true p3129
                replace q3129 := eq_true q3129
                go_wp2_with (first | ((with_reducible refine gate_callee (f := 24) rfl ?_); refine goesL_ (some 20) rfl rfl Try.func24 (by kernel_rfl) rfl #[.agg #[.int .i64 ((rd_T47 l0 x4_1).f0), .string ((rd_T47 l0 x4_1).f1), .bool ((rd_T47 l0 x4_1).f2), .slice A3129_3 ((rd_T47 l0 x4_1).f3).length c3129_3, .slice A3129_4 ((rd_T47 l0 x4_1).f4).length c3129_4]] rfl (by (try simp only [List.map_toArray, List.map_cons, List.map_nil]); first | done | rfl | (simp only [List.length_drop, List.length_take]; rfl)) ?_; (with_reducible refine (ih24 k1 (by have := HK1.out; omega) ((rd_T47 l0 x4_1).f0) ((rd_T47 l0 x4_1).f1) ((rd_T47 l0 x4_1).f2) _ _ ((rd_T47 l0 x4_1).f3) _ _ ((rd_T47 l0 x4_1).f4) t3130 t3131 t3132 t3133 t3136 _ ?side1 ?side2 ?side3 ?side4 A8.out).mono ?_); (case side1 => repeat (first | exact (Kd.C_below HR3129_3.out HB.out) | (with_reducible refine Kd.C_alloc ?_ _) | (with_reducible refine Kd.C_drewN ?_ _) | (with_reducible refine Kd.C_drew ?_))); (case side2 => exact HC3129_3.out); (case side3 => repeat (first | exact (Kd.C_below HR3129_4.out HB.out) | (with_reducible refine Kd.C_alloc ?_ _) | (with_reducible refine Kd.C_drewN ?_ _) | (with_reducible refine Kd.C_drew ?_))); (case side4 => exact HC3129_4.out); rintro e w11 ⟨v3134, v3137, rfl, ho0, ho1, hb⟩; refine ⟨_, rfl, ?_⟩; have n0_ := Aside0.mk (Kd.R_mono (Kd.R_told (Kd.R_told (Kd.R_old (by (with_reducible repeat (first | apply Kd.R_alloc | apply Kd.R_drewN | apply Kd.R_drew)); exact HO_3.out) hb) (Kd.R_base ho0)) (Kd.R_base ho1)) (fun _ h_ => h_.1)); have n1_ := Aside0.mk (Kd.R_lower ho0 (below_size (by repeat (first | (with_reducible first | exact HB.out | apply below_alloc | apply pw_below_drewN | apply below_drew1) | exact HB.out)))); have n2_ := Aside0.mk (Kd.R_lower (Kd.R_new' ho1 (Kd.R_lt (by (with_reducible repeat (first | apply Kd.R_alloc | apply Kd.R_drewN | apply Kd.R_drew)); exact HO_3.out))) (below_size (by repeat (first | (with_reducible first | exact HB.out | apply below_alloc | apply pw_below_drewN | apply below_drew1) | exact HB.out)))); have n3_ := Aside0.mk (below_step (by repeat (first | (with_reducible first | exact HB.out | apply below_alloc | apply pw_below_drewN | apply below_drew1) | exact HB.out)) hb); clear HO_3; clear HB; have HO_3 := n0_; have HO3135 := n1_; have HO3138 := n2_; have HB := n3_; clear n0_ n1_ n2_ n3_; (try clear hb); (try clear hb2); (try clear hk); (try clear hi); (try clear ho0); (try clear ho1); have p10 : 0 ≤ (x4_1 : Int) := of_decide_eq_true (by first | (with_reducible assumption) | assumption); have q10 : (x4_1 : Int) < ((x3_1.length : Int) : Int) := of_decide_eq_true (by first | (with_reducible assumption) | assumption); obtain ⟨go10, co10, eo10, gb10, gl10, cl10, HG10⟩ := Kd.R_form HO_3.out (by omega); (first | cases eo10 | (injection eo10 with ea_ en_ ec_; (first | subst ea_ | (injection ea_ with ea_; subst ea_)); subst ec_; clear en_)); have GB10 := Aside0.mk gb10; have GG10 := Aside0.mk HG10; clear gb10 gl10 HG10; obtain ⟨ce10, hcl10, hM10, hcc10, hfr10⟩ := Kd.R_elem HO_3.out z51 (x4_1 : Int) p10 q10; obtain ⟨ve10_3, ve10_4, rfl, ge10_3, ge10_4⟩ := k51_openM hM10; have hx10_0 : w11.cell? ⟨go10, (x4_1 : Int).toNat * 5, none⟩ = some (.int .i64 ((rd_T51 x3_1 x4_1).f0)) := hcc10 0 _ rfl; have hx10_1 : w11.cell? ⟨go10, (x4_1 : Int).toNat * 5 + 1, none⟩ = some (.string ((rd_T51 x3_1 x4_1).f1)) := hcc10 1 _ rfl; have hx10_2 : w11.cell? ⟨go10, (x4_1 : Int).toNat * 5 + 2, none⟩ = some (.bool ((rd_T51 x3_1 x4_1).f2)) := hcc10 2 _ rfl; have hx10_3 : w11.cell? ⟨go10, (x4_1 : Int).toNat * 5 + 3, none⟩ = some (ve10_3) := hcc10 3 _ rfl; have hx10_4 : w11.cell? ⟨go10, (x4_1 : Int).toNat * 5 + 4, none⟩ = some (ve10_4) := hcc10 4 _ rfl; have hf10_0 : w11.frozen? ⟨go10, (x4_1 : Int).toNat * 5, none⟩ = false := hfr10 0; have hf10_1 : w11.frozen? ⟨go10, (x4_1 : Int).toNat * 5 + 1, none⟩ = false := hfr10 1; have hf10_2 : w11.frozen? ⟨go10, (x4_1 : Int).toNat * 5 + 2, none⟩ = false := hfr10 2; have hf10_3 : w11.frozen? ⟨go10, (x4_1 : Int).toNat * 5 + 3, none⟩ = false := hfr10 3; have hf10_4 : w11.frozen? ⟨go10, (x4_1 : Int).toNat * 5 + 4, none⟩ = false := hfr10 4; clear hcl10 hcc10 hfr10 hM10; replace p10 := eq_true p10; replace q10 := eq_true q10; obtain ⟨Ao12, co12, eo12⟩ := Kd.R_slice HO3138.out; subst eo12; obtain ⟨Ao13, co13, eo13⟩ := Kd.R_slice HO3135.out; subst eo13; have n_ := Aside0.mk (Kd.R_mono (ok' := (fun k_ => some k_ ≠ (.slice Ao13 t3133.length co13 : Value).ownBlock ∧ some k_ ≠ (.slice Ao12 t3136.length co12 : Value).ownBlock)) HO_3.out (fun k_ hk => ⟨hk.1.2, hk.2⟩)); clear HO_3; have HO_3 := n_; clear n_; have HX14 := Aside0.mk (show Kd.R k51 51 w11 w.heap.size (fun _ => True) (.slice (some ⟨go10, 0, none⟩) x3_1.length co10) x3_1 from (by (with_reducible repeat (first | apply Kd.R_alloc | apply Kd.R_drewN | apply Kd.R_drew)); exact Kd.R_mono HO_3.out (fun _ hk => trivial))); obtain ⟨ce14, hcl14, hM14, hcc14, hfr14⟩ := Kd.R_elem HX14.out z51 (x4_1 : Int) (of_decide_eq_true (by first | (with_reducible assumption) | assumption)) (by have h_ : (x4_1 : Int) < ((x3_1.length : Int) : Int) := of_decide_eq_true (by first | (with_reducible assumption) | assumption); first | exact h_ | (have e_ := (Kd.R_reads' HO_3.out).1; omega) | simpa using h_); obtain ⟨ve14_3, ve14_4, rfl, ge14_3, ge14_4⟩ := k51_openM hM14; have HP14 := Kd.R_seg HX14.out (x4_1 : Int) (of_decide_eq_true (by first | (with_reducible assumption) | assumption)) (by have h_ : (x4_1 : Int) < ((x3_1.length : Int) : Int) := of_decide_eq_true (by first | (with_reducible assumption) | assumption); first | exact h_ | (have e_ := (Kd.R_reads' HO_3.out).1; omega) | simpa using h_) (seg := [.int .i64 t3130, .string t3131, .bool t3132, .slice Ao13 t3133.length co13, .slice Ao12 t3136.length co12]) (j := 0) hcl14 hcc14 (show 5 ≤ 5 from by decide) (x' := (⟨t3130, t3131, t3132, t3133, t3136⟩ : S51)) (k51_mkM _ _ _ (⟨t3130, t3131, t3132, t3133, t3136⟩ : S51) (Kd.R_mono (Kd.R_apart' (HO3135.out) (Kd.R_typed HO_3.out) (by decide)) (fun k_ hk => ⟨trivial, fun e_ => (hk.2) (by rw [e_]; rfl)⟩)) (Kd.R_mono (HO3138.out) (fun k_ hk => ⟨trivial, fun e_ => (hk.2) (by rw [e_]; rfl)⟩))) (fun _ hk => hk); have hx14_0 := hcc14 0 _ rfl; (try simp only [show (k51).sz = 5 from rfl, Nat.mul_one, Nat.add_zero] at hx14_0); have hf14_0 := hfr14 0; (try simp only [show (k51).sz = 5 from rfl, Nat.mul_one, Nat.add_zero] at hf14_0); have hx14_1 := hcc14 1 _ rfl; (try simp only [show (k51).sz = 5 from rfl, Nat.mul_one, Nat.add_zero] at hx14_1); have hf14_1 := hfr14 1; (try simp only [show (k51).sz = 5 from rfl, Nat.mul_one, Nat.add_zero] at hf14_1); have hx14_2 := hcc14 2 _ rfl; (try simp only [show (k51).sz = 5 from rfl, Nat.mul_one, Nat.add_zero] at hx14_2); have hf14_2 := hfr14 2; (try simp only [show (k51).sz = 5 from rfl, Nat.mul_one, Nat.add_zero] at hf14_2); have hx14_3 := hcc14 3 _ rfl; (try simp only [show (k51).sz = 5 from rfl, Nat.mul_one, Nat.add_zero] at hx14_3); have hf14_3 := hfr14 3; (try simp only [show (k51).sz = 5 from rfl, Nat.mul_one, Nat.add_zero] at hf14_3); have hx14_4 := hcc14 4 _ rfl; (try simp only [show (k51).sz = 5 from rfl, Nat.mul_one, Nat.add_zero] at hx14_4); have hf14_4 := hfr14 4; (try simp only [show (k51).sz = 5 from rfl, Nat.mul_one, Nat.add_zero] at hf14_4); clear hcl14 hcc14 hfr14 hM14) | ((with_reducible refine gate_store (t := 51) (p := 21) rfl ?_); refine store_event (t := 51) (p := 21) (v := ?vo_w15) (w1 := (((((w11.setCell ⟨go10, (x4_1 : Int).toNat * 5, none⟩ (.int .i64 t3130)).setCell ⟨go10, (x4_1 : Int).toNat * 5 + 1, none⟩ (.string t3131)).setCell ⟨go10, (x4_1 : Int).toNat * 5 + 2, none⟩ (.bool t3132)).setCell ⟨go10, (x4_1 : Int).toNat * 5 + 3, none⟩ (.slice Ao13 t3133.length co13)).setCell ⟨go10, (x4_1 : Int).toNat * 5 + 4, none⟩ (.slice Ao12 t3136.length co12))) ?hg ?ho ?hn ?hr ?_; (case ho => rfl); (case hg => rfl); (case hn => rfl); (case hr => first | (go_simp; done) | (go_simp; rfl)); intro w15 hw; have hg : w11.grownBy w15 (some go10) := (by rw [hw]; exact HP14.2); have hp_ : Kd.R k51 51 w15 w.heap.size (fun _ => True) (.slice (some ⟨go10, 0, none⟩) x3_1.length co10) y3139 := (by rw [hw, Ny3139.out]; exact HP14.1); clear HP14; have n0_ := Aside0.mk (hp_); have n1_ := Aside0.mk ((by rw [hw]; exact below_set (below_set (below_set (below_set (below_set (HB.out) GB10.out) GB10.out) GB10.out) GB10.out) GB10.out : Below w.heap.size w w15)); clear HO_3; clear HB; clear HO3135; clear HO3138; have HO_3 := n0_; have HB := n1_; clear n0_ n1_; clear hg hw hp_))
                go_roundg k1
                case measure => have := HK1.out; omega
                case rel => exact ⟨(y3139), (wrap64 (x4_1 + 1)), (by first | rfl | (simp; done) | (simp [*]; done)), H', ⟨by have := HK1.out; omega⟩, ⟨by (with_reducible repeat (first | apply Kd.R_alloc | apply Kd.R_drewN | apply Kd.R_drew)); exact HO_3.out⟩, ⟨by repeat (first | (with_reducible first | exact HB.out | apply below_alloc | apply pw_below_drewN | apply below_drew1) | exact HB.out)⟩⟩
              · rw [if_neg c9] at H
                exact absurd H (by simp)
            · rw [if_neg c7] at H
              exact absurd H (by simp)
          · rw [if_neg c6] at H
            have c6b0 : decide (x4_1 < (l0.length : Int)) = false := decide_eq_false c6
            clear c6
            obtain rfl := Option.some.inj H
            go_wp2
            go_ret
            exact ⟨_, by first | rfl | (simp [errW_none, errW_some] <;> rfl) | (simp [*, errW_none, errW_some] <;> rfl), by (with_reducible repeat (first | apply Kd.R_alloc | apply Kd.R_drewN | apply Kd.R_drew)); exact HO_3.out, by repeat (first | (with_reducible first | exact HB.out | apply below_alloc | apply pw_below_drewN | apply below_drew1) | exact HB.out)⟩
    · rw [if_neg c3] at H
      exact absurd H (by simp)
  · rw [if_neg c2] at H
    exact absurd H (by simp)

set_option maxHeartbeats 8000000 in
set_option maxRecDepth 100000 in
theorem laws_toExpCore.step (k : Nat) (ih14 : ∀ m, m < k → laws_toExpCoreS.Spec m) (ih24 : ∀ m, m < k → laws_toExpCore.Spec m) : ∀ (a0_0 : Int) (a0_1 : ByteArray) (a0_2 : Bool) (A0_3 : Option Addr) (c0_3 : Nat) (l0_3 : List ByteArray) (A0_4 : Option Addr) (c0_4 : Nat) (l0_4 : List (S47)) (r1 : Int) (r2 : ByteArray) (r3 : Bool) (r4 : List ByteArray) (r5 : List (S51)) (w : World) (hr0_3 : Kd.C Kd.string w A0_3 l0_3.length l0_3) (hc0_3 : l0_3.length ≤ c0_3) (hr0_4 : Kd.C k47 w A0_4 l0_4.length l0_4) (hc0_4 : l0_4.length ≤ c0_4) (h : laws_toExpCore.f k a0_0 a0_1 a0_2 l0_3 l0_4 = some (r1, r2, r3, r4, r5)),
    Calls Try.prog 24 #[.agg #[.int .i64 a0_0, .string a0_1, .bool a0_2, .slice A0_3 l0_3.length c0_3, .slice A0_4 l0_4.length c0_4]] w fun e w' => ∃ v3_ v4_ : Value, e = .returned (.agg #[.int .i64 r1, .string r2, .bool r3, v3_, v4_]) ∧ Kd.R Kd.string 9 w' w.heap.size (fun _ => True) v3_ r4 ∧ Kd.R k51 51 w' w.heap.size (fun k_ => some k_ ≠ (v3_ : Value).ownBlock) v4_ r5 ∧ Below w.heap.size w w' := by
  intro a0_0 a0_1 a0_2 A0_3 c0_3 l0_3 A0_4 c0_4 l0_4 r1 r2 r3 r4 r5 w hr0_3 hc0_3 hr0_4 hc0_4 h
  cases k with
  | zero => exact absurd h (by simp [laws_toExpCore.f])
  | succ k =>
  simp only [laws_toExpCore.f] at h
  have hu47 := Try.underlying47
  have hu51 := Try.underlying51
  have HR0_3 := Aside0.mk hr0_3
  have HC0_3 := Aside0.mk hc0_3
  clear hr0_3 hc0_3
  have HR0_4 := Aside0.mk hr0_4
  have HC0_4 := Aside0.mk hc0_4
  clear hr0_4 hc0_4
  have HB := Aside0.mk (Below.refl w.heap.size w)
  have H : ((laws_toStringS.f k l0_3).bind fun t6129 => ((laws_toExpCoreS.f k l0_4).bind fun t6132 => (some (a0_0, a0_1, a0_2, t6129, t6132)))) = some (r1, r2, r3, r4, r5) := h
  clear h
  replace H := Option.bind_eq_some_iff.mp H
  obtain ⟨t6129, A20, H⟩ := H
  replace H : ((laws_toExpCoreS.f k l0_4).bind fun t6132 => (some (a0_0, a0_1, a0_2, t6129, t6132))) = some (r1, r2, r3, r4, r5) := H
  have A2 := Aside0.mk A20
  clear A20
  replace H := Option.bind_eq_some_iff.mp H
  obtain ⟨t6132, A30, H⟩ := H
  replace H : (some (a0_0, a0_1, a0_2, t6129, t6132)) = some (r1, r2, r3, r4, r5) := H
  have A3 := Aside0.mk A30
  clear A30
  simp only [Option.some.injEq, Prod.mk.injEq] at H
  obtain ⟨rfl, rfl, rfl, rfl, rfl⟩ := H
  go_enter Try.func24, Try.ntmps24
  go_wp2_with (first | ((with_reducible refine gate_dst (N := 1) rfl ?_); refine box_event ?hg (N := 1) ?hd (cs := #[.int .i64 a0_0, .string a0_1, .bool a0_2, .slice A0_3 l0_3.length c0_3, .slice A0_4 l0_4.length c0_4]) (t := 47) ?hr ?_; (case hd => rfl); (case hg => rfl); (case hr => first | (go_simp; done) | (go_simp; rfl)); intro gb6126 hg w4 hbox hb; have n0_ := Aside0.mk (below_step (by repeat (first | (with_reducible first | exact HB.out | apply below_alloc | apply pw_below_drewN | apply below_drew1) | exact HB.out)) hb); have n1_ := Aside0.mk (hbox); have n2_ := Aside0.mk ((by rw [hg]; exact (below_size (by repeat (first | (with_reducible first | exact HB.out | apply below_alloc | apply pw_below_drewN | apply below_drew1) | exact HB.out))) : w.heap.size ≤ gb6126)); have n3_ := Aside0.mk ((by rw [hg]; exact (below_size (by repeat (first | (with_reducible first | exact HB.out | apply below_alloc | apply pw_below_drewN | apply below_drew1) | exact HB.out))) : w.heap.size ≤ gb6126)); clear HB; have HB := n0_; have BK6126 := n1_; have GW6126 := n2_; have GE6126 := n3_; clear n0_ n1_ n2_ n3_; clear hb hbox hg) | ((with_reducible refine gate_dst (N := 2) rfl ?_); refine box_event ?hg (N := 2) ?hd (cs := #[.int .i64 0, .string (⟨#[]⟩ : ByteArray), .bool false, .slice none 0 0, .slice none 0 0]) (t := 51) ?hr ?_; (case hd => rfl); (case hg => rfl); (case hr => first | (go_simp; done) | (go_simp; rfl)); intro gb6127 hg w5 hbox hb; have n0_ := Aside0.mk (blk_below (g := gb6126) (o := .cells #[.int .i64 a0_0, .string a0_1, .bool a0_2, .slice A0_3 l0_3.length c0_3, .slice A0_4 l0_4.length c0_4] 47 (0, 0)) (by (with_reducible repeat (first | refine blk_drewN ?_ _ | refine blk_drew ?_ | refine blk_alloc ?_ _)); exact BK6126.out) hb); have n1_ := Aside0.mk (below_step (by repeat (first | (with_reducible first | exact HB.out | apply below_alloc | apply pw_below_drewN | apply below_drew1 | refine below_set ?_ GE6126.out) | exact HB.out)) hb); have n2_ := Aside0.mk (hbox); have n3_ := Aside0.mk ((by rw [hg]; exact (below_size (by repeat (first | (with_reducible first | exact HB.out | apply below_alloc | apply pw_below_drewN | apply below_drew1 | refine below_set ?_ GE6126.out) | exact HB.out))) : w.heap.size ≤ gb6127)); have n4_ := Aside0.mk ((by rw [hg]; exact (below_size (by repeat (first | (with_reducible first | exact HB.out | apply below_alloc | apply pw_below_drewN | apply below_drew1 | refine below_set ?_ GE6126.out) | exact HB.out))) : w.heap.size ≤ gb6127)); have n5_ := Aside0.mk ((by rw [hg]; exact Nat.ne_of_lt (blk_lt (g := gb6126) (o := .cells #[.int .i64 a0_0, .string a0_1, .bool a0_2, .slice A0_3 l0_3.length c0_3, .slice A0_4 l0_4.length c0_4] 47 (0, 0)) (by (with_reducible repeat (first | refine blk_drewN ?_ _ | refine blk_drew ?_ | refine blk_alloc ?_ _)); exact BK6126.out)) : gb6126 ≠ gb6127)); have n6_ := Aside0.mk ((by rw [hg]; exact Nat.ne_of_gt (blk_lt (g := gb6126) (o := .cells #[.int .i64 a0_0, .string a0_1, .bool a0_2, .slice A0_3 l0_3.length c0_3, .slice A0_4 l0_4.length c0_4] 47 (0, 0)) (by (with_reducible repeat (first | refine blk_drewN ?_ _ | refine blk_drew ?_ | refine blk_alloc ?_ _)); exact BK6126.out)) : gb6127 ≠ gb6126)); clear BK6126; clear HB; have BK6126 := n0_; have HB := n1_; have BK6127 := n2_; have GW6127 := n3_; have GE6127 := n4_; have NB6126_6127 := n5_; have NB6127_6126 := n6_; clear n0_ n1_ n2_ n3_ n4_ n5_ n6_; clear hb hbox hg) | ((with_reducible refine gate_dst (N := 3) rfl ?_); refine box_event ?hg (N := 3) ?hd (cs := #[.int .i64 0, .string (⟨#[]⟩ : ByteArray), .bool false, .slice none 0 0, .slice none 0 0]) (t := 51) ?hr ?_; (case hd => rfl); (case hg => rfl); (case hr => first | (go_simp; done) | (go_simp; rfl)); intro gb6128 hg w6 hbox hb; have n0_ := Aside0.mk (blk_below (g := gb6126) (o := .cells #[.int .i64 a0_0, .string a0_1, .bool a0_2, .slice A0_3 l0_3.length c0_3, .slice A0_4 l0_4.length c0_4] 47 (0, 0)) (by (with_reducible repeat (first | refine blk_drewN ?_ _ | refine blk_drew ?_ | refine blk_alloc ?_ _)); exact BK6126.out) hb); have n1_ := Aside0.mk (blk_below (g := gb6127) (o := .cells #[.int .i64 0, .string (⟨#[]⟩ : ByteArray), .bool false, .slice none 0 0, .slice none 0 0] 51 (0, 0)) (by (with_reducible repeat (first | refine blk_drewN ?_ _ | refine blk_drew ?_ | refine blk_alloc ?_ _)); exact BK6127.out) hb); have n2_ := Aside0.mk (below_step (by repeat (first | (with_reducible first | exact HB.out | apply below_alloc | apply pw_below_drewN | apply below_drew1 | refine below_set ?_ GE6126.out | refine below_set ?_ GE6127.out) | exact HB.out)) hb); have n3_ := Aside0.mk (hbox); have n4_ := Aside0.mk ((by rw [hg]; exact (below_size (by repeat (first | (with_reducible first | exact HB.out | apply below_alloc | apply pw_below_drewN | apply below_drew1 | refine below_set ?_ GE6126.out | refine below_set ?_ GE6127.out) | exact HB.out))) : w.heap.size ≤ gb6128)); have n5_ := Aside0.mk ((by rw [hg]; exact (below_size (by repeat (first | (with_reducible first | exact HB.out | apply below_alloc | apply pw_below_drewN | apply below_drew1 | refine below_set ?_ GE6126.out | refine below_set ?_ GE6127.out) | exact HB.out))) : w.heap.size ≤ gb6128)); have n6_ := Aside0.mk ((by rw [hg]; exact Nat.ne_of_lt (blk_lt (g := gb6126) (o := .cells #[.int .i64 a0_0, .string a0_1, .bool a0_2, .slice A0_3 l0_3.length c0_3, .slice A0_4 l0_4.length c0_4] 47 (0, 0)) (by (with_reducible repeat (first | refine blk_drewN ?_ _ | refine blk_drew ?_ | refine blk_alloc ?_ _)); exact BK6126.out)) : gb6126 ≠ gb6128)); have n7_ := Aside0.mk ((by rw [hg]; exact Nat.ne_of_gt (blk_lt (g := gb6126) (o := .cells #[.int .i64 a0_0, .string a0_1, .bool a0_2, .slice A0_3 l0_3.length c0_3, .slice A0_4 l0_4.length c0_4] 47 (0, 0)) (by (with_reducible repeat (first | refine blk_drewN ?_ _ | refine blk_drew ?_ | refine blk_alloc ?_ _)); exact BK6126.out)) : gb6128 ≠ gb6126)); have n8_ := Aside0.mk ((by rw [hg]; exact Nat.ne_of_lt (blk_lt (g := gb6127) (o := .cells #[.int .i64 0, .string (⟨#[]⟩ : ByteArray), .bool false, .slice none 0 0, .slice none 0 0] 51 (0, 0)) (by (with_reducible repeat (first | refine blk_drewN ?_ _ | refine blk_drew ?_ | refine blk_alloc ?_ _)); exact BK6127.out)) : gb6127 ≠ gb6128)); have n9_ := Aside0.mk ((by rw [hg]; exact Nat.ne_of_gt (blk_lt (g := gb6127) (o := .cells #[.int .i64 0, .string (⟨#[]⟩ : ByteArray), .bool false, .slice none 0 0, .slice none 0 0] 51 (0, 0)) (by (with_reducible repeat (first | refine blk_drewN ?_ _ | refine blk_drew ?_ | refine blk_alloc ?_ _)); exact BK6127.out)) : gb6128 ≠ gb6127)); clear BK6126; clear BK6127; clear HB; have BK6126 := n0_; have BK6127 := n1_; have HB := n2_; have BK6128 := n3_; have GW6128 := n4_; have GE6128 := n5_; have NB6126_6128 := n6_; have NB6128_6126 := n7_; have NB6127_6128 := n8_; have NB6128_6127 := n9_; clear n0_ n1_ n2_ n3_ n4_ n5_ n6_ n7_ n8_ n9_; clear hb hbox hg; have hnb7 := NB6126_6127.out; have hnc7 := NB6127_6126.out; have hnb8 := NB6126_6128.out; have hnc8 := NB6128_6126.out; have hcz9_0 : w6.cell? ⟨gb6126, 0, none⟩ = some (.int .i64 a0_0) := (blk_cell BK6126.out 0).trans rfl; have hcz9_1 : w6.cell? ⟨gb6126, 1, none⟩ = some (.string a0_1) := (blk_cell BK6126.out 1).trans rfl; have hcz9_2 : w6.cell? ⟨gb6126, 2, none⟩ = some (.bool a0_2) := (blk_cell BK6126.out 2).trans rfl; have hcz9_3 : w6.cell? ⟨gb6126, 3, none⟩ = some (.slice A0_3 l0_3.length c0_3) := (blk_cell BK6126.out 3).trans rfl; have hcz9_4 : w6.cell? ⟨gb6126, 4, none⟩ = some (.slice A0_4 l0_4.length c0_4) := (blk_cell BK6126.out 4).trans rfl; have hfz9_0 := blk_frozen BK6126.out 0; have hfz9_1 := blk_frozen BK6126.out 1; have hfz9_2 := blk_frozen BK6126.out 2; have hfz9_3 := blk_frozen BK6126.out 3; have hfz9_4 := blk_frozen BK6126.out 4; have hnb10 := NB6128_6127.out; have hnc10 := NB6127_6128.out; have hcz11_0 : w6.cell? ⟨gb6128, 0, none⟩ = some (.int .i64 0) := (blk_cell BK6128.out 0).trans rfl; have hcz11_1 : w6.cell? ⟨gb6128, 1, none⟩ = some (.string (⟨#[]⟩ : ByteArray)) := (blk_cell BK6128.out 1).trans rfl; have hcz11_2 : w6.cell? ⟨gb6128, 2, none⟩ = some (.bool false) := (blk_cell BK6128.out 2).trans rfl; have hcz11_3 : w6.cell? ⟨gb6128, 3, none⟩ = some (.slice none 0 0) := (blk_cell BK6128.out 3).trans rfl; have hcz11_4 : w6.cell? ⟨gb6128, 4, none⟩ = some (.slice none 0 0) := (blk_cell BK6128.out 4).trans rfl; have hfz11_0 := blk_frozen BK6128.out 0; have hfz11_1 := blk_frozen BK6128.out 1; have hfz11_2 := blk_frozen BK6128.out 2; have hfz11_3 := blk_frozen BK6128.out 3; have hfz11_4 := blk_frozen BK6128.out 4) | ((with_reducible refine gate_callee (f := 55) rfl ?_); refine goesL_ (some 15) rfl rfl Try.func55 (by kernel_rfl) rfl #[.slice A0_3 l0_3.length c0_3] rfl (by (try simp only [List.map_toArray, List.map_cons, List.map_nil]); first | done | rfl | (simp only [List.length_drop, List.length_take]; rfl)) ?_; (with_reducible refine (laws_toStringS.calls k _ _ l0_3 t6129 _ ?side1 ?side2 A2.out).mono ?_); (case side1 => exact Kd.C_below HR0_3.out (by repeat (first | (with_reducible first | exact HB.out | apply below_alloc | apply pw_below_drewN | apply below_drew1 | refine below_set ?_ GE6126.out | refine below_set ?_ GE6127.out | refine below_set ?_ GE6128.out) | exact HB.out))); (case side2 => exact HC0_3.out); rintro e w12 ⟨v6130, rfl, ho0, hb⟩; refine ⟨_, rfl, ?_⟩; have n0_ := Aside0.mk (Kd.R_lower ho0 (below_size (by repeat (first | (with_reducible first | exact HB.out | apply below_alloc | apply pw_below_drewN | apply below_drew1 | refine below_set ?_ GE6126.out | refine below_set ?_ GE6127.out | refine below_set ?_ GE6128.out) | exact HB.out)))); have n1_ := Aside0.mk (blk_below (g := gb6126) (o := .cells #[.int .i64 a0_0, .string a0_1, .bool a0_2, .slice A0_3 l0_3.length c0_3, .slice A0_4 l0_4.length c0_4] 47 (0, 0)) (by (with_reducible repeat (first | refine blk_drewN ?_ _ | refine blk_drew ?_ | refine blk_alloc ?_ _)); refine blk_far ?_ NB6126_6128.out _; (with_reducible repeat (first | refine blk_drewN ?_ _ | refine blk_drew ?_ | refine blk_alloc ?_ _)); refine blk_far ?_ NB6126_6128.out _; (with_reducible repeat (first | refine blk_drewN ?_ _ | refine blk_drew ?_ | refine blk_alloc ?_ _)); refine blk_far ?_ NB6126_6128.out _; (with_reducible repeat (first | refine blk_drewN ?_ _ | refine blk_drew ?_ | refine blk_alloc ?_ _)); exact BK6126.out) hb); have n2_ := Aside0.mk (blk_below (g := gb6127) (o := .cells #[.int .i64 0, .string (⟨#[]⟩ : ByteArray), .bool false, .slice none 0 0, .slice none 0 0] 51 (0, 0)) (by (with_reducible repeat (first | refine blk_drewN ?_ _ | refine blk_drew ?_ | refine blk_alloc ?_ _)); refine blk_far ?_ NB6127_6128.out _; (with_reducible repeat (first | refine blk_drewN ?_ _ | refine blk_drew ?_ | refine blk_alloc ?_ _)); refine blk_far ?_ NB6127_6128.out _; (with_reducible repeat (first | refine blk_drewN ?_ _ | refine blk_drew ?_ | refine blk_alloc ?_ _)); refine blk_far ?_ NB6127_6128.out _; (with_reducible repeat (first | refine blk_drewN ?_ _ | refine blk_drew ?_ | refine blk_alloc ?_ _)); exact BK6127.out) hb); have n3_ := Aside0.mk (blk_below (g := gb6128) (o := .cells #[.int .i64 a0_0, .string a0_1, .bool a0_2, .slice none 0 0, .slice none 0 0] 51 (0, 0)) (by (with_reducible repeat (first | refine blk_drewN ?_ _ | refine blk_drew ?_ | refine blk_alloc ?_ _)); refine blk_put (cs := #[.int .i64 a0_0, .string a0_1, .bool false, .slice none 0 0, .slice none 0 0]) ?_ 2 _ rfl; (with_reducible repeat (first | refine blk_drewN ?_ _ | refine blk_drew ?_ | refine blk_alloc ?_ _)); refine blk_put (cs := #[.int .i64 a0_0, .string (⟨#[]⟩ : ByteArray), .bool false, .slice none 0 0, .slice none 0 0]) ?_ 1 _ rfl; (with_reducible repeat (first | refine blk_drewN ?_ _ | refine blk_drew ?_ | refine blk_alloc ?_ _)); refine blk_put (cs := #[.int .i64 0, .string (⟨#[]⟩ : ByteArray), .bool false, .slice none 0 0, .slice none 0 0]) ?_ 0 _ rfl; (with_reducible repeat (first | refine blk_drewN ?_ _ | refine blk_drew ?_ | refine blk_alloc ?_ _)); exact BK6128.out) hb); have n4_ := Aside0.mk (below_step (by repeat (first | (with_reducible first | exact HB.out | apply below_alloc | apply pw_below_drewN | apply below_drew1 | refine below_set ?_ GE6126.out | refine below_set ?_ GE6127.out | refine below_set ?_ GE6128.out) | exact HB.out)) hb); clear BK6126; clear BK6127; clear BK6128; clear HB; have HO6131 := n0_; have BK6126 := n1_; have BK6127 := n2_; have BK6128 := n3_; have HB := n4_; clear n0_ n1_ n2_ n3_ n4_; (try clear hb); (try clear hb2); (try clear hk); (try clear hi); (try clear ho0); obtain ⟨Ao13, co13, eo13⟩ := Kd.R_slice HO6131.out; subst eo13; have hcz14_0 : w12.cell? ⟨gb6128, 0, none⟩ = some (.int .i64 a0_0) := (blk_cell BK6128.out 0).trans rfl; have hcz14_1 : w12.cell? ⟨gb6128, 1, none⟩ = some (.string a0_1) := (blk_cell BK6128.out 1).trans rfl; have hcz14_2 : w12.cell? ⟨gb6128, 2, none⟩ = some (.bool a0_2) := (blk_cell BK6128.out 2).trans rfl; have hcz14_3 : w12.cell? ⟨gb6128, 3, none⟩ = some (.slice none 0 0) := (blk_cell BK6128.out 3).trans rfl; have hcz14_4 : w12.cell? ⟨gb6128, 4, none⟩ = some (.slice none 0 0) := (blk_cell BK6128.out 4).trans rfl; have hfz14_0 := blk_frozen BK6128.out 0; have hfz14_1 := blk_frozen BK6128.out 1; have hfz14_2 := blk_frozen BK6128.out 2; have hfz14_3 := blk_frozen BK6128.out 3; have hfz14_4 := blk_frozen BK6128.out 4; have hcz15_0 : w12.cell? ⟨gb6126, 0, none⟩ = some (.int .i64 a0_0) := (blk_cell BK6126.out 0).trans rfl; have hcz15_1 : w12.cell? ⟨gb6126, 1, none⟩ = some (.string a0_1) := (blk_cell BK6126.out 1).trans rfl; have hcz15_2 : w12.cell? ⟨gb6126, 2, none⟩ = some (.bool a0_2) := (blk_cell BK6126.out 2).trans rfl; have hcz15_3 : w12.cell? ⟨gb6126, 3, none⟩ = some (.slice A0_3 l0_3.length c0_3) := (blk_cell BK6126.out 3).trans rfl; have hcz15_4 : w12.cell? ⟨gb6126, 4, none⟩ = some (.slice A0_4 l0_4.length c0_4) := (blk_cell BK6126.out 4).trans rfl; have hfz15_0 := blk_frozen BK6126.out 0; have hfz15_1 := blk_frozen BK6126.out 1; have hfz15_2 := blk_frozen BK6126.out 2; have hfz15_3 := blk_frozen BK6126.out 3; have hfz15_4 := blk_frozen BK6126.out 4) | ((with_reducible refine gate_callee (f := 14) rfl ?_); refine goesL_ (some 19) rfl rfl Try.func14 (by kernel_rfl) rfl #[.slice A0_4 l0_4.length c0_4] rfl (by (try simp only [List.map_toArray, List.map_cons, List.map_nil]); first | done | rfl | (simp only [List.length_drop, List.length_take]; rfl)) ?_; (with_reducible refine (ih14 k (by omega) _ _ l0_4 t6132 _ ?side1 ?side2 A3.out).mono ?_); (case side1 => exact Kd.C_below HR0_4.out (by repeat (first | (with_reducible first | exact HB.out | apply below_alloc | apply pw_below_drewN | apply below_drew1 | refine below_set ?_ GE6126.out | refine below_set ?_ GE6127.out | refine below_set ?_ GE6128.out) | exact HB.out))); (case side2 => exact HC0_4.out); rintro e w16 ⟨v6133, rfl, ho0, hb⟩; refine ⟨_, rfl, ?_⟩; have n0_ := Aside0.mk (Kd.R_below (by (with_reducible repeat (first | apply Kd.R_alloc | apply Kd.R_drewN | apply Kd.R_drew)); exact (Kd.R_mono (Kd.R_far (p := ⟨gb6128, 3, none⟩) (Kd.R_types HO6131.out BK6128.out (by decide)) (fun _ hk => hk.2) (.slice Ao13 t6129.length co13)) (fun _ h_ => h_.1))) hb); have n1_ := Aside0.mk (Kd.R_lower (Kd.R_newB (Kd.R_newB (Kd.R_new' ho0 (Kd.R_lt (by (with_reducible repeat (first | apply Kd.R_alloc | apply Kd.R_drewN | apply Kd.R_drew)); exact (Kd.R_mono (Kd.R_far (p := ⟨gb6128, 3, none⟩) (Kd.R_types HO6131.out BK6128.out (by decide)) (fun _ hk => hk.2) (.slice Ao13 t6129.length co13)) (fun _ h_ => h_.1))))) (g := gb6127) (o := .cells #[.int .i64 0, .string (⟨#[]⟩ : ByteArray), .bool false, .slice none 0 0, .slice none 0 0] 51 (0, 0)) (by (with_reducible repeat (first | refine blk_drewN ?_ _ | refine blk_drew ?_ | refine blk_alloc ?_ _)); refine blk_far ?_ NB6127_6128.out _; (with_reducible repeat (first | refine blk_drewN ?_ _ | refine blk_drew ?_ | refine blk_alloc ?_ _)); exact BK6127.out)) (g := gb6128) (o := .cells #[.int .i64 a0_0, .string a0_1, .bool a0_2, .slice Ao13 t6129.length co13, .slice none 0 0] 51 (0, 0)) (by (with_reducible repeat (first | refine blk_drewN ?_ _ | refine blk_drew ?_ | refine blk_alloc ?_ _)); refine blk_put (cs := #[.int .i64 a0_0, .string a0_1, .bool a0_2, .slice none 0 0, .slice none 0 0]) ?_ 3 _ rfl; (with_reducible repeat (first | refine blk_drewN ?_ _ | refine blk_drew ?_ | refine blk_alloc ?_ _)); exact BK6128.out)) (below_size (by repeat (first | (with_reducible first | exact HB.out | apply below_alloc | apply pw_below_drewN | apply below_drew1 | refine below_set ?_ GE6126.out | refine below_set ?_ GE6127.out | refine below_set ?_ GE6128.out) | exact HB.out)))); have n2_ := Aside0.mk (blk_below (g := gb6126) (o := .cells #[.int .i64 a0_0, .string a0_1, .bool a0_2, .slice A0_3 l0_3.length c0_3, .slice A0_4 l0_4.length c0_4] 47 (0, 0)) (by (with_reducible repeat (first | refine blk_drewN ?_ _ | refine blk_drew ?_ | refine blk_alloc ?_ _)); refine blk_far ?_ NB6126_6128.out _; (with_reducible repeat (first | refine blk_drewN ?_ _ | refine blk_drew ?_ | refine blk_alloc ?_ _)); exact BK6126.out) hb); have n3_ := Aside0.mk (blk_below (g := gb6127) (o := .cells #[.int .i64 0, .string (⟨#[]⟩ : ByteArray), .bool false, .slice none 0 0, .slice none 0 0] 51 (0, 0)) (by (with_reducible repeat (first | refine blk_drewN ?_ _ | refine blk_drew ?_ | refine blk_alloc ?_ _)); refine blk_far ?_ NB6127_6128.out _; (with_reducible repeat (first | refine blk_drewN ?_ _ | refine blk_drew ?_ | refine blk_alloc ?_ _)); exact BK6127.out) hb); have n4_ := Aside0.mk (blk_below (g := gb6128) (o := .cells #[.int .i64 a0_0, .string a0_1, .bool a0_2, .slice Ao13 t6129.length co13, .slice none 0 0] 51 (0, 0)) (by (with_reducible repeat (first | refine blk_drewN ?_ _ | refine blk_drew ?_ | refine blk_alloc ?_ _)); refine blk_put (cs := #[.int .i64 a0_0, .string a0_1, .bool a0_2, .slice none 0 0, .slice none 0 0]) ?_ 3 _ rfl; (with_reducible repeat (first | refine blk_drewN ?_ _ | refine blk_drew ?_ | refine blk_alloc ?_ _)); exact BK6128.out) hb); have n5_ := Aside0.mk (below_step (by repeat (first | (with_reducible first | exact HB.out | apply below_alloc | apply pw_below_drewN | apply below_drew1 | refine below_set ?_ GE6126.out | refine below_set ?_ GE6127.out | refine below_set ?_ GE6128.out) | exact HB.out)) hb); clear HO6131; clear BK6126; clear BK6127; clear BK6128; clear HB; have HO6131 := n0_; have HO6134 := n1_; have BK6126 := n2_; have BK6127 := n3_; have BK6128 := n4_; have HB := n5_; clear n0_ n1_ n2_ n3_ n4_ n5_; (try clear hb); (try clear hb2); (try clear hk); (try clear hi); (try clear ho0); obtain ⟨Ao17, co17, eo17⟩ := Kd.R_slice HO6134.out; subst eo17; have hcz18_0 : w16.cell? ⟨gb6128, 0, none⟩ = some (.int .i64 a0_0) := (blk_cell BK6128.out 0).trans rfl; have hcz18_1 : w16.cell? ⟨gb6128, 1, none⟩ = some (.string a0_1) := (blk_cell BK6128.out 1).trans rfl; have hcz18_2 : w16.cell? ⟨gb6128, 2, none⟩ = some (.bool a0_2) := (blk_cell BK6128.out 2).trans rfl; have hcz18_3 : w16.cell? ⟨gb6128, 3, none⟩ = some (.slice Ao13 t6129.length co13) := (blk_cell BK6128.out 3).trans rfl; have hcz18_4 : w16.cell? ⟨gb6128, 4, none⟩ = some (.slice none 0 0) := (blk_cell BK6128.out 4).trans rfl; have hfz18_0 := blk_frozen BK6128.out 0; have hfz18_1 := blk_frozen BK6128.out 1; have hfz18_2 := blk_frozen BK6128.out 2; have hfz18_3 := blk_frozen BK6128.out 3; have hfz18_4 := blk_frozen BK6128.out 4; have hcz19_0 : w16.cell? ⟨gb6127, 0, none⟩ = some (.int .i64 0) := (blk_cell BK6127.out 0).trans rfl; have hcz19_1 : w16.cell? ⟨gb6127, 1, none⟩ = some (.string (⟨#[]⟩ : ByteArray)) := (blk_cell BK6127.out 1).trans rfl; have hcz19_2 : w16.cell? ⟨gb6127, 2, none⟩ = some (.bool false) := (blk_cell BK6127.out 2).trans rfl; have hcz19_3 : w16.cell? ⟨gb6127, 3, none⟩ = some (.slice none 0 0) := (blk_cell BK6127.out 3).trans rfl; have hcz19_4 : w16.cell? ⟨gb6127, 4, none⟩ = some (.slice none 0 0) := (blk_cell BK6127.out 4).trans rfl; have hfz19_0 := blk_frozen BK6127.out 0; have hfz19_1 := blk_frozen BK6127.out 1; have hfz19_2 := blk_frozen BK6127.out 2; have hfz19_3 := blk_frozen BK6127.out 3; have hfz19_4 := blk_frozen BK6127.out 4))
  refine bodyPost_ret (results_cell_row rfl _ _ gb6127 51 #[.int .i64 a0_0, .string a0_1, .bool a0_2, .slice Ao13 t6129.length co13, .slice Ao17 t6132.length co17] (0, 0) _ rfl (by (with_reducible repeat (first | refine blk_drewN ?_ _ | refine blk_drew ?_ | refine blk_alloc ?_ _)); refine blk_put (cs := #[.int .i64 a0_0, .string a0_1, .bool a0_2, .slice Ao13 t6129.length co13, .slice none 0 0]) ?_ 4 _ rfl; (with_reducible repeat (first | refine blk_drewN ?_ _ | refine blk_drew ?_ | refine blk_alloc ?_ _)); refine blk_put (cs := #[.int .i64 a0_0, .string a0_1, .bool a0_2, .slice none 0 0, .slice none 0 0]) ?_ 3 _ rfl; (with_reducible repeat (first | refine blk_drewN ?_ _ | refine blk_drew ?_ | refine blk_alloc ?_ _)); refine blk_put (cs := #[.int .i64 a0_0, .string a0_1, .bool false, .slice none 0 0, .slice none 0 0]) ?_ 2 _ rfl; (with_reducible repeat (first | refine blk_drewN ?_ _ | refine blk_drew ?_ | refine blk_alloc ?_ _)); refine blk_put (cs := #[.int .i64 a0_0, .string (⟨#[]⟩ : ByteArray), .bool false, .slice none 0 0, .slice none 0 0]) ?_ 1 _ rfl; (with_reducible repeat (first | refine blk_drewN ?_ _ | refine blk_drew ?_ | refine blk_alloc ?_ _)); refine blk_put (cs := #[.int .i64 0, .string (⟨#[]⟩ : ByteArray), .bool false, .slice none 0 0, .slice none 0 0]) ?_ 0 _ rfl; (with_reducible repeat (first | refine blk_drewN ?_ _ | refine blk_drew ?_ | refine blk_alloc ?_ _)); refine blk_far ?_ NB6127_6128.out _; (with_reducible repeat (first | refine blk_drewN ?_ _ | refine blk_drew ?_ | refine blk_alloc ?_ _)); exact BK6127.out) Try.underlying51 rfl (by kernel_rfl)) rfl ?_
  exact ⟨_, _, by first | rfl | (simp [errW_none, errW_some] <;> rfl) | (simp [*, errW_none, errW_some] <;> rfl), by (with_reducible repeat (first | apply Kd.R_alloc | apply Kd.R_drewN | apply Kd.R_drew)); exact Kd.R_mono (Kd.R_far (p := ⟨gb6127, 4, none⟩) (Kd.R_far (p := ⟨gb6127, 3, none⟩) (Kd.R_far (p := ⟨gb6127, 2, none⟩) (Kd.R_far (p := ⟨gb6127, 1, none⟩) (Kd.R_far (p := ⟨gb6127, 0, none⟩) (Kd.R_far (p := ⟨gb6128, 4, none⟩) (Kd.R_types (Kd.R_types HO6131.out BK6128.out (by decide)) BK6127.out (by decide)) (fun _ hk => hk.1.2) (.slice Ao17 t6132.length co17)) (fun _ hk => hk.2) (.int .i64 a0_0)) (fun _ hk => hk.2) (.string a0_1)) (fun _ hk => hk.2) (.bool a0_2)) (fun _ hk => hk.2) (.slice Ao13 t6129.length co13)) (fun _ hk => hk.2) (.slice Ao17 t6132.length co17)) (fun _ hk => trivial), by (with_reducible repeat (first | apply Kd.R_alloc | apply Kd.R_drewN | apply Kd.R_drew)); exact Kd.R_mono (Kd.R_far (p := ⟨gb6127, 4, none⟩) (Kd.R_far (p := ⟨gb6127, 3, none⟩) (Kd.R_far (p := ⟨gb6127, 2, none⟩) (Kd.R_far (p := ⟨gb6127, 1, none⟩) (Kd.R_far (p := ⟨gb6127, 0, none⟩) (Kd.R_far (p := ⟨gb6128, 4, none⟩) (Kd.R_mono (Kd.R_mono HO6134.out (fun k_ hk => (⟨hk, hk.2⟩ : _ ∧ k_ ≠ gb6128))) (fun k_ hk => (⟨hk, hk.1.1.2⟩ : _ ∧ k_ ≠ gb6127))) (fun _ hk => hk.1.2) (.slice Ao17 t6132.length co17)) (fun _ hk => hk.2) (.int .i64 a0_0)) (fun _ hk => hk.2) (.string a0_1)) (fun _ hk => hk.2) (.bool a0_2)) (fun _ hk => hk.2) (.slice Ao13 t6129.length co13)) (fun _ hk => hk.2) (.slice Ao17 t6132.length co17)) (fun _ hk => hk.1.1.1.1.2), by repeat (first | (with_reducible first | exact HB.out | apply below_alloc | apply pw_below_drewN | apply below_drew1 | refine below_set ?_ GE6126.out | refine below_set ?_ GE6127.out | refine below_set ?_ GE6128.out) | exact HB.out)⟩

theorem laws_toExpCoreS_group.all (k : Nat) : laws_toExpCoreS.Spec k ∧ laws_toExpCore.Spec k := by
  induction k using Nat.strongRecOn with
  | _ k ih => exact ⟨laws_toExpCoreS.step k (fun m hm => (ih m hm).1) (fun m hm => (ih m hm).2), laws_toExpCore.step k (fun m hm => (ih m hm).1) (fun m hm => (ih m hm).2)⟩
theorem laws_toExpCoreS.calls (k : Nat) : ∀ (A0 : Option Addr) (c0 : Nat) (l0 : List (S47)) (r : List (S51)) (w : World) (hr0 : Kd.C k47 w A0 l0.length l0) (hc0 : l0.length ≤ c0) (h : laws_toExpCoreS.f k l0 = some r),
    Calls Try.prog 14 #[.slice A0 l0.length c0] w fun e w' => ∃ v0_ : Value, e = .returned (v0_) ∧ Kd.R k51 51 w' w.heap.size (fun _ => True) v0_ r ∧ Below w.heap.size w w' := (laws_toExpCoreS_group.all k).1
theorem laws_toExpCore.calls (k : Nat) : ∀ (a0_0 : Int) (a0_1 : ByteArray) (a0_2 : Bool) (A0_3 : Option Addr) (c0_3 : Nat) (l0_3 : List ByteArray) (A0_4 : Option Addr) (c0_4 : Nat) (l0_4 : List (S47)) (r1 : Int) (r2 : ByteArray) (r3 : Bool) (r4 : List ByteArray) (r5 : List (S51)) (w : World) (hr0_3 : Kd.C Kd.string w A0_3 l0_3.length l0_3) (hc0_3 : l0_3.length ≤ c0_3) (hr0_4 : Kd.C k47 w A0_4 l0_4.length l0_4) (hc0_4 : l0_4.length ≤ c0_4) (h : laws_toExpCore.f k a0_0 a0_1 a0_2 l0_3 l0_4 = some (r1, r2, r3, r4, r5)),
    Calls Try.prog 24 #[.agg #[.int .i64 a0_0, .string a0_1, .bool a0_2, .slice A0_3 l0_3.length c0_3, .slice A0_4 l0_4.length c0_4]] w fun e w' => ∃ v3_ v4_ : Value, e = .returned (.agg #[.int .i64 r1, .string r2, .bool r3, v3_, v4_]) ∧ Kd.R Kd.string 9 w' w.heap.size (fun _ => True) v3_ r4 ∧ Kd.R k51 51 w' w.heap.size (fun k_ => some k_ ≠ (v3_ : Value).ownBlock) v4_ r5 ∧ Below w.heap.size w w' := (laws_toExpCoreS_group.all k).2

/-! ### impl_coreNames: function 56 -/
def impl_coreNames.l0 : Nat → ByteArray → List ByteArray → Int → Int → Int → ByteArray → Bool → List ByteArray → List (S51) → Option (ByteArray)
  | 0, _, _, _, _, _, _, _, _, _ => none
  | k + 1, x3, x7, x8, x9, x6136000, x6136001, x6136002, x6136003, x6136004 => if x9 < x8 then (if 0 ≤ x9 then (if x9 < (x7.length : Int) then (if x9 > 0 then (if x3.size + 1 ≤ 9223372036854775807 then (if x6136000 = 3 then (if x6136002 = true then (if x9 = (wrap64 ((x6136003.length : Int) - 1)) then (if (x3 ++ (⟨#[32]⟩ : ByteArray)).size + 2 ≤ 9223372036854775807 then (if ((x3 ++ (⟨#[32]⟩ : ByteArray)) ++ (⟨#[46, 32]⟩ : ByteArray)).size + (rdOf ByteArray.empty x7 x9).size ≤ 9223372036854775807 then (impl_coreNames.l0 k (((x3 ++ (⟨#[32]⟩ : ByteArray)) ++ (⟨#[46, 32]⟩ : ByteArray)) ++ (rdOf ByteArray.empty x7 x9)) x7 x8 (wrap64 (x9 + 1)) x6136000 x6136001 x6136002 x6136003 x6136004) else (none)) else (none)) else (if (x3 ++ (⟨#[32]⟩ : ByteArray)).size + (rdOf ByteArray.empty x7 x9).size ≤ 9223372036854775807 then (impl_coreNames.l0 k ((x3 ++ (⟨#[32]⟩ : ByteArray)) ++ (rdOf ByteArray.empty x7 x9)) x7 x8 (wrap64 (x9 + 1)) x6136000 x6136001 x6136002 x6136003 x6136004) else (none))) else (if (x3 ++ (⟨#[32]⟩ : ByteArray)).size + (rdOf ByteArray.empty x7 x9).size ≤ 9223372036854775807 then (impl_coreNames.l0 k ((x3 ++ (⟨#[32]⟩ : ByteArray)) ++ (rdOf ByteArray.empty x7 x9)) x7 x8 (wrap64 (x9 + 1)) x6136000 x6136001 x6136002 x6136003 x6136004) else (none))) else (if (x3 ++ (⟨#[32]⟩ : ByteArray)).size + (rdOf ByteArray.empty x7 x9).size ≤ 9223372036854775807 then (impl_coreNames.l0 k ((x3 ++ (⟨#[32]⟩ : ByteArray)) ++ (rdOf ByteArray.empty x7 x9)) x7 x8 (wrap64 (x9 + 1)) x6136000 x6136001 x6136002 x6136003 x6136004) else (none))) else (none)) else (if x6136000 = 3 then (if x6136002 = true then (if x9 = (wrap64 ((x6136003.length : Int) - 1)) then (if x3.size + 2 ≤ 9223372036854775807 then (if (x3 ++ (⟨#[46, 32]⟩ : ByteArray)).size + (rdOf ByteArray.empty x7 x9).size ≤ 9223372036854775807 then (impl_coreNames.l0 k ((x3 ++ (⟨#[46, 32]⟩ : ByteArray)) ++ (rdOf ByteArray.empty x7 x9)) x7 x8 (wrap64 (x9 + 1)) x6136000 x6136001 x6136002 x6136003 x6136004) else (none)) else (none)) else (if x3.size + (rdOf ByteArray.empty x7 x9).size ≤ 9223372036854775807 then (impl_coreNames.l0 k (x3 ++ (rdOf ByteArray.empty x7 x9)) x7 x8 (wrap64 (x9 + 1)) x6136000 x6136001 x6136002 x6136003 x6136004) else (none))) else (if x3.size + (rdOf ByteArray.empty x7 x9).size ≤ 9223372036854775807 then (impl_coreNames.l0 k (x3 ++ (rdOf ByteArray.empty x7 x9)) x7 x8 (wrap64 (x9 + 1)) x6136000 x6136001 x6136002 x6136003 x6136004) else (none))) else (if x3.size + (rdOf ByteArray.empty x7 x9).size ≤ 9223372036854775807 then (impl_coreNames.l0 k (x3 ++ (rdOf ByteArray.empty x7 x9)) x7 x8 (wrap64 (x9 + 1)) x6136000 x6136001 x6136002 x6136003 x6136004) else (none)))) else (none)) else (none)) else (if x3.size + 1 ≤ 9223372036854775807 then (some (x3 ++ (⟨#[41]⟩ : ByteArray))) else (none))
def impl_coreNames.f (k : Nat) (a0_0 : Int) (a0_1 : ByteArray) (a0_2 : Bool) (l0_3 : List ByteArray) (l0_4 : List (S51)) : Option (ByteArray) := impl_coreNames.l0 k (⟨#[40]⟩ : ByteArray) l0_3 (l0_3.length : Int) 0 a0_0 a0_1 a0_2 l0_3 l0_4
theorem impl_coreNames.mono_l : ∀ k, (∀ y0 y1 y2 y3 y4 y5 y6 y7 y8, LeO (impl_coreNames.l0 k y0 y1 y2 y3 y4 y5 y6 y7 y8) (impl_coreNames.l0 (k + 1) y0 y1 y2 y3 y4 y5 y6 y7 y8))
  | 0 => fun _ _ _ _ _ _ _ _ _ r h => by simp [impl_coreNames.l0] at h
  | k + 1 => by
    have ih0 := impl_coreNames.mono_l k
    · intro y0 y1 y2 y3 y4 y5 y6 y7 y8
      unfold impl_coreNames.l0
      repeat' first
      | (with_reducible exact ih0 _ _ _ _ _ _ _ _ _)
      | (with_reducible exact LeO.refl _)
      | (with_reducible exact LeO.none _)
      | (with_reducible refine LeO.ite ?_ ?_)
      | (with_reducible refine LeO.bind ?_ (fun _ => ?_))
      | exact ih0 _ _ _ _ _ _ _ _ _
      | exact LeO.none _
      | refine LeO.ite ?_ ?_
      | refine LeO.bind ?_ (fun _ => ?_)
theorem impl_coreNames.mono : ∀ a0 a1 a2 a3 a4 k, LeO (impl_coreNames.f k a0 a1 a2 a3 a4) (impl_coreNames.f (k + 1) a0 a1 a2 a3 a4) := by
  intro a0 a1 a2 a3 a4 k
  have ih0 := impl_coreNames.mono_l k
  unfold impl_coreNames.f
  repeat' first
      | (with_reducible exact ih0 _ _ _ _ _ _ _ _ _)
      | (with_reducible exact LeO.refl _)
      | (with_reducible exact LeO.none _)
      | (with_reducible refine LeO.ite ?_ ?_)
      | (with_reducible refine LeO.bind ?_ (fun _ => ?_))
      | exact ih0 _ _ _ _ _ _ _ _ _
      | exact LeO.none _
      | refine LeO.ite ?_ ?_
      | refine LeO.bind ?_ (fun _ => ?_)
set_option maxHeartbeats 8000000 in
set_option maxRecDepth 100000 in
theorem impl_coreNames.calls (k : Nat) (a0_0 : Int) (a0_1 : ByteArray) (a0_2 : Bool) (A0_3 : Option Addr) (c0_3 : Nat) (l0_3 : List ByteArray) (A0_4 : Option Addr) (c0_4 : Nat) (l0_4 : List (S51)) (r : ByteArray) (w : World) (hr0_3 : Kd.C Kd.string w A0_3 l0_3.length l0_3) (hc0_3 : l0_3.length ≤ c0_3) (hr0_4 : Kd.C k51 w A0_4 l0_4.length l0_4) (hc0_4 : l0_4.length ≤ c0_4) (h : impl_coreNames.f k a0_0 a0_1 a0_2 l0_3 l0_4 = some r) :
    Calls Try.prog 56 #[.agg #[.int .i64 a0_0, .string a0_1, .bool a0_2, .slice A0_3 l0_3.length c0_3, .slice A0_4 l0_4.length c0_4]] w fun e w' => e = .returned (.string r) ∧ Below w.heap.size w w' := by
  have hu51 := Try.underlying51
  have HR0_3 := Aside0.mk hr0_3
  have HC0_3 := Aside0.mk hc0_3
  clear hr0_3 hc0_3
  have HR0_4 := Aside0.mk hr0_4
  have HC0_4 := Aside0.mk hc0_4
  clear hr0_4 hc0_4
  have HB := Aside0.mk (Below.refl w.heap.size w)
  have H : (impl_coreNames.l0 k (⟨#[40]⟩ : ByteArray) l0_3 (l0_3.length : Int) 0 a0_0 a0_1 a0_2 l0_3 l0_4) = some r := h
  clear h
  have H' := Aside0.mk H
  clear H
  go_enter Try.func56, Try.ntmps56
  go_wp2_with (first | ((with_reducible refine gate_dst (N := 1) rfl ?_); (try (refine gate_guard (by rfl) ?_; dsimp only)); refine box_event ?hg (N := 1) ?hd (cs := #[.int .i64 a0_0, .string a0_1, .bool a0_2, .slice A0_3 l0_3.length c0_3, .slice A0_4 l0_4.length c0_4]) (t := 51) ?hr ?_; (case hd => rfl); (case hg => rfl); (case hr => first | (go_simp; done) | (go_simp; rfl)); intro gb6135 hg w2 hbox hb; have n0_ := Aside0.mk (below_step (by repeat (first | (with_reducible first | exact HB.out | apply below_alloc | apply pw_below_drewN | apply below_drew1) | exact HB.out)) hb); have n1_ := Aside0.mk (hbox); have n2_ := Aside0.mk ((by rw [hg]; exact (below_size (by repeat (first | (with_reducible first | exact HB.out | apply below_alloc | apply pw_below_drewN | apply below_drew1) | exact HB.out))) : w.heap.size ≤ gb6135)); have n3_ := Aside0.mk ((by rw [hg]; exact (below_size (by repeat (first | (with_reducible first | exact HB.out | apply below_alloc | apply pw_below_drewN | apply below_drew1) | exact HB.out))) : w.heap.size ≤ gb6135)); clear HB; have HB := n0_; have BK6135 := n1_; have GW6135 := n2_; have GE6135 := n3_; clear n0_ n1_ n2_ n3_; clear hb hbox hg; have hcz3_0 : w2.cell? ⟨gb6135, 0, none⟩ = some (.int .i64 a0_0) := (blk_cell BK6135.out 0).trans rfl; have hcz3_1 : w2.cell? ⟨gb6135, 1, none⟩ = some (.string a0_1) := (blk_cell BK6135.out 1).trans rfl; have hcz3_2 : w2.cell? ⟨gb6135, 2, none⟩ = some (.bool a0_2) := (blk_cell BK6135.out 2).trans rfl; have hcz3_3 : w2.cell? ⟨gb6135, 3, none⟩ = some (.slice A0_3 l0_3.length c0_3) := (blk_cell BK6135.out 3).trans rfl; have hcz3_4 : w2.cell? ⟨gb6135, 4, none⟩ = some (.slice A0_4 l0_4.length c0_4) := (blk_cell BK6135.out 4).trans rfl; have hfz3_0 := blk_frozen BK6135.out 0; have hfz3_1 := blk_frozen BK6135.out 1; have hfz3_2 := blk_frozen BK6135.out 2; have hfz3_3 := blk_frozen BK6135.out 3; have hfz3_4 := blk_frozen BK6135.out 4))
  go_loopg [3, 9] k (fun kq v3 v9 w' => ∃ (x3_1 : ByteArray) (x9_1 : Int), v3 = .string x3_1 ∧ v9 = .int .i64 x9_1 ∧ Aside0 (impl_coreNames.l0 kq x3_1 l0_3 (l0_3.length : Int) x9_1 a0_0 a0_1 a0_2 l0_3 l0_4 = some r) ∧ Aside0 (kq ≤ k) ∧ Aside0 (w'.heap[gb6135]? = some (.cells #[.int .i64 a0_0, .string a0_1, .bool a0_2, (.slice A0_3 l0_3.length c0_3), (.slice A0_4 l0_4.length c0_4)] 51 (0, 0))) ∧ Aside0 (Below w.heap.size w w'))
  case atStart => exact ⟨((⟨#[40]⟩ : ByteArray)), (0), (by first | rfl | (simp; done) | (simp [*]; done)), (by first | rfl | (simp; done) | (simp [*]; done)), H', ⟨Nat.le_refl _⟩, ⟨by (with_reducible repeat (first | refine blk_drewN ?_ _ | refine blk_drew ?_ | refine blk_alloc ?_ _)); exact BK6135.out⟩, ⟨by repeat (first | (with_reducible first | exact HB.out | apply below_alloc | apply pw_below_drewN | apply below_drew1 | refine below_set ?_ GE6135.out) | exact HB.out)⟩⟩
  case round =>
    clear H'
    try clear p2
    try clear hcz3_0
    try clear hcz3_1
    try clear hcz3_2
    try clear hcz3_3
    try clear hcz3_4
    try clear hfz3_0
    try clear hfz3_1
    try clear hfz3_2
    try clear hfz3_3
    try clear hfz3_4
    obtain ⟨x3_1, x9_1, rfl, rfl, HA, HK1, BK6135, HB⟩ := hrel
    cases gk with
    | zero => exact absurd HA.out (by simp [impl_coreNames.l0])
    | succ k1 =>
      have H := HA.out
      clear HA
      simp only [impl_coreNames.l0] at H
      by_cases c4 : x9_1 < (l0_3.length : Int)
      · rw [if_pos c4] at H
        have c4b0 : decide (x9_1 < (l0_3.length : Int)) = true := decide_eq_true c4
        clear c4
        by_cases c5 : 0 ≤ x9_1
        · rw [if_pos c5] at H
          have c5b0 : decide (0 ≤ x9_1) = true := decide_eq_true c5
          clear c5
          by_cases c6 : x9_1 < (l0_3.length : Int)
          · rw [if_pos c6] at H
            have c6b0 : decide (x9_1 < (l0_3.length : Int)) = true := decide_eq_true c6
            clear c6
            by_cases c7 : x9_1 > 0
            · rw [if_pos c7] at H
              have c7b0 : decide (0 < x9_1) = true := decide_eq_true c7
              clear c7
              by_cases c8 : x3_1.size + 1 ≤ 9223372036854775807
              · rw [if_pos c8] at H
                have c8b0 := eq_true c8
                have c8b1 : decide (x3_1.size + 1 ≤ 9223372036854775807) = true := decide_eq_true c8
                try have c8b2 : (9223372036854775807 < x3_1.size + 1) = False := eq_false (Nat.not_lt.2 c8)
                by_cases c9 : a0_0 = 3
                · rw [if_pos c9] at H
                  have c9b0 : (a0_0 == 3) = true := beq_iff_eq.mpr c9
                  have c9b1 : (a0_0 != 3) = false := bne_eq_false_iff_eq.mpr c9
                  clear c9
                  by_cases c10 : a0_2 = true
                  · subst c10
                    have H1 : (if x9_1 = (wrap64 ((l0_3.length : Int) - 1)) then (if (x3_1 ++ (⟨#[32]⟩ : ByteArray)).size + 2 ≤ 9223372036854775807 then (if ((x3_1 ++ (⟨#[32]⟩ : ByteArray)) ++ (⟨#[46, 32]⟩ : ByteArray)).size + (rdOf ByteArray.empty l0_3 x9_1).size ≤ 9223372036854775807 then (impl_coreNames.l0 k1 (((x3_1 ++ (⟨#[32]⟩ : ByteArray)) ++ (⟨#[46, 32]⟩ : ByteArray)) ++ (rdOf ByteArray.empty l0_3 x9_1)) l0_3 (l0_3.length : Int) (wrap64 (x9_1 + 1)) a0_0 a0_1 true l0_3 l0_4) else (none)) else (none)) else (if (x3_1 ++ (⟨#[32]⟩ : ByteArray)).size + (rdOf ByteArray.empty l0_3 x9_1).size ≤ 9223372036854775807 then (impl_coreNames.l0 k1 ((x3_1 ++ (⟨#[32]⟩ : ByteArray)) ++ (rdOf ByteArray.empty l0_3 x9_1)) l0_3 (l0_3.length : Int) (wrap64 (x9_1 + 1)) a0_0 a0_1 true l0_3 l0_4) else (none))) = some r := by rw [if_pos rfl] at H; exact H
                    clear H
                    have H := H1
                    clear H1
                    by_cases c11 : x9_1 = (wrap64 ((l0_3.length : Int) - 1))
                    · rw [if_pos c11] at H
                      have c11b0 : (x9_1 == (wrap64 ((l0_3.length : Int) - 1))) = true := beq_iff_eq.mpr c11
                      have c11b1 : (x9_1 != (wrap64 ((l0_3.length : Int) - 1))) = false := bne_eq_false_iff_eq.mpr c11
                      clear c11
                      by_cases c12 : (x3_1 ++ (⟨#[32]⟩ : ByteArray)).size + 2 ≤ 9223372036854775807
                      · rw [if_pos c12] at H
                        have c12b0 := eq_true c12
                        have c12b1 : decide ((x3_1 ++ (⟨#[32]⟩ : ByteArray)).size + 2 ≤ 9223372036854775807) = true := decide_eq_true c12
                        try have c12b2 : (9223372036854775807 < (x3_1 ++ (⟨#[32]⟩ : ByteArray)).size + 2) = False := eq_false (Nat.not_lt.2 c12)
                        try have c12b3 : (9223372036854775807 < x3_1.size + 1 + 2) = False := eq_false (by have h_ := c12; simp only [ByteArray.size_append] at h_; have : (⟨#[32]⟩ : ByteArray).size = 1 := rfl; omega)
                        by_cases c13 : ((x3_1 ++ (⟨#[32]⟩ : ByteArray)) ++ (⟨#[46, 32]⟩ : ByteArray)).size + (rdOf ByteArray.empty l0_3 x9_1).size ≤ 9223372036854775807
                        · rw [if_pos c13] at H
                          have c13b0 := eq_true c13
                          have c13b1 : decide (((x3_1 ++ (⟨#[32]⟩ : ByteArray)) ++ (⟨#[46, 32]⟩ : ByteArray)).size + (rdOf ByteArray.empty l0_3 x9_1).size ≤ 9223372036854775807) = true := decide_eq_true c13
                          try have c13b2 : (9223372036854775807 < ((x3_1 ++ (⟨#[32]⟩ : ByteArray)) ++ (⟨#[46, 32]⟩ : ByteArray)).size + (rdOf ByteArray.empty l0_3 x9_1).size) = False := eq_false (Nat.not_lt.2 c13)
                          try have c13b3 : (9223372036854775807 < x3_1.size + 1 + 2 + (rdOf ByteArray.empty l0_3 x9_1).size) = False := eq_false (by have h_ := c13; simp only [ByteArray.size_append] at h_; have : (⟨#[32]⟩ : ByteArray).size = 1 := rfl; have : (⟨#[46, 32]⟩ : ByteArray).size = 2 := rfl; omega)
                          have H' := Aside0.mk H
                          clear H
                          have p6136 : 0 ≤ (x9_1 : Int) := of_decide_eq_true (by first | (with_reducible assumption) | assumption)
                          have q6136 : x9_1 < (l0_3.length : Int) := of_decide_eq_true (by first | (with_reducible assumption) | assumption)
                          obtain ⟨ad6136, e6136, hx6136_0⟩ := Kd.at_string HR0_3.out x9_1 p6136 q6136
                          cases e6136
                          replace hx6136_0 := (HB.out.cell (World.block_lt_of_cell? w _ hx6136_0)).trans hx6136_0
                          replace p6136 := eq_true p6136
                          replace q6136 := eq_true q6136
                          have hcz14_0 : wr.cell? ⟨gb6135, 0, none⟩ = some (.int .i64 a0_0) := (blk_cell BK6135.out 0).trans rfl
                          have hcz14_1 : wr.cell? ⟨gb6135, 1, none⟩ = some (.string a0_1) := (blk_cell BK6135.out 1).trans rfl
                          have hcz14_2 : wr.cell? ⟨gb6135, 2, none⟩ = some (.bool true) := (blk_cell BK6135.out 2).trans rfl
                          have hcz14_3 : wr.cell? ⟨gb6135, 3, none⟩ = some (.slice (some ad6136) l0_3.length c0_3) := (blk_cell BK6135.out 3).trans rfl
                          have hcz14_4 : wr.cell? ⟨gb6135, 4, none⟩ = some (.slice A0_4 l0_4.length c0_4) := (blk_cell BK6135.out 4).trans rfl
                          have hfz14_0 := blk_frozen BK6135.out 0
                          have hfz14_1 := blk_frozen BK6135.out 1
                          have hfz14_2 := blk_frozen BK6135.out 2
                          have hfz14_3 := blk_frozen BK6135.out 3
                          have hfz14_4 := blk_frozen BK6135.out 4
                          go_wp2
                          go_roundg k1
                          case measure => have := HK1.out; omega
                          case rel => exact ⟨(((x3_1 ++ (⟨#[32]⟩ : ByteArray)) ++ (⟨#[46, 32]⟩ : ByteArray)) ++ (rdOf ByteArray.empty l0_3 x9_1)), (wrap64 (x9_1 + 1)), (by first | rfl | (simp; done) | (simp [*]; done)), (by first | rfl | (simp; done) | (simp [*]; done)), H', ⟨by have := HK1.out; omega⟩, ⟨by (with_reducible repeat (first | refine blk_drewN ?_ _ | refine blk_drew ?_ | refine blk_alloc ?_ _)); exact BK6135.out⟩, ⟨by repeat (first | (with_reducible first | exact HB.out | apply below_alloc | apply pw_below_drewN | apply below_drew1 | refine below_set ?_ GE6135.out) | exact HB.out)⟩⟩
                        · rw [if_neg c13] at H
                          exact absurd H (by simp)
                      · rw [if_neg c12] at H
                        exact absurd H (by simp)
                    · rw [if_neg c11] at H
                      have c11b0 : (x9_1 == (wrap64 ((l0_3.length : Int) - 1))) = false := beq_eq_false_iff_ne.mpr c11
                      have c11b1 : (x9_1 != (wrap64 ((l0_3.length : Int) - 1))) = true := bne_iff_ne.mpr c11
                      by_cases c15 : (x3_1 ++ (⟨#[32]⟩ : ByteArray)).size + (rdOf ByteArray.empty l0_3 x9_1).size ≤ 9223372036854775807
                      · rw [if_pos c15] at H
                        have c15b0 := eq_true c15
                        have c15b1 : decide ((x3_1 ++ (⟨#[32]⟩ : ByteArray)).size + (rdOf ByteArray.empty l0_3 x9_1).size ≤ 9223372036854775807) = true := decide_eq_true c15
                        try have c15b2 : (9223372036854775807 < (x3_1 ++ (⟨#[32]⟩ : ByteArray)).size + (rdOf ByteArray.empty l0_3 x9_1).size) = False := eq_false (Nat.not_lt.2 c15)
                        try have c15b3 : (9223372036854775807 < x3_1.size + 1 + (rdOf ByteArray.empty l0_3 x9_1).size) = False := eq_false (by have h_ := c15; simp only [ByteArray.size_append] at h_; have : (⟨#[32]⟩ : ByteArray).size = 1 := rfl; omega)
                        have H' := Aside0.mk H
                        clear H
                        have p6136 : 0 ≤ (x9_1 : Int) := of_decide_eq_true (by first | (with_reducible assumption) | assumption)
                        have q6136 : x9_1 < (l0_3.length : Int) := of_decide_eq_true (by first | (with_reducible assumption) | assumption)
                        obtain ⟨ad6136, e6136, hx6136_0⟩ := Kd.at_string HR0_3.out x9_1 p6136 q6136
                        cases e6136
                        replace hx6136_0 := (HB.out.cell (World.block_lt_of_cell? w _ hx6136_0)).trans hx6136_0
                        replace p6136 := eq_true p6136
                        replace q6136 := eq_true q6136
                        have hcz16_0 : wr.cell? ⟨gb6135, 0, none⟩ = some (.int .i64 a0_0) := (blk_cell BK6135.out 0).trans rfl
                        have hcz16_1 : wr.cell? ⟨gb6135, 1, none⟩ = some (.string a0_1) := (blk_cell BK6135.out 1).trans rfl
                        have hcz16_2 : wr.cell? ⟨gb6135, 2, none⟩ = some (.bool true) := (blk_cell BK6135.out 2).trans rfl
                        have hcz16_3 : wr.cell? ⟨gb6135, 3, none⟩ = some (.slice (some ad6136) l0_3.length c0_3) := (blk_cell BK6135.out 3).trans rfl
                        have hcz16_4 : wr.cell? ⟨gb6135, 4, none⟩ = some (.slice A0_4 l0_4.length c0_4) := (blk_cell BK6135.out 4).trans rfl
                        have hfz16_0 := blk_frozen BK6135.out 0
                        have hfz16_1 := blk_frozen BK6135.out 1
                        have hfz16_2 := blk_frozen BK6135.out 2
                        have hfz16_3 := blk_frozen BK6135.out 3
                        have hfz16_4 := blk_frozen BK6135.out 4
                        go_wp2
                        go_roundg k1
                        case measure => have := HK1.out; omega
                        case rel => exact ⟨((x3_1 ++ (⟨#[32]⟩ : ByteArray)) ++ (rdOf ByteArray.empty l0_3 x9_1)), (wrap64 (x9_1 + 1)), (by first | rfl | (simp; done) | (simp [*]; done)), (by first | rfl | (simp; done) | (simp [*]; done)), H', ⟨by have := HK1.out; omega⟩, ⟨by (with_reducible repeat (first | refine blk_drewN ?_ _ | refine blk_drew ?_ | refine blk_alloc ?_ _)); exact BK6135.out⟩, ⟨by repeat (first | (with_reducible first | exact HB.out | apply below_alloc | apply pw_below_drewN | apply below_drew1 | refine below_set ?_ GE6135.out) | exact HB.out)⟩⟩
                      · rw [if_neg c15] at H
                        exact absurd H (by simp)
                  · replace c10 := Bool.eq_false_iff.mpr c10
                    subst c10
                    have H1 : (if (x3_1 ++ (⟨#[32]⟩ : ByteArray)).size + (rdOf ByteArray.empty l0_3 x9_1).size ≤ 9223372036854775807 then (impl_coreNames.l0 k1 ((x3_1 ++ (⟨#[32]⟩ : ByteArray)) ++ (rdOf ByteArray.empty l0_3 x9_1)) l0_3 (l0_3.length : Int) (wrap64 (x9_1 + 1)) a0_0 a0_1 false l0_3 l0_4) else (none)) = some r := by rw [if_neg (show ¬ (false = true) by decide)] at H; exact H
                    clear H
                    have H := H1
                    clear H1
                    by_cases c17 : (x3_1 ++ (⟨#[32]⟩ : ByteArray)).size + (rdOf ByteArray.empty l0_3 x9_1).size ≤ 9223372036854775807
                    · rw [if_pos c17] at H
                      have c17b0 := eq_true c17
                      have c17b1 : decide ((x3_1 ++ (⟨#[32]⟩ : ByteArray)).size + (rdOf ByteArray.empty l0_3 x9_1).size ≤ 9223372036854775807) = true := decide_eq_true c17
                      try have c17b2 : (9223372036854775807 < (x3_1 ++ (⟨#[32]⟩ : ByteArray)).size + (rdOf ByteArray.empty l0_3 x9_1).size) = False := eq_false (Nat.not_lt.2 c17)
                      try have c17b3 : (9223372036854775807 < x3_1.size + 1 + (rdOf ByteArray.empty l0_3 x9_1).size) = False := eq_false (by have h_ := c17; simp only [ByteArray.size_append] at h_; have : (⟨#[32]⟩ : ByteArray).size = 1 := rfl; omega)
                      have H' := Aside0.mk H
                      clear H
                      have p6136 : 0 ≤ (x9_1 : Int) := of_decide_eq_true (by first | (with_reducible assumption) | assumption)
                      have q6136 : x9_1 < (l0_3.length : Int) := of_decide_eq_true (by first | (with_reducible assumption) | assumption)
                      obtain ⟨ad6136, e6136, hx6136_0⟩ := Kd.at_string HR0_3.out x9_1 p6136 q6136
                      cases e6136
                      replace hx6136_0 := (HB.out.cell (World.block_lt_of_cell? w _ hx6136_0)).trans hx6136_0
                      replace p6136 := eq_true p6136
                      replace q6136 := eq_true q6136
                      have hcz18_0 : wr.cell? ⟨gb6135, 0, none⟩ = some (.int .i64 a0_0) := (blk_cell BK6135.out 0).trans rfl
                      have hcz18_1 : wr.cell? ⟨gb6135, 1, none⟩ = some (.string a0_1) := (blk_cell BK6135.out 1).trans rfl
                      have hcz18_2 : wr.cell? ⟨gb6135, 2, none⟩ = some (.bool false) := (blk_cell BK6135.out 2).trans rfl
                      have hcz18_3 : wr.cell? ⟨gb6135, 3, none⟩ = some (.slice (some ad6136) l0_3.length c0_3) := (blk_cell BK6135.out 3).trans rfl
                      have hcz18_4 : wr.cell? ⟨gb6135, 4, none⟩ = some (.slice A0_4 l0_4.length c0_4) := (blk_cell BK6135.out 4).trans rfl
                      have hfz18_0 := blk_frozen BK6135.out 0
                      have hfz18_1 := blk_frozen BK6135.out 1
                      have hfz18_2 := blk_frozen BK6135.out 2
                      have hfz18_3 := blk_frozen BK6135.out 3
                      have hfz18_4 := blk_frozen BK6135.out 4
                      go_wp2
                      go_roundg k1
                      case measure => have := HK1.out; omega
                      case rel => exact ⟨((x3_1 ++ (⟨#[32]⟩ : ByteArray)) ++ (rdOf ByteArray.empty l0_3 x9_1)), (wrap64 (x9_1 + 1)), (by first | rfl | (simp; done) | (simp [*]; done)), (by first | rfl | (simp; done) | (simp [*]; done)), H', ⟨by have := HK1.out; omega⟩, ⟨by (with_reducible repeat (first | refine blk_drewN ?_ _ | refine blk_drew ?_ | refine blk_alloc ?_ _)); exact BK6135.out⟩, ⟨by repeat (first | (with_reducible first | exact HB.out | apply below_alloc | apply pw_below_drewN | apply below_drew1 | refine below_set ?_ GE6135.out) | exact HB.out)⟩⟩
                    · rw [if_neg c17] at H
                      exact absurd H (by simp)
                · rw [if_neg c9] at H
                  have c9b0 : (a0_0 == 3) = false := beq_eq_false_iff_ne.mpr c9
                  have c9b1 : (a0_0 != 3) = true := bne_iff_ne.mpr c9
                  by_cases c19 : (x3_1 ++ (⟨#[32]⟩ : ByteArray)).size + (rdOf ByteArray.empty l0_3 x9_1).size ≤ 9223372036854775807
                  · rw [if_pos c19] at H
                    have c19b0 := eq_true c19
                    have c19b1 : decide ((x3_1 ++ (⟨#[32]⟩ : ByteArray)).size + (rdOf ByteArray.empty l0_3 x9_1).size ≤ 9223372036854775807) = true := decide_eq_true c19
                    try have c19b2 : (9223372036854775807 < (x3_1 ++ (⟨#[32]⟩ : ByteArray)).size + (rdOf ByteArray.empty l0_3 x9_1).size) = False := eq_false (Nat.not_lt.2 c19)
                    try have c19b3 : (9223372036854775807 < x3_1.size + 1 + (rdOf ByteArray.empty l0_3 x9_1).size) = False := eq_false (by have h_ := c19; simp only [ByteArray.size_append] at h_; have : (⟨#[32]⟩ : ByteArray).size = 1 := rfl; omega)
                    have H' := Aside0.mk H
                    clear H
                    have p6136 : 0 ≤ (x9_1 : Int) := of_decide_eq_true (by first | (with_reducible assumption) | assumption)
                    have q6136 : x9_1 < (l0_3.length : Int) := of_decide_eq_true (by first | (with_reducible assumption) | assumption)
                    obtain ⟨ad6136, e6136, hx6136_0⟩ := Kd.at_string HR0_3.out x9_1 p6136 q6136
                    cases e6136
                    replace hx6136_0 := (HB.out.cell (World.block_lt_of_cell? w _ hx6136_0)).trans hx6136_0
                    replace p6136 := eq_true p6136
                    replace q6136 := eq_true q6136
                    have hcz20_0 : wr.cell? ⟨gb6135, 0, none⟩ = some (.int .i64 a0_0) := (blk_cell BK6135.out 0).trans rfl
                    have hcz20_1 : wr.cell? ⟨gb6135, 1, none⟩ = some (.string a0_1) := (blk_cell BK6135.out 1).trans rfl
                    have hcz20_2 : wr.cell? ⟨gb6135, 2, none⟩ = some (.bool a0_2) := (blk_cell BK6135.out 2).trans rfl
                    have hcz20_3 : wr.cell? ⟨gb6135, 3, none⟩ = some (.slice (some ad6136) l0_3.length c0_3) := (blk_cell BK6135.out 3).trans rfl
                    have hcz20_4 : wr.cell? ⟨gb6135, 4, none⟩ = some (.slice A0_4 l0_4.length c0_4) := (blk_cell BK6135.out 4).trans rfl
                    have hfz20_0 := blk_frozen BK6135.out 0
                    have hfz20_1 := blk_frozen BK6135.out 1
                    have hfz20_2 := blk_frozen BK6135.out 2
                    have hfz20_3 := blk_frozen BK6135.out 3
                    have hfz20_4 := blk_frozen BK6135.out 4
                    go_wp2
                    go_roundg k1
                    case measure => have := HK1.out; omega
                    case rel => exact ⟨((x3_1 ++ (⟨#[32]⟩ : ByteArray)) ++ (rdOf ByteArray.empty l0_3 x9_1)), (wrap64 (x9_1 + 1)), (by first | rfl | (simp; done) | (simp [*]; done)), (by first | rfl | (simp; done) | (simp [*]; done)), H', ⟨by have := HK1.out; omega⟩, ⟨by (with_reducible repeat (first | refine blk_drewN ?_ _ | refine blk_drew ?_ | refine blk_alloc ?_ _)); exact BK6135.out⟩, ⟨by repeat (first | (with_reducible first | exact HB.out | apply below_alloc | apply pw_below_drewN | apply below_drew1 | refine below_set ?_ GE6135.out) | exact HB.out)⟩⟩
                  · rw [if_neg c19] at H
                    exact absurd H (by simp)
              · rw [if_neg c8] at H
                exact absurd H (by simp)
            · rw [if_neg c7] at H
              have c7b0 : decide (0 < x9_1) = false := decide_eq_false c7
              clear c7
              by_cases c21 : a0_0 = 3
              · rw [if_pos c21] at H
                have c21b0 : (a0_0 == 3) = true := beq_iff_eq.mpr c21
                have c21b1 : (a0_0 != 3) = false := bne_eq_false_iff_eq.mpr c21
                clear c21
                by_cases c22 : a0_2 = true
                · subst c22
                  have H1 : (if x9_1 = (wrap64 ((l0_3.length : Int) - 1)) then (if x3_1.size + 2 ≤ 9223372036854775807 then (if (x3_1 ++ (⟨#[46, 32]⟩ : ByteArray)).size + (rdOf ByteArray.empty l0_3 x9_1).size ≤ 9223372036854775807 then (impl_coreNames.l0 k1 ((x3_1 ++ (⟨#[46, 32]⟩ : ByteArray)) ++ (rdOf ByteArray.empty l0_3 x9_1)) l0_3 (l0_3.length : Int) (wrap64 (x9_1 + 1)) a0_0 a0_1 true l0_3 l0_4) else (none)) else (none)) else (if x3_1.size + (rdOf ByteArray.empty l0_3 x9_1).size ≤ 9223372036854775807 then (impl_coreNames.l0 k1 (x3_1 ++ (rdOf ByteArray.empty l0_3 x9_1)) l0_3 (l0_3.length : Int) (wrap64 (x9_1 + 1)) a0_0 a0_1 true l0_3 l0_4) else (none))) = some r := by rw [if_pos rfl] at H; exact H
                  clear H
                  have H := H1
                  clear H1
                  by_cases c23 : x9_1 = (wrap64 ((l0_3.length : Int) - 1))
                  · rw [if_pos c23] at H
                    have c23b0 : (x9_1 == (wrap64 ((l0_3.length : Int) - 1))) = true := beq_iff_eq.mpr c23
                    have c23b1 : (x9_1 != (wrap64 ((l0_3.length : Int) - 1))) = false := bne_eq_false_iff_eq.mpr c23
                    clear c23
                    by_cases c24 : x3_1.size + 2 ≤ 9223372036854775807
                    · rw [if_pos c24] at H
                      have c24b0 := eq_true c24
                      have c24b1 : decide (x3_1.size + 2 ≤ 9223372036854775807) = true := decide_eq_true c24
                      try have c24b2 : (9223372036854775807 < x3_1.size + 2) = False := eq_false (Nat.not_lt.2 c24)
                      by_cases c25 : (x3_1 ++ (⟨#[46, 32]⟩ : ByteArray)).size + (rdOf ByteArray.empty l0_3 x9_1).size ≤ 9223372036854775807
                      · rw [if_pos c25] at H
                        have c25b0 := eq_true c25
                        have c25b1 : decide ((x3_1 ++ (⟨#[46, 32]⟩ : ByteArray)).size + (rdOf ByteArray.empty l0_3 x9_1).size ≤ 9223372036854775807) = true := decide_eq_true c25
                        try have c25b2 : (9223372036854775807 < (x3_1 ++ (⟨#[46, 32]⟩ : ByteArray)).size + (rdOf ByteArray.empty l0_3 x9_1).size) = False := eq_false (Nat.not_lt.2 c25)
                        try have c25b3 : (9223372036854775807 < x3_1.size + 2 + (rdOf ByteArray.empty l0_3 x9_1).size) = False := eq_false (by have h_ := c25; simp only [ByteArray.size_append] at h_; have : (⟨#[46, 32]⟩ : ByteArray).size = 2 := rfl; omega)
                        have H' := Aside0.mk H
                        clear H
                        have p6136 : 0 ≤ (x9_1 : Int) := of_decide_eq_true (by first | (with_reducible assumption) | assumption)
                        have q6136 : x9_1 < (l0_3.length : Int) := of_decide_eq_true (by first | (with_reducible assumption) | assumption)
                        obtain ⟨ad6136, e6136, hx6136_0⟩ := Kd.at_string HR0_3.out x9_1 p6136 q6136
                        cases e6136
                        replace hx6136_0 := (HB.out.cell (World.block_lt_of_cell? w _ hx6136_0)).trans hx6136_0
                        replace p6136 := eq_true p6136
                        replace q6136 := eq_true q6136
                        have hcz26_0 : wr.cell? ⟨gb6135, 0, none⟩ = some (.int .i64 a0_0) := (blk_cell BK6135.out 0).trans rfl
                        have hcz26_1 : wr.cell? ⟨gb6135, 1, none⟩ = some (.string a0_1) := (blk_cell BK6135.out 1).trans rfl
                        have hcz26_2 : wr.cell? ⟨gb6135, 2, none⟩ = some (.bool true) := (blk_cell BK6135.out 2).trans rfl
                        have hcz26_3 : wr.cell? ⟨gb6135, 3, none⟩ = some (.slice (some ad6136) l0_3.length c0_3) := (blk_cell BK6135.out 3).trans rfl
                        have hcz26_4 : wr.cell? ⟨gb6135, 4, none⟩ = some (.slice A0_4 l0_4.length c0_4) := (blk_cell BK6135.out 4).trans rfl
                        have hfz26_0 := blk_frozen BK6135.out 0
                        have hfz26_1 := blk_frozen BK6135.out 1
                        have hfz26_2 := blk_frozen BK6135.out 2
                        have hfz26_3 := blk_frozen BK6135.out 3
                        have hfz26_4 := blk_frozen BK6135.out 4
                        go_wp2
                        go_roundg k1
                        case measure => have := HK1.out; omega
                        case rel => exact ⟨((x3_1 ++ (⟨#[46, 32]⟩ : ByteArray)) ++ (rdOf ByteArray.empty l0_3 x9_1)), (wrap64 (x9_1 + 1)), (by first | rfl | (simp; done) | (simp [*]; done)), (by first | rfl | (simp; done) | (simp [*]; done)), H', ⟨by have := HK1.out; omega⟩, ⟨by (with_reducible repeat (first | refine blk_drewN ?_ _ | refine blk_drew ?_ | refine blk_alloc ?_ _)); exact BK6135.out⟩, ⟨by repeat (first | (with_reducible first | exact HB.out | apply below_alloc | apply pw_below_drewN | apply below_drew1 | refine below_set ?_ GE6135.out) | exact HB.out)⟩⟩
                      · rw [if_neg c25] at H
                        exact absurd H (by simp)
                    · rw [if_neg c24] at H
                      exact absurd H (by simp)
                  · rw [if_neg c23] at H
                    have c23b0 : (x9_1 == (wrap64 ((l0_3.length : Int) - 1))) = false := beq_eq_false_iff_ne.mpr c23
                    have c23b1 : (x9_1 != (wrap64 ((l0_3.length : Int) - 1))) = true := bne_iff_ne.mpr c23
                    by_cases c27 : x3_1.size + (rdOf ByteArray.empty l0_3 x9_1).size ≤ 9223372036854775807
                    · rw [if_pos c27] at H
                      have c27b0 := eq_true c27
                      have c27b1 : decide (x3_1.size + (rdOf ByteArray.empty l0_3 x9_1).size ≤ 9223372036854775807) = true := decide_eq_true c27
                      try have c27b2 : (9223372036854775807 < x3_1.size + (rdOf ByteArray.empty l0_3 x9_1).size) = False := eq_false (Nat.not_lt.2 c27)
                      have H' := Aside0.mk H
                      clear H
                      have p6136 : 0 ≤ (x9_1 : Int) := of_decide_eq_true (by first | (with_reducible assumption) | assumption)
                      have q6136 : x9_1 < (l0_3.length : Int) := of_decide_eq_true (by first | (with_reducible assumption) | assumption)
                      obtain ⟨ad6136, e6136, hx6136_0⟩ := Kd.at_string HR0_3.out x9_1 p6136 q6136
                      cases e6136
                      replace hx6136_0 := (HB.out.cell (World.block_lt_of_cell? w _ hx6136_0)).trans hx6136_0
                      replace p6136 := eq_true p6136
                      replace q6136 := eq_true q6136
                      have hcz28_0 : wr.cell? ⟨gb6135, 0, none⟩ = some (.int .i64 a0_0) := (blk_cell BK6135.out 0).trans rfl
                      have hcz28_1 : wr.cell? ⟨gb6135, 1, none⟩ = some (.string a0_1) := (blk_cell BK6135.out 1).trans rfl
                      have hcz28_2 : wr.cell? ⟨gb6135, 2, none⟩ = some (.bool true) := (blk_cell BK6135.out 2).trans rfl
                      have hcz28_3 : wr.cell? ⟨gb6135, 3, none⟩ = some (.slice (some ad6136) l0_3.length c0_3) := (blk_cell BK6135.out 3).trans rfl
                      have hcz28_4 : wr.cell? ⟨gb6135, 4, none⟩ = some (.slice A0_4 l0_4.length c0_4) := (blk_cell BK6135.out 4).trans rfl
                      have hfz28_0 := blk_frozen BK6135.out 0
                      have hfz28_1 := blk_frozen BK6135.out 1
                      have hfz28_2 := blk_frozen BK6135.out 2
                      have hfz28_3 := blk_frozen BK6135.out 3
                      have hfz28_4 := blk_frozen BK6135.out 4
                      go_wp2
                      go_roundg k1
                      case measure => have := HK1.out; omega
                      case rel => exact ⟨(x3_1 ++ (rdOf ByteArray.empty l0_3 x9_1)), (wrap64 (x9_1 + 1)), (by first | rfl | (simp; done) | (simp [*]; done)), (by first | rfl | (simp; done) | (simp [*]; done)), H', ⟨by have := HK1.out; omega⟩, ⟨by (with_reducible repeat (first | refine blk_drewN ?_ _ | refine blk_drew ?_ | refine blk_alloc ?_ _)); exact BK6135.out⟩, ⟨by repeat (first | (with_reducible first | exact HB.out | apply below_alloc | apply pw_below_drewN | apply below_drew1 | refine below_set ?_ GE6135.out) | exact HB.out)⟩⟩
                    · rw [if_neg c27] at H
                      exact absurd H (by simp)
                · replace c22 := Bool.eq_false_iff.mpr c22
                  subst c22
                  have H1 : (if x3_1.size + (rdOf ByteArray.empty l0_3 x9_1).size ≤ 9223372036854775807 then (impl_coreNames.l0 k1 (x3_1 ++ (rdOf ByteArray.empty l0_3 x9_1)) l0_3 (l0_3.length : Int) (wrap64 (x9_1 + 1)) a0_0 a0_1 false l0_3 l0_4) else (none)) = some r := by rw [if_neg (show ¬ (false = true) by decide)] at H; exact H
                  clear H
                  have H := H1
                  clear H1
                  by_cases c29 : x3_1.size + (rdOf ByteArray.empty l0_3 x9_1).size ≤ 9223372036854775807
                  · rw [if_pos c29] at H
                    have c29b0 := eq_true c29
                    have c29b1 : decide (x3_1.size + (rdOf ByteArray.empty l0_3 x9_1).size ≤ 9223372036854775807) = true := decide_eq_true c29
                    try have c29b2 : (9223372036854775807 < x3_1.size + (rdOf ByteArray.empty l0_3 x9_1).size) = False := eq_false (Nat.not_lt.2 c29)
                    have H' := Aside0.mk H
                    clear H
                    have p6136 : 0 ≤ (x9_1 : Int) := of_decide_eq_true (by first | (with_reducible assumption) | assumption)
                    have q6136 : x9_1 < (l0_3.length : Int) := of_decide_eq_true (by first | (with_reducible assumption) | assumption)
                    obtain ⟨ad6136, e6136, hx6136_0⟩ := Kd.at_string HR0_3.out x9_1 p6136 q6136
                    cases e6136
                    replace hx6136_0 := (HB.out.cell (World.block_lt_of_cell? w _ hx6136_0)).trans hx6136_0
                    replace p6136 := eq_true p6136
                    replace q6136 := eq_true q6136
                    have hcz30_0 : wr.cell? ⟨gb6135, 0, none⟩ = some (.int .i64 a0_0) := (blk_cell BK6135.out 0).trans rfl
                    have hcz30_1 : wr.cell? ⟨gb6135, 1, none⟩ = some (.string a0_1) := (blk_cell BK6135.out 1).trans rfl
                    have hcz30_2 : wr.cell? ⟨gb6135, 2, none⟩ = some (.bool false) := (blk_cell BK6135.out 2).trans rfl
                    have hcz30_3 : wr.cell? ⟨gb6135, 3, none⟩ = some (.slice (some ad6136) l0_3.length c0_3) := (blk_cell BK6135.out 3).trans rfl
                    have hcz30_4 : wr.cell? ⟨gb6135, 4, none⟩ = some (.slice A0_4 l0_4.length c0_4) := (blk_cell BK6135.out 4).trans rfl
                    have hfz30_0 := blk_frozen BK6135.out 0
                    have hfz30_1 := blk_frozen BK6135.out 1
                    have hfz30_2 := blk_frozen BK6135.out 2
                    have hfz30_3 := blk_frozen BK6135.out 3
                    have hfz30_4 := blk_frozen BK6135.out 4
                    go_wp2
                    go_roundg k1
                    case measure => have := HK1.out; omega
                    case rel => exact ⟨(x3_1 ++ (rdOf ByteArray.empty l0_3 x9_1)), (wrap64 (x9_1 + 1)), (by first | rfl | (simp; done) | (simp [*]; done)), (by first | rfl | (simp; done) | (simp [*]; done)), H', ⟨by have := HK1.out; omega⟩, ⟨by (with_reducible repeat (first | refine blk_drewN ?_ _ | refine blk_drew ?_ | refine blk_alloc ?_ _)); exact BK6135.out⟩, ⟨by repeat (first | (with_reducible first | exact HB.out | apply below_alloc | apply pw_below_drewN | apply below_drew1 | refine below_set ?_ GE6135.out) | exact HB.out)⟩⟩
                  · rw [if_neg c29] at H
                    exact absurd H (by simp)
              · rw [if_neg c21] at H
                have c21b0 : (a0_0 == 3) = false := beq_eq_false_iff_ne.mpr c21
                have c21b1 : (a0_0 != 3) = true := bne_iff_ne.mpr c21
                by_cases c31 : x3_1.size + (rdOf ByteArray.empty l0_3 x9_1).size ≤ 9223372036854775807
                · rw [if_pos c31] at H
                  have c31b0 := eq_true c31
                  have c31b1 : decide (x3_1.size + (rdOf ByteArray.empty l0_3 x9_1).size ≤ 9223372036854775807) = true := decide_eq_true c31
                  try have c31b2 : (9223372036854775807 < x3_1.size + (rdOf ByteArray.empty l0_3 x9_1).size) = False := eq_false (Nat.not_lt.2 c31)
                  have H' := Aside0.mk H
                  clear H
                  have p6136 : 0 ≤ (x9_1 : Int) := of_decide_eq_true (by first | (with_reducible assumption) | assumption)
                  have q6136 : x9_1 < (l0_3.length : Int) := of_decide_eq_true (by first | (with_reducible assumption) | assumption)
                  obtain ⟨ad6136, e6136, hx6136_0⟩ := Kd.at_string HR0_3.out x9_1 p6136 q6136
                  cases e6136
                  replace hx6136_0 := (HB.out.cell (World.block_lt_of_cell? w _ hx6136_0)).trans hx6136_0
                  replace p6136 := eq_true p6136
                  replace q6136 := eq_true q6136
                  have hcz32_0 : wr.cell? ⟨gb6135, 0, none⟩ = some (.int .i64 a0_0) := (blk_cell BK6135.out 0).trans rfl
                  have hcz32_1 : wr.cell? ⟨gb6135, 1, none⟩ = some (.string a0_1) := (blk_cell BK6135.out 1).trans rfl
                  have hcz32_2 : wr.cell? ⟨gb6135, 2, none⟩ = some (.bool a0_2) := (blk_cell BK6135.out 2).trans rfl
                  have hcz32_3 : wr.cell? ⟨gb6135, 3, none⟩ = some (.slice (some ad6136) l0_3.length c0_3) := (blk_cell BK6135.out 3).trans rfl
                  have hcz32_4 : wr.cell? ⟨gb6135, 4, none⟩ = some (.slice A0_4 l0_4.length c0_4) := (blk_cell BK6135.out 4).trans rfl
                  have hfz32_0 := blk_frozen BK6135.out 0
                  have hfz32_1 := blk_frozen BK6135.out 1
                  have hfz32_2 := blk_frozen BK6135.out 2
                  have hfz32_3 := blk_frozen BK6135.out 3
                  have hfz32_4 := blk_frozen BK6135.out 4
                  go_wp2
                  go_roundg k1
                  case measure => have := HK1.out; omega
                  case rel => exact ⟨(x3_1 ++ (rdOf ByteArray.empty l0_3 x9_1)), (wrap64 (x9_1 + 1)), (by first | rfl | (simp; done) | (simp [*]; done)), (by first | rfl | (simp; done) | (simp [*]; done)), H', ⟨by have := HK1.out; omega⟩, ⟨by (with_reducible repeat (first | refine blk_drewN ?_ _ | refine blk_drew ?_ | refine blk_alloc ?_ _)); exact BK6135.out⟩, ⟨by repeat (first | (with_reducible first | exact HB.out | apply below_alloc | apply pw_below_drewN | apply below_drew1 | refine below_set ?_ GE6135.out) | exact HB.out)⟩⟩
                · rw [if_neg c31] at H
                  exact absurd H (by simp)
          · rw [if_neg c6] at H
            exact absurd H (by simp)
        · rw [if_neg c5] at H
          exact absurd H (by simp)
      · rw [if_neg c4] at H
        have c4b0 : decide (x9_1 < (l0_3.length : Int)) = false := decide_eq_false c4
        clear c4
        by_cases c33 : x3_1.size + 1 ≤ 9223372036854775807
        · rw [if_pos c33] at H
          have c33b0 := eq_true c33
          have c33b1 : decide (x3_1.size + 1 ≤ 9223372036854775807) = true := decide_eq_true c33
          try have c33b2 : (9223372036854775807 < x3_1.size + 1) = False := eq_false (Nat.not_lt.2 c33)
          obtain rfl := Option.some.inj H
          go_wp2
          go_ret
          exact ⟨by first | rfl | (simp [errW_none, errW_some] <;> rfl) | (simp [*, errW_none, errW_some] <;> rfl), by repeat (first | (with_reducible first | exact HB.out | apply below_alloc | apply pw_below_drewN | apply below_drew1 | refine below_set ?_ GE6135.out) | exact HB.out)⟩
        · rw [if_neg c33] at H
          exact absurd H (by simp)

-- by hand: function 57 (strings_Join)

-- by hand: function 58 (strings_Builder_WriteString)

-- by hand: function 59 (strings_Builder_String)

end Go.Proofs.Ytmdhanegafclmaa.PFnExactExpCoreShow
