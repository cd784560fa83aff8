/- The marks in a list of libraries (laws.markSisLibS), by hand: the list and the lists that its elements hold are the call's own (Kd.S); each element is marked once. Condition: none but what markText and markStringS ask of the numbers. -/
import Derived.Test.YtmdhanegafclmaaPFnExactSisOrderx6
namespace Go.Proofs.Ytmdhanegafclmaa.PFnExactSisOrder
open Go.RowKit Go.Proofs.YtmdhanegafclmaaW.PrintWords Go.Proofs.YtmdhanegafclmaaW.PrintLast Go.Proofs.YtmdhanegafclmaaW.PrintMore
set_option linter.unusedVariables false
set_option linter.unusedSimpArgs false
section
variable {W : World} {base g n cap : Nat} {ok : Nat → Prop} {xs : List S68} {i : Int}
theorem setCells_one (W : World) (g o : Nat) (u : Value) : W.setCells g o [u] = W.setCell ⟨g, o, none⟩ u := rfl
/-- The name of element i is written. -/
theorem S68_name (h : Kd.S k68 68 W base ok (.slice (some ⟨g, 0, none⟩) n cap) xs) (h0 : 0 ≤ i) (h1 : i < n) (t : ByteArray) :
    W.cell? ⟨g, i.toNat * 3, none⟩ = some (.string (rd_T68 xs i).f0) ∧ W.frozen? ⟨g, i.toNat * 3, none⟩ = false ∧
      Kd.S k68 68 (W.setCell ⟨g, i.toNat * 3, none⟩ (.string t)) base ok (.slice (some ⟨g, 0, none⟩) n cap) (xs.set i.toNat ⟨t, (rd_T68 xs i).f1, (rd_T68 xs i).f2⟩) ∧ W.grownBy (W.setCell ⟨g, i.toNat * 3, none⟩ (.string t)) (some g) := by
  obtain ⟨oki, c, hcl, hM, hcc, hfr, hoki, hH⟩ := Kd.S_elem h z68 i h0 h1
  obtain ⟨v1, rfl, hR⟩ := k68_openM hM
  obtain ⟨h2, h3⟩ := Kd.H_seg hH h0 h1 (seg := [.string t]) (j := 0) (show 0 + 1 ≤ 3 by omega) (fun q hq => by rw [List.mem_singleton.mp hq]; rfl)
  have hM2 := k68_mkM W base oki ⟨t, (rd_T68 xs i).f1, (rd_T68 xs i).f2⟩ hR
  have hb := Kd.H_back h2 (x' := ⟨t, (rd_T68 xs i).f1, (rd_T68 xs i).f2⟩) (Kd.M_step hM2 (fun k hk hlt => h3.block k hlt (fun he => (hoki k hk).2 (by injection he)))) (fun _ hk => hk)
  exact ⟨hcc 0 _ rfl, hfr 0, hb, h3⟩
/-- The text of element i is written. -/
theorem S68_text (h : Kd.S k68 68 W base ok (.slice (some ⟨g, 0, none⟩) n cap) xs) (h0 : 0 ≤ i) (h1 : i < n) (t : ByteArray) :
    W.cell? ⟨g, i.toNat * 3 + 2, none⟩ = some (.string (rd_T68 xs i).f2) ∧ W.frozen? ⟨g, i.toNat * 3 + 2, none⟩ = false ∧
      Kd.S k68 68 (W.setCell ⟨g, i.toNat * 3 + 2, none⟩ (.string t)) base ok (.slice (some ⟨g, 0, none⟩) n cap) (xs.set i.toNat ⟨(rd_T68 xs i).f0, (rd_T68 xs i).f1, t⟩) ∧ W.grownBy (W.setCell ⟨g, i.toNat * 3 + 2, none⟩ (.string t)) (some g) := by
  obtain ⟨oki, c, hcl, hM, hcc, hfr, hoki, hH⟩ := Kd.S_elem h z68 i h0 h1
  obtain ⟨v1, rfl, hR⟩ := k68_openM hM
  obtain ⟨h2, h3⟩ := Kd.H_seg hH h0 h1 (seg := [.string t]) (j := 2) (show 2 + 1 ≤ 3 by omega) (fun q hq => by rw [List.mem_singleton.mp hq]; rfl)
  have hM2 := k68_mkM W base oki ⟨(rd_T68 xs i).f0, (rd_T68 xs i).f1, t⟩ hR
  have hb := Kd.H_back h2 (x' := ⟨(rd_T68 xs i).f0, (rd_T68 xs i).f1, t⟩) (Kd.M_step hM2 (fun k hk hlt => h3.block k hlt (fun he => (hoki k hk).2 (by injection he)))) (fun _ hk => hk)
  exact ⟨hcc 2 _ rfl, hfr 2, hb, h3⟩
/-- What element i holds is lent to a call that writes it. -/
theorem S68_needs (h : Kd.S k68 68 W base ok (.slice (some ⟨g, 0, none⟩) n cap) xs) (h0 : 0 ≤ i) (h1 : i < n) (hn : ∀ k, W.heap.size ≤ k → ok k) :
    ∃ (oki : Nat → Prop) (A : Option Addr) (c : Nat), W.cell? ⟨g, i.toNat * 3 + 1, none⟩ = some (.slice A (rd_T68 xs i).f1.length c) ∧ Kd.R Kd.string 9 W base oki (.slice A (rd_T68 xs i).f1.length c) (rd_T68 xs i).f1 ∧ (∀ k, oki k → ok k) ∧
      ∀ (w' : World) (r : List ByteArray), Kept W w' oki → Kd.R Kd.string 9 w' base (fun k => oki k ∨ W.heap.size ≤ k) (.slice A (rd_T68 xs i).f1.length c) r →
        Kd.S k68 68 w' base ok (.slice (some ⟨g, 0, none⟩) n cap) (xs.set i.toNat ⟨(rd_T68 xs i).f0, r, (rd_T68 xs i).f2⟩) := by
  have hb : Kd.S k68 68 W base (fun k => ok k ∧ ¬ (W.heap.size ≤ k)) (.slice (some ⟨g, 0, none⟩) n cap) xs := Kd.S_mono (Kd.S_bound h) (fun k hk => ⟨hk.1, by have := hk.2.2.1; omega⟩)
  obtain ⟨oki, c, hcl, hM, hcc, hfr, hoki, hH⟩ := Kd.S_elem hb z68 i h0 h1
  obtain ⟨v1, rfl, hR⟩ := k68_openM hM
  obtain ⟨A, cc, rfl⟩ := Kd.R_slice hR
  refine ⟨oki, A, cc, hcc 1 _ rfl, hR, fun k hk => (hoki k hk).1.1, fun w' r hk hr => ?_⟩
  have h2 := Kd.H_kept hH hk (fun k _ hn2 => hn2)
  exact Kd.H_back (Kd.H_more h2 hn) (x' := ⟨(rd_T68 xs i).f0, r, (rd_T68 xs i).f2⟩) (k68_mkM w' base _ ⟨(rd_T68 xs i).f0, r, (rd_T68 xs i).f2⟩ hr) (fun k hk => hk)
end
def laws_markSisLibS.l0 : Nat → List S68 → Int → Int → Option Int
  | 0, _, _, _ => none
  | k + 1, x0, x1, x5 => if x5 < (x0.length : Int) then (if 0 ≤ x5 then ((laws_markText.f k x1).bind fun t1 => ((laws_markStringS.f k (rd_T68 x0 x5).f1 (wrap64 (x1 + 1))).bind fun bt2 => ((laws_markText.f k bt2.1).bind fun t3 => (laws_markSisLibS.l0 k x0 (wrap64 (bt2.1 + 1)) (wrap64 (x5 + 1)))))) else none) else some x1
def laws_markSisLibS.f (k : Nat) (l0 : List S68) (a1 : Int) : Option Int := laws_markSisLibS.l0 k l0 a1 0
theorem laws_markSisLibS.mono_l : ∀ k, (∀ y0 y1 y2, LeO (laws_markSisLibS.l0 k y0 y1 y2) (laws_markSisLibS.l0 (k + 1) y0 y1 y2))
  | 0 => fun _ _ _ r h => by simp [laws_markSisLibS.l0] at h
  | k + 1 => by
    have ih0 := laws_markSisLibS.mono_l k
    intro y0 y1 y2
    unfold laws_markSisLibS.l0
    repeat' first
      | exact ih0 _ _ _
      | exact laws_markText.mono _ _
      | exact laws_markStringS.mono _ _ _
      | exact LeO.none _
      | exact LeO.refl _
      | refine LeO.ite ?_ ?_
      | refine LeO.bind ?_ (fun _ => ?_)
theorem laws_markSisLibS.mono : ∀ a0 a1 k, LeO (laws_markSisLibS.f k a0 a1) (laws_markSisLibS.f (k + 1) a0 a1) := fun a0 a1 k => laws_markSisLibS.mono_l k _ _ _
theorem rd68_same {xs ys : List S68} {i : Int} (h : ys.drop i.toNat = xs.drop i.toNat) : rd_T68 ys i = rd_T68 xs i := by
  have e : ∀ l : List S68, l.getD i.toNat z68 = (l.drop i.toNat).headD z68 := by
    intro l
    rw [List.headD_eq_head?_getD, List.head?_drop, List.getD_eq_getElem?_getD]
  unfold rd_T68
  rw [e, e, h]
theorem rd68_set {xs : List S68} {i : Int} (h0 : 0 ≤ i) (h1 : i < (xs.length : Int)) (a : S68) : rd_T68 (xs.set i.toNat a) i = a := by
  unfold rd_T68
  rw [List.getD_eq_getElem?_getD, List.getElem?_set_self (by omega)]
  rfl
theorem drop_next {xs ys : List S68} {i : Nat} (h : ys.drop i = xs.drop i) (a b c : S68) : ((((ys.set i a).set i b).set i c).drop (i + 1)) = xs.drop (i + 1) := by
  rw [List.drop_set_of_lt (by omega), List.drop_set_of_lt (by omega), List.drop_set_of_lt (by omega)]
  have := congrArg (List.drop 1) h
  rwa [List.drop_drop, List.drop_drop] at this
set_option maxHeartbeats 8000000 in
set_option maxRecDepth 100000 in
theorem laws_markSisLibS.calls (k : Nat) (P : Nat → Prop) (u : Value) (l0 : List S68) (a1 r1 : Int) (w0 w : World) (hB : Below w0.heap.size w0 w) (ho : Kd.S k68 68 w w0.heap.size P u l0) (h : laws_markSisLibS.f k l0 a1 = some r1) :
    Calls Try.prog 33 #[u, .int .i64 a1] w fun e w' => e = .returned (.int .i64 r1) ∧ Below w0.heap.size w0 w' ∧ Kept w w' P := by
  have hu68 := Try.underlying68
  have HO := Aside0.mk (Kd.S_mono (ok' := fun k_ => P k_ ∨ w.heap.size ≤ k_) ho (fun _ hk => .inl hk))
  have HK := Aside0.mk (Kept.refl w P)
  have HB := Aside0.mk hB
  clear hB
  have H' := Aside0.mk (show laws_markSisLibS.l0 k l0 a1 0 = some r1 from h)
  clear h
  have hlen : ∃ A c, u = .slice A l0.length c := Kd.S_slice ho
  obtain ⟨Au, cu, rfl⟩ := hlen
  clear ho
  go_enter Try.func33, Try.ntmps33
  go_wp2
  go_loopg [1, 5] k (fun kq v1 v5 w' => ∃ (ys : List S68) (x1_1 : Int) (x5_1 : Int), v1 = .int .i64 x1_1 ∧ v5 = .int .i64 x5_1 ∧ Aside0 (laws_markSisLibS.l0 kq l0 x1_1 x5_1 = some r1) ∧ Aside0 (kq ≤ k) ∧ Aside0 (0 ≤ x5_1) ∧ Aside0 (ys.length = l0.length) ∧ Aside0 (ys.drop x5_1.toNat = l0.drop x5_1.toNat) ∧ Aside0 (Kd.S k68 68 w' w0.heap.size (fun k_ => P k_ ∨ w.heap.size ≤ k_) (.slice Au l0.length cu) ys) ∧ Aside0 (Kept w w' P) ∧ Aside0 (Below w0.heap.size w0 w'))
  case atStart => exact ⟨l0, a1, 0, rfl, rfl, H', ⟨Nat.le_refl _⟩, ⟨Int.le_refl _⟩, ⟨rfl⟩, ⟨rfl⟩, ⟨by (with_reducible repeat (first | apply Kd.S_alloc | apply Kd.S_drewN | apply Kd.S_drew)); exact HO.out⟩, ⟨by repeat (first | (with_reducible first | exact HK.out | apply Kept.alloc | apply Kept.drewN | apply Kept.drew) | exact HK.out)⟩, ⟨by repeat (first | (with_reducible first | exact HB.out | apply below_alloc | apply pw_below_drewN | apply below_drew1) | exact HB.out)⟩⟩
  case round =>
    clear H'
    obtain ⟨ys, x1_1, x5_1, rfl, rfl, HA, HK1, H05, HLE, HDR, HO_0, HK, HB⟩ := hrel
    cases gk with
    | zero => exact absurd HA.out (by simp [laws_markSisLibS.l0])
    | succ k1 =>
      have H := HA.out
      clear HA
      simp only [laws_markSisLibS.l0] at H
      by_cases c3 : x5_1 < (l0.length : Int)
      · rw [if_pos c3, if_pos H05.out] at H
        have c3b0 : decide (x5_1 < (l0.length : Int)) = true := decide_eq_true c3
        replace H := Option.bind_eq_some_iff.mp H
        obtain ⟨t1, A1, H⟩ := H
        replace H := Option.bind_eq_some_iff.mp H
        obtain ⟨⟨n2, r2⟩, A2, H⟩ := H
        replace H := Option.bind_eq_some_iff.mp H
        obtain ⟨t3, A3, H⟩ := H
        have H' := Aside0.mk H
        clear H
        have A1' := Aside0.mk A1
        have A2' := Aside0.mk (show laws_markStringS.f k1 (rd_T68 ys x5_1).f1 (wrap64 (x1_1 + 1)) = some (n2, r2) from by rw [rd68_same HDR.out]; exact A2)
        have A3' := Aside0.mk (show laws_markText.f k1 n2 = some t3 from A3)
        clear A1 A2 A3
        obtain ⟨g, cap, eu, gb, gl, cl, HG⟩ := Kd.S_form HO_0.out (by have := HLE.out; have := H05.out; omega)
        injection eu with eu1 eu2 eu3
        subst eu1
        clear eu2 eu3
        have GB := Aside0.mk gb
        clear gb gl HG
        have c3' := Aside0.mk c3
        have p6 : (0 ≤ (x5_1 : Int)) = True := eq_true H05.out
        have q6 : (x5_1 < ((l0.length : Nat) : Int)) = True := eq_true c3
        clear c3
        have hnn := (Kd.S_reads' HO_0.out).2.2.2.1
        have hnx : wrap64 (x5_1 + 1) = x5_1 + 1 := by have := c3'.out; have := H05.out; have := HLE.out; unfold wrap64; omega
        go_wp2_with (first | ((with_reducible refine gate_callee (f := 70) rfl ?_); refine goesL_ (some 15) rfl rfl Try.func70 (by kernel_rfl) rfl #[.int .i64 x1_1] rfl (by (try simp only [List.map_toArray, List.map_cons, List.map_nil]); first | done | rfl) ?_; (with_reducible refine (laws_markText.calls k1 x1_1 t1 _ A1'.out).mono ?_); rintro e w8 ⟨rfl, hb⟩; refine ⟨_, rfl, ?_⟩; have n0_ := Aside0.mk (Kd.S_below (by (with_reducible repeat (first | apply Kd.S_alloc | apply Kd.S_drewN | apply Kd.S_drew)); exact HO_0.out) hb); have n1_ := Aside0.mk (Kept.below (S := P) (by repeat (first | (with_reducible first | exact HK.out | apply Kept.alloc | apply Kept.drewN | apply Kept.drew) | exact HK.out)) hb); have n2_ := Aside0.mk (below_step (by repeat (first | (with_reducible first | exact HB.out | apply below_alloc | apply pw_below_drewN | apply below_drew1) | exact HB.out)) hb); clear HO_0 HK HB hb; have HO_0 := n0_; have HK := n1_; have HB := n2_; clear n0_ n1_ n2_; obtain ⟨hc1_, hf1_, hs1_, hg1_⟩ := S68_name HO_0.out H05.out c3'.out t1; have HS1 := Aside0.mk hs1_; have HG1 := Aside0.mk hg1_; clear hs1_ hg1_) | ((with_reducible refine gate_store (t := 9) (p := 17) rfl ?_); refine store_event (t := 9) (p := 17) (v := ?vo_w10) (w1 := (w8.setCell ⟨g, (x5_1 : Int).toNat * 3, none⟩ (.string t1))) ?hg ?ho ?hn ?hr ?_; (case ho => rfl); (case hg => rfl); (case hn => rfl); (case hr => first | (go_simp; done) | (go_simp; rfl)); intro w10 hw; have n0_ := Aside0.mk (show Kd.S k68 68 w10 w0.heap.size (fun k_ => P k_ ∨ w.heap.size ≤ k_) (.slice (some ⟨g, 0, none⟩) l0.length cu) _ from (by rw [hw]; exact HS1.out)); have n1_ := Aside0.mk (Kept.of_grown (S := P) (show w8.grownBy w10 (some g) from (by rw [hw]; exact HG1.out)) (by repeat (first | (with_reducible first | exact HK.out | apply Kept.alloc | apply Kept.drewN | apply Kept.drew) | exact HK.out)) (fun k_ e_ => (HO_0.out.elim fun _ q_ => q_.1 k_ e_))); have n2_ := Aside0.mk ((by rw [hw]; exact below_set (HB.out) GB.out : Below w0.heap.size w0 w10)); clear HO_0 HK HB hc1_ hf1_ hw; have HO_0 := n0_; have HK := n1_; have HB := n2_; clear n0_ n1_ n2_; have HSZ := Aside0.mk HK.out.1; obtain ⟨oki, Ai, ci, hc2_, hr2_, hok2_, hbk2_⟩ := S68_needs HO_0.out H05.out c3'.out (fun k_ hk_ => .inr (Nat.le_trans HSZ.out hk_)); rw [rd68_set H05.out (by have := c3'.out; have := HLE.out; omega)] at hc2_; rw [rd68_set H05.out (by have := c3'.out; have := HLE.out; omega)] at hr2_; have HR2 := Aside0.mk hr2_; have HOK2 := Aside0.mk hok2_; have HBK2 := Aside0.mk hbk2_; clear hr2_ hok2_ hbk2_) | (go_at_call 34; (with_reducible refine (laws_markStringS.calls k1 oki _ (rd_T68 ys x5_1).f1 (wrap64 (x1_1 + 1)) n2 r2 w0 _ ?sB ?sO A2'.out).mono ?_); (case sB => repeat (first | (with_reducible first | exact HB.out | apply below_alloc | apply pw_below_drewN | apply below_drew1) | exact HB.out)); (case sO => exact (by (with_reducible repeat (first | apply Kd.R_alloc | apply Kd.R_drewN | apply Kd.R_drew)); exact HR2.out)); rintro e w12 ⟨rfl, hr_, hb_, hk_⟩; have n0_ := Aside0.mk (HBK2.out w12 r2 hk_ (by rw [rd68_set H05.out (by have := c3'.out; have := HLE.out; omega)]; exact hr_)); have n1_ := Aside0.mk (Kept.then_ HK.out hk_ (fun k_ h2_ => HOK2.out k_ h2_)); have n2_ := Aside0.mk hb_; clear HO_0 HK HB HR2 HOK2 HBK2 hr_ hb_ hk_ hc2_; have HO_0 := n0_; have HK := n1_; have HB := n2_; clear n0_ n1_ n2_) | ((with_reducible refine gate_callee (f := 70) rfl ?_); refine goesL_ (some 30) rfl rfl Try.func70 (by kernel_rfl) rfl #[.int .i64 n2] rfl (by (try simp only [List.map_toArray, List.map_cons, List.map_nil]); first | done | rfl) ?_; (with_reducible refine (laws_markText.calls k1 n2 t3 _ A3'.out).mono ?_); rintro e w14 ⟨rfl, hb⟩; refine ⟨_, rfl, ?_⟩; have n0_ := Aside0.mk (Kd.S_below (by (with_reducible repeat (first | apply Kd.S_alloc | apply Kd.S_drewN | apply Kd.S_drew)); exact HO_0.out) hb); have n1_ := Aside0.mk (Kept.below (S := P) (by repeat (first | (with_reducible first | exact HK.out | apply Kept.alloc | apply Kept.drewN | apply Kept.drew) | exact HK.out)) hb); have n2_ := Aside0.mk (below_step (by repeat (first | (with_reducible first | exact HB.out | apply below_alloc | apply pw_below_drewN | apply below_drew1) | exact HB.out)) hb); clear HO_0 HK HB hb; have HO_0 := n0_; have HK := n1_; have HB := n2_; clear n0_ n1_ n2_; obtain ⟨hc3_, hf3_, hs3_, hg3_⟩ := S68_text HO_0.out H05.out c3'.out t3; have HS3 := Aside0.mk hs3_; have HG3 := Aside0.mk hg3_; clear hs3_ hg3_))
        go_roundg k1
        case measure => have := HK1.out; omega
        case rel => exact ⟨_, (wrap64 (n2 + 1)), (wrap64 (x5_1 + 1)), (by first | rfl | (simp; done) | (simp [*]; done)), (by first | rfl | (simp; done) | (simp [*]; done)), H', ⟨by have := HK1.out; omega⟩, ⟨by rw [hnx]; have := H05.out; omega⟩, ⟨by simp only [List.length_set]; exact HLE.out⟩, ⟨by rw [hnx, show (x5_1 + 1).toNat = x5_1.toNat + 1 from by have := H05.out; omega]; exact drop_next HDR.out _ _ _⟩, HS3, ⟨by exact Kept.of_grown (S := P) HG3.out HK.out (fun k_ e_ => (HO_0.out.elim fun _ q_ => q_.1 k_ e_))⟩, ⟨by exact below_set HB.out GB.out⟩⟩
      · rw [if_neg c3] at H
        have c3b0 : decide (x5_1 < (l0.length : Int)) = false := decide_eq_false c3
        clear c3
        obtain rfl := Option.some.inj H
        go_wp2
        go_ret
        exact ⟨by first | rfl | (simp; done) | (simp [*]; done), by repeat (first | (with_reducible first | exact HB.out | apply below_alloc | apply pw_below_drewN | apply below_drew1) | exact HB.out), by repeat (first | (with_reducible first | exact HK.out | apply Kept.alloc | apply Kept.drewN | apply Kept.drew) | exact HK.out)⟩
end Go.Proofs.Ytmdhanegafclmaa.PFnExactSisOrder
