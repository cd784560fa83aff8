/- FormFnExactExpShow of the seat's texts, cut down by prune.py to what the theorem comes to. -/
import Derived.Test.YtmdhanegafclmaaDoorZsPreFnExactExpShow
import Derived.Test.YtmdhanegafclmaaDoorZsPk
namespace Go.Proofs.YtmdhanegafclmaaDoor.Pure
open Go.RowKit Go.Proofs.YtmdhanegafclmaaDoor.PFnExactExpShow Go.Proofs.YtmdhanegafclmaaDoorW.PrintWords Go.Proofs.YtmdhanegafclmaaDoorW.PrintLast Go.Proofs.YtmdhanegafclmaaDoorW.Pk
set_option linter.unusedVariables false
set_option linter.unusedSimpArgs false
theorem ind30 {P : S30 → Prop} (h : ∀ x : S30, (∀ y ∈ x.f4, P y) → P x) : ∀ x, P x := by
 have key : ∀ n (x : S30), SizeOf.sizeOf x < n → P x := by
  intro n
  induction n with
  | zero => intro x hx; omega
  | succ n ih =>
   intro x hx
   refine h x (fun y hy => ih y ?_)
   have h1 := List.sizeOf_lt_of_mem hy
   cases x
   simp at h1 hx ⊢
   omega
 exact fun x => key _ x (Nat.lt_succ_self _)
theorem ind35 {P : S35 → Prop} (h : ∀ x : S35, (∀ y ∈ x.f4, P y) → P x) : ∀ x, P x := by
 have key : ∀ n (x : S35), SizeOf.sizeOf x < n → P x := by
  intro n
  induction n with
  | zero => intro x hx; omega
  | succ n ih =>
   intro x hx
   refine h x (fun y hy => ih y ?_)
   have h1 := List.sizeOf_lt_of_mem hy
   cases x
   simp at h1 hx ⊢
   omega
 exact fun x => key _ x (Nat.lt_succ_self _)
mutual
def big : S30 → Nat
 | ⟨_, t, sc, _, ks⟩ => t.size + sc.length + (ks.length + bigs ks)
def bigs : List S30 → Nat
 | [] => 0
 | x :: l => big x + bigs l
end
theorem big_mk (x : S30) : big x = x.f1.size + x.f2.length + (x.f4.length + bigs x.f4) := by cases x; rfl
mutual
def conv : S30 → S35
 | ⟨a, b, c, d, e⟩ => ⟨a, b, c, d, convs e⟩
def convs : List S30 → List S35
 | [] => []
 | x :: l => conv x :: convs l
end
theorem conv_mk (x : S30) : conv x = ⟨x.f0, x.f1, x.f2, x.f3, convs x.f4⟩ := by cases x; rfl
theorem convs_length (l : List S30) : (convs l).length = l.length := by
 induction l with
 | nil => rfl
 | cons x l ih => simp [convs, ih]
mutual
def wid : S35 → Nat
 | ⟨_, t, sc, _, ks⟩ => t.size + sc.length + (ks.length + wids ks)
def wids : List S35 → Nat
 | [] => 0
 | x :: l => wid x + wids l
end
theorem wid_mk (x : S35) : wid x = x.f1.size + x.f2.length + (x.f4.length + wids x.f4) := by cases x; rfl
theorem wids_mem {l : List S35} {x : S35} (h : x ∈ l) : wid x ≤ wids l := by
 induction l with
 | nil => cases h
 | cons y l ih =>
  simp only [wids]
  rcases List.mem_cons.1 h with rfl | h
  ·omega
  ·have := ih h; omega
theorem wids_conv (l : List S30) (h : ∀ x ∈ l, wid (conv x) = big x) : wids (convs l) = bigs l := by
 induction l with
 | nil => rfl
 | cons x l ih => simp only [convs, wids, bigs, h x (by simp), ih (fun y hy => h y (List.mem_cons_of_mem _ hy))]
theorem wid_conv : ∀ x : S30, wid (conv x) = big x := by
 refine ind30 (fun x ih => ?_)
 rw [conv_mk, wid_mk, big_mk, wids_conv _ ih, convs_length]
theorem rd30 (pre suf : List S30) (x : S30) : rd_T30 (pre ++ x :: suf) (pre.length : Int) = x := by
 unfold rd_T30; rw [Int.toNat_natCast]; exact getD_mid _ _ _ _
theorem rd35 (pre suf : List S35) (x : S35) : rd_T35 (pre ++ x :: suf) (pre.length : Int) = x := by
 unfold rd_T35; rw [Int.toNat_natCast]; exact getD_mid _ _ _ _
def SizesOk (x : S30) : Prop := W30 x → ∀ left : Int, 0 ≤ left → left ≤ 1048576 →
  ∃ r, Ev (fun k => laws_szExpForm.f k x.f0 x.f1 x.f2 x.f3 x.f4 left) r ∧ (r < 0 ∨ 0 ≤ r ∧ r + (big x : Nat) = left)
theorem sizes_kids_loop (suf : List S30) (hP : ∀ y ∈ suf, SizesOk y) : ∀ (pre : List S30) (left : Int), 0 ≤ left → left ≤ 1048576 → (∀ s ∈ suf, W30 s) → (pre ++ suf).length ≤ 9223372036854775807 →
  ∃ r, Ev (fun k => laws_szExpFormS.l0 k (pre ++ suf) left (pre.length : Int)) r ∧ (r < 0 ∨ 0 ≤ r ∧ r + (bigs suf : Nat) = left) := by
 induction suf with
 | nil =>
  intro pre left h0 hl _ _
  refine ⟨left, Ev.shift ?_, .inr ⟨h0, by simp [bigs]⟩⟩
  simp only [laws_szExpFormS.l0, if_neg (mid_not_lt pre)]
  exact Ev.now _
 | cons s suf ih =>
  intro pre left h0 hl hb hn
  obtain ⟨q, hq, hq2⟩ := hP s (by simp) (hb s (by simp)) left h0 hl
  by_cases hneg : q < 0
  ·refine ⟨-1, Ev.shift ?_, .inl (by omega)⟩
   simp only [laws_szExpFormS.l0, if_pos (mid_lt pre suf s), if_pos (Int.natCast_nonneg pre.length), rd30]
   refine Ev.bind hq ?_
   simp only [if_pos hneg]
   exact Ev.now _
  ·obtain ⟨r, hr, h⟩ := ih (fun y hy => hP y (List.mem_cons_of_mem _ hy)) (pre ++ [s]) q (by omega) (by omega) (fun x hx => hb x (List.mem_cons_of_mem _ hx)) (by simpa using hn)
   refine ⟨r, Ev.shift ?_, ?_⟩
   ·simp only [laws_szExpFormS.l0, if_pos (mid_lt pre suf s), if_pos (Int.natCast_nonneg pre.length), rd30]
    refine Ev.bind hq ?_
    simp only [if_neg hneg, next_i pre suf s hn]
    rw [mid_assoc pre suf s]
    exact hr
   ·rcases h with h | ⟨h1, h2⟩
    ·exact .inl h
    ·refine .inr ⟨h1, ?_⟩
     simp only [bigs]
     omega
theorem sizes_kids (l : List S30) (hP : ∀ y ∈ l, SizesOk y) (left : Int) (h0 : 0 ≤ left) (hl : left ≤ 1048576) (hn : l.length ≤ 9223372036854775807) (hb : ∀ s ∈ l, W30 s) :
  ∃ r, Ev (fun k => laws_szExpFormS.f k l left) r ∧ (r < 0 ∨ 0 ≤ r ∧ r + ((l.length + bigs l : Nat) : Int) = left) := by
 have hw : wrap64 (left - (l.length : Int)) = left - (l.length : Int) := wrap64_eq (by omega) (by omega)
 by_cases hneg : left - (l.length : Int) < 0
 ·refine ⟨-1, Ev.shift ?_, .inl (by omega)⟩
  simp only [laws_szExpFormS.f, hw, if_pos hneg]
  exact Ev.now _
 ·obtain ⟨r, hr, h⟩ := sizes_kids_loop l hP [] (left - l.length) (by omega) (by omega) hb (by simpa using hn)
  refine ⟨r, Ev.shift ?_, ?_⟩
  ·simp only [laws_szExpFormS.f, hw, if_neg hneg]
   exact hr
  ·rcases h with h | ⟨h1, h2⟩
   ·exact .inl h
   ·exact .inr ⟨h1, by omega⟩
theorem sizes_ok : ∀ x, SizesOk x := by
 refine ind30 (fun x ih hW left h0 hl => ?_)
 obtain ⟨_, hb1, hb2, _, hb4⟩ := hW.out
 have hn2 := hb2.1
 have hw : wrap64 (left - (x.f1.size : Int)) = left - (x.f1.size : Int) := wrap64_eq (by omega) (by omega)
 by_cases hneg : left - (x.f1.size : Int) < 0
 ·refine ⟨-1, Ev.shift ?_, .inl (by omega)⟩
  simp only [laws_szExpForm.f, hw, if_pos hneg]
  exact Ev.now _
 have hw2 : wrap64 (left - (x.f1.size : Int) - (x.f2.length : Int)) = left - (x.f1.size : Int) - (x.f2.length : Int) := wrap64_eq (by omega) (by omega)
 by_cases hneg2 : left - (x.f1.size : Int) - (x.f2.length : Int) < 0
 ·refine ⟨-1, Ev.shift ?_, .inl (by omega)⟩
  simp only [laws_szExpForm.f, hw, if_neg hneg, laws_szIntS.f, hw2, if_pos hneg2, Option.bind_some, show ((-1 : Int) < 0) from by decide, if_true]
  exact Ev.now _
 obtain ⟨p, hp, hp2⟩ := sizes_kids x.f4 ih (left - (x.f1.size : Int) - (x.f2.length : Int)) (by omega) (by omega) hb4.1 hb4.2
 by_cases hneg3 : p < 0
 ·refine ⟨-1, Ev.shift ?_, .inl (by omega)⟩
  simp only [laws_szExpForm.f, hw, if_neg hneg, laws_szIntS.f, hw2, if_neg hneg2, Option.bind_some]
  refine Ev.bind hp ?_
  simp only [if_pos hneg3]
  exact Ev.now _
 ·refine ⟨p, Ev.shift ?_, .inr ⟨by omega, ?_⟩⟩
  ·simp only [laws_szExpForm.f, hw, if_neg hneg, laws_szIntS.f, hw2, if_neg hneg2, Option.bind_some]
   refine Ev.bind hp ?_
   simp only [if_neg hneg3]
   exact Ev.now _
  ·rw [big_mk]
   omega
theorem toInt_loop (suf : List Int) : ∀ (pre : List Int) (e : Int), (pre ++ suf).length ≤ 9223372036854775807 →
  Ev (fun k => laws_toIntS.l0 k (pre ++ suf) (pre ++ List.replicate suf.length e) (pre.length : Int)) (pre ++ suf) := by
 induction suf with
 | nil =>
  intro pre e _
  refine Ev.shift ?_
  simp only [laws_toIntS.l0, if_neg (mid_not_lt pre), List.length_nil, List.replicate_zero]
  exact Ev.now _
 | cons s suf ih =>
  intro pre e hn
  refine Ev.shift ?_
  simp only [List.length_cons, List.replicate_succ, laws_toIntS.l0, if_pos (mid_lt pre suf s), if_pos (mid_lt pre (List.replicate suf.length e) e), if_pos (Int.natCast_nonneg pre.length), rd_mid, next_i pre suf s hn, set_mid]
  have h := ih (pre ++ [s]) e (by simpa using hn)
  rw [mid_assoc pre suf s]
  exact h
theorem toInt (l : List Int) (hn : l.length ≤ 1048576) : Ev (fun k => laws_toIntS.f k l) l := by
 have h := toInt_loop l [] 0 (by simp; omega)
 simp only [laws_toIntS.f, if_pos (Int.natCast_nonneg l.length), Int.toNat_natCast, if_pos (show l.length ≤ 35184372088832 by omega)]
 exact h
theorem set_mid' {α : Type} (pre suf : List α) (x y : α) (n : Nat) (h : pre.length = n) : (pre ++ x :: suf).set (n : Int).toNat y = (pre ++ [y]) ++ suf := by
 subst h
 exact set_mid pre suf x y
def ConvOk (x : S30) : Prop := big x ≤ 1048576 → Ev (fun k => laws_toExpForm.f k x.f0 x.f1 x.f2 x.f3 x.f4) (x.f0, x.f1, x.f2, x.f3, convs x.f4)
theorem toKids_loop (suf : List S30) (hP : ∀ y ∈ suf, ConvOk y) : ∀ (pre : List S30) (done : List S35) (e : S35), done.length = pre.length → bigs suf ≤ 1048576 → (pre ++ suf).length ≤ 9223372036854775807 →
  Ev (fun k => laws_toExpFormS.l0 k (pre ++ suf) (done ++ List.replicate suf.length e) (pre.length : Int)) (done ++ convs suf) := by
 induction suf with
 | nil =>
  intro pre done e hd _ _
  refine Ev.shift ?_
  simp only [laws_toExpFormS.l0, if_neg (mid_not_lt pre), List.length_nil, List.replicate_zero, convs]
  exact Ev.now _
 | cons s suf ih =>
  intro pre done e hd hb hn
  simp only [bigs] at hb
  refine Ev.shift ?_
  have hlt : ((pre.length : Nat) : Int) < (((done ++ e :: List.replicate suf.length e).length : Nat) : Int) := by rw [← hd]; exact mid_lt _ _ _
  simp only [List.length_cons, List.replicate_succ, laws_toExpFormS.l0, if_pos (mid_lt pre suf s), if_pos (Int.natCast_nonneg pre.length), rd30, next_i pre suf s hn, if_pos hlt]
  refine Ev.bind (hP s (by simp) (by omega)) ?_
  have h := ih (fun y hy => hP y (List.mem_cons_of_mem _ hy)) (pre ++ [s]) (done ++ [conv s]) e (by simp [hd]) (by omega) (by simpa using hn)
  rw [set_mid' done (List.replicate suf.length e) e _ pre.length hd, ← conv_mk, mid_assoc pre suf s]
  simpa [convs] using h
theorem toKids (l : List S30) (hP : ∀ y ∈ l, ConvOk y) (hn : l.length ≤ 1048576) (hb : bigs l ≤ 1048576) : Ev (fun k => laws_toExpFormS.f k l) (convs l) := by
 have h := toKids_loop l hP [] [] z35 rfl hb (by simp; omega)
 refine Ev.shift ?_
 simp only [laws_toExpFormS.f, if_pos (Int.natCast_nonneg l.length), Int.toNat_natCast, if_pos (show l.length ≤ 3518437208883 by omega)]
 exact h
theorem conv_ok : ∀ x, ConvOk x := by
 refine ind30 (fun x ih hb => ?_)
 rw [big_mk] at hb
 refine Ev.shift ?_
 simp only [laws_toExpForm.f]
 refine Ev.bind (toInt x.f2 (by omega)) ?_
 refine Ev.bind (toKids x.f4 ih (by omega) (by omega)) ?_
 exact Ev.now _
theorem eqInt_loop (suf : List Int) : ∀ (pre : List Int), (pre ++ suf).length ≤ 9223372036854775807 → Ev (fun k => laws_eqIntS.l0 k (pre ++ suf) (pre ++ suf) (pre.length : Int)) true := by
 induction suf with
 | nil =>
  intro pre _
  refine Ev.shift ?_
  simp only [laws_eqIntS.l0, if_neg (mid_not_lt pre)]
  exact Ev.now _
 | cons s suf ih =>
  intro pre hn
  refine Ev.shift ?_
  simp only [laws_eqIntS.l0, if_pos (mid_lt pre suf s), if_pos (Int.natCast_nonneg pre.length), next_i pre suf s hn, if_true]
  rw [mid_assoc pre suf s]
  exact ih (pre ++ [s]) (by simpa using hn)
theorem eqInt (l : List Int) (hn : l.length ≤ 1048576) : Ev (fun k => laws_eqIntS.f k l l) true := by
 simp only [laws_eqIntS.f, if_true]
 exact eqInt_loop l [] (by simp; omega)
def EqOk (x : S35) : Prop := wid x ≤ 1048576 → Ev (fun k => laws_eqExpForm.f k x.f0 x.f1 x.f2 x.f3 x.f4 x.f0 x.f1 x.f2 x.f3 x.f4) true
theorem eqKids_loop (suf : List S35) (hP : ∀ y ∈ suf, EqOk y) : ∀ (pre : List S35), wids suf ≤ 1048576 → (pre ++ suf).length ≤ 9223372036854775807 → Ev (fun k => laws_eqExpFormS.l0 k (pre ++ suf) (pre ++ suf) (pre.length : Int)) true := by
 induction suf with
 | nil =>
  intro pre _ _
  refine Ev.shift ?_
  simp only [laws_eqExpFormS.l0, if_neg (mid_not_lt pre)]
  exact Ev.now _
 | cons s suf ih =>
  intro pre hb hn
  simp only [wids] at hb
  refine Ev.shift ?_
  simp only [laws_eqExpFormS.l0, if_pos (mid_lt pre suf s), if_pos (Int.natCast_nonneg pre.length), rd35, next_i pre suf s hn]
  refine Ev.bind (hP s (by simp) (by omega)) ?_
  simp only [if_true]
  rw [mid_assoc pre suf s]
  exact ih (fun y hy => hP y (List.mem_cons_of_mem _ hy)) (pre ++ [s]) (by omega) (by simpa using hn)
theorem eqKids (l : List S35) (hP : ∀ y ∈ l, EqOk y) (hn : l.length ≤ 1048576) (hb : wids l ≤ 1048576) : Ev (fun k => laws_eqExpFormS.f k l l) true := by
 refine Ev.shift ?_
 simp only [laws_eqExpFormS.f, if_true]
 exact eqKids_loop l hP [] hb (by simp; omega)
theorem eq_ok : ∀ x, EqOk x := by
 refine ind35 (fun x ih hb => ?_)
 rw [wid_mk] at hb
 refine Ev.shift ?_
 simp only [laws_eqExpForm.f, if_true]
 refine Ev.bind (eqInt x.f2 (by omega)) ?_
 simp only [if_true]
 refine Ev.bind (eqKids x.f4 ih (by omega) (by omega)) ?_
 simp only [if_true]
 exact Ev.now _
end Go.Proofs.YtmdhanegafclmaaDoor.Pure
