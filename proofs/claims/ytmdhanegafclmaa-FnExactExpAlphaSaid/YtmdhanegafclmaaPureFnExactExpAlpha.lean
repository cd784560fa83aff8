/- FnExactExpAlpha: at every two lists of parts (as they can be read), either they are together too large for the law's own bound, or the program's ExpAlpha answers what the reference's answers and neither argument changes: the law's function returns true. No condition beyond the reading. -/
import Derived.Test.YtmdhanegafclmaaPreFnExactExpAlpha
import Derived.Test.YtmdhanegafclmaaPk
namespace Go.Proofs.Ytmdhanegafclmaa.Pure
open Go.RowKit Go.Proofs.Ytmdhanegafclmaa.PFnExactExpAlpha Go.Proofs.YtmdhanegafclmaaW.PrintWords Go.Proofs.YtmdhanegafclmaaW.PrintLast Go.Proofs.YtmdhanegafclmaaW.Pk
set_option linter.unusedVariables false
set_option linter.unusedSimpArgs false

/-! ### the trees -/
theorem ind47 {P : S47 → Prop} (h : ∀ x : S47, (∀ y ∈ x.f4, P y) → P x) : ∀ x, P x := by
  have key : ∀ n (x : S47), SizeOf.sizeOf x < n → P x := by
    intro n
    induction n with
    | zero => intro x hx; omega
    | succ n ih =>
      intro x hx
      refine h x (fun y hy => ih y ?_)
      have h1 := List.sizeOf_lt_of_mem hy
      cases x
      simp at h1 hx ⊢
      omega
  exact fun x => key _ x (Nat.lt_succ_self _)
theorem ind51 {P : S51 → Prop} (h : ∀ x : S51, (∀ y ∈ x.f4, P y) → P x) : ∀ x, P x := by
  have key : ∀ n (x : S51), SizeOf.sizeOf x < n → P x := by
    intro n
    induction n with
    | zero => intro x hx; omega
    | succ n ih =>
      intro x hx
      refine h x (fun y hy => ih y ?_)
      have h1 := List.sizeOf_lt_of_mem hy
      cases x
      simp at h1 hx ⊢
      omega
  exact fun x => key _ x (Nat.lt_succ_self _)
def strs (l : List ByteArray) : Nat := l.length + (l.map ByteArray.size).sum
mutual
/-- How large a part is, as the law counts. -/
def big : S47 → Nat
  | ⟨_, t, _, ns, ks⟩ => t.size + strs ns + (ks.length + bigs ks)
def bigs : List S47 → Nat
  | [] => 0
  | x :: l => big x + bigs l
end
mutual
def conv : S47 → S51
  | ⟨a, b, c, d, e⟩ => ⟨a, b, c, d, convs e⟩
def convs : List S47 → List S51
  | [] => []
  | x :: l => conv x :: convs l
end
mutual
def nms : S51 → Nat
  | ⟨_, _, _, ns, ks⟩ => ns.length + nmss ks
def nmss : List S51 → Nat
  | [] => 0
  | x :: l => nms x + nmss l
end
theorem nmss_mem {l : List S51} {x : S51} (h : x ∈ l) : nms x ≤ nmss l := by
  induction l with
  | nil => cases h
  | cons y l ih =>
    simp only [nmss]
    rcases List.mem_cons.1 h with rfl | h
    · omega
    · have := ih h; omega
theorem convs_length (l : List S47) : (convs l).length = l.length := by
  induction l with
  | nil => rfl
  | cons x l ih => simp [convs, ih]
theorem rd47 (pre suf : List S47) (x : S47) : rd_T47 (pre ++ x :: suf) (pre.length : Int) = x := by
  unfold rd_T47; rw [Int.toNat_natCast]; exact getD_mid _ _ _ _
theorem rd51 (pre suf : List S51) (x : S51) : rd_T51 (pre ++ x :: suf) (pre.length : Int) = x := by
  unfold rd_T51; rw [Int.toNat_natCast]; exact getD_mid _ _ _ _

/-! ### how large -/
theorem sizes_loop (suf : List ByteArray) : ∀ (pre : List ByteArray) (left : Int), 0 ≤ left → left ≤ 1048576 → (∀ s ∈ suf, s.size ≤ 9223372036854775807) → (pre ++ suf).length ≤ 9223372036854775807 →
    ∃ r, Ev (fun k => laws_szStringS.l0 k (pre ++ suf) left (pre.length : Int)) r ∧ (r < 0 ∨ 0 ≤ r ∧ r + ((suf.map ByteArray.size).sum : Nat) = left) := by
  induction suf with
  | nil =>
    intro pre left h0 hl _ _
    refine ⟨left, Ev.shift ?_, .inr ⟨h0, by simp⟩⟩
    simp only [laws_szStringS.l0, if_neg (mid_not_lt pre)]
    exact Ev.now _
  | cons s suf ih =>
    intro pre left h0 hl hb hn
    have hs := hb s (by simp)
    have hw : wrap64 (left - (s.size : Int)) = left - (s.size : Int) := wrap64_eq (by omega) (by omega)
    by_cases hneg : left - (s.size : Int) < 0
    · refine ⟨-1, Ev.shift ?_, .inl (by omega)⟩
      simp only [laws_szStringS.l0, if_pos (mid_lt pre suf s), if_pos (Int.natCast_nonneg pre.length), rdOf_mid, hw, if_pos hneg]
      exact Ev.now _
    · obtain ⟨r, hr, h⟩ := ih (pre ++ [s]) (left - s.size) (by omega) (by omega) (fun x hx => hb x (List.mem_cons_of_mem _ hx)) (by simpa using hn)
      refine ⟨r, Ev.shift ?_, ?_⟩
      · simp only [laws_szStringS.l0, if_pos (mid_lt pre suf s), if_pos (Int.natCast_nonneg pre.length), rdOf_mid, hw, if_neg hneg, next_i pre suf s hn]
        rw [mid_assoc pre suf s]
        exact hr
      · rcases h with h | ⟨h1, h2⟩
        · exact .inl h
        · refine .inr ⟨h1, ?_⟩
          simp only [List.map_cons, List.sum_cons]
          omega
theorem sizes_strs (l : List ByteArray) (left : Int) (h0 : 0 ≤ left) (hl : left ≤ 1048576) (hn : l.length ≤ 9223372036854775807) (hb : ∀ s ∈ l, s.size ≤ 9223372036854775807) :
    ∃ r, Ev (fun k => laws_szStringS.f k l left) r ∧ (r < 0 ∨ 0 ≤ r ∧ r + (strs l : Nat) = left) := by
  have hw : wrap64 (left - (l.length : Int)) = left - (l.length : Int) := wrap64_eq (by omega) (by omega)
  by_cases hneg : left - (l.length : Int) < 0
  · refine ⟨-1, ?_, .inl (by omega)⟩
    simp only [laws_szStringS.f, hw, if_pos hneg]
    exact Ev.now _
  · obtain ⟨r, hr, h⟩ := sizes_loop l [] (left - l.length) (by omega) (by omega) hb (by simpa using hn)
    refine ⟨r, ?_, ?_⟩
    · simp only [laws_szStringS.f, hw, if_neg hneg]
      exact hr
    · rcases h with h | ⟨h1, h2⟩
      · exact .inl h
      · exact .inr ⟨h1, by unfold strs; omega⟩
def SizesOk (x : S47) : Prop := W47 x → ∀ left : Int, 0 ≤ left → left ≤ 1048576 →
    ∃ r, Ev (fun k => laws_szExpCore.f k x.f0 x.f1 x.f2 x.f3 x.f4 left) r ∧ (r < 0 ∨ 0 ≤ r ∧ r + (big x : Nat) = left)
theorem sizes_kids_loop (suf : List S47) (hP : ∀ y ∈ suf, SizesOk y) : ∀ (pre : List S47) (left : Int), 0 ≤ left → left ≤ 1048576 → (∀ s ∈ suf, W47 s) → (pre ++ suf).length ≤ 9223372036854775807 →
    ∃ r, Ev (fun k => laws_szExpCoreS.l0 k (pre ++ suf) left (pre.length : Int)) r ∧ (r < 0 ∨ 0 ≤ r ∧ r + (bigs suf : Nat) = left) := by
  induction suf with
  | nil =>
    intro pre left h0 hl _ _
    refine ⟨left, Ev.shift ?_, .inr ⟨h0, by simp [bigs]⟩⟩
    simp only [laws_szExpCoreS.l0, if_neg (mid_not_lt pre)]
    exact Ev.now _
  | cons s suf ih =>
    intro pre left h0 hl hb hn
    obtain ⟨q, hq, hq2⟩ := hP s (by simp) (hb s (by simp)) left h0 hl
    by_cases hneg : q < 0
    · refine ⟨-1, Ev.shift ?_, .inl (by omega)⟩
      simp only [laws_szExpCoreS.l0, if_pos (mid_lt pre suf s), if_pos (Int.natCast_nonneg pre.length), rd47]
      refine Ev.bind hq ?_
      simp only [if_pos hneg]
      exact Ev.now _
    · obtain ⟨r, hr, h⟩ := ih (fun y hy => hP y (List.mem_cons_of_mem _ hy)) (pre ++ [s]) q (by omega) (by omega) (fun x hx => hb x (List.mem_cons_of_mem _ hx)) (by simpa using hn)
      refine ⟨r, Ev.shift ?_, ?_⟩
      · simp only [laws_szExpCoreS.l0, if_pos (mid_lt pre suf s), if_pos (Int.natCast_nonneg pre.length), rd47]
        refine Ev.bind hq ?_
        simp only [if_neg hneg, next_i pre suf s hn]
        rw [mid_assoc pre suf s]
        exact hr
      · rcases h with h | ⟨h1, h2⟩
        · exact .inl h
        · refine .inr ⟨h1, ?_⟩
          simp only [bigs]
          omega
theorem sizes_kids (l : List S47) (hP : ∀ y ∈ l, SizesOk y) (left : Int) (h0 : 0 ≤ left) (hl : left ≤ 1048576) (hn : l.length ≤ 9223372036854775807) (hb : ∀ s ∈ l, W47 s) :
    ∃ r, Ev (fun k => laws_szExpCoreS.f k l left) r ∧ (r < 0 ∨ 0 ≤ r ∧ r + ((l.length + bigs l : Nat) : Int) = left) := by
  have hw : wrap64 (left - (l.length : Int)) = left - (l.length : Int) := wrap64_eq (by omega) (by omega)
  by_cases hneg : left - (l.length : Int) < 0
  · refine ⟨-1, Ev.shift ?_, .inl (by omega)⟩
    simp only [laws_szExpCoreS.f, hw, if_pos hneg]
    exact Ev.now _
  · obtain ⟨r, hr, h⟩ := sizes_kids_loop l hP [] (left - l.length) (by omega) (by omega) hb (by simpa using hn)
    refine ⟨r, Ev.shift ?_, ?_⟩
    · simp only [laws_szExpCoreS.f, hw, if_neg hneg]
      exact hr
    · rcases h with h | ⟨h1, h2⟩
      · exact .inl h
      · exact .inr ⟨h1, by omega⟩
theorem sizes_ok : ∀ x, SizesOk x := by
  refine ind47 (fun x ih hW left h0 hl => ?_)
  obtain ⟨_, hb1, _, hb3, hb4⟩ := hW.out
  have hw : wrap64 (left - (x.f1.size : Int)) = left - (x.f1.size : Int) := wrap64_eq (by omega) (by omega)
  by_cases hneg : left - (x.f1.size : Int) < 0
  · refine ⟨-1, Ev.shift ?_, .inl (by omega)⟩
    simp only [laws_szExpCore.f, hw, if_pos hneg]
    exact Ev.now _
  obtain ⟨q, hq, hq2⟩ := sizes_strs x.f3 (left - x.f1.size) (by omega) (by omega) hb3.1 hb3.2
  by_cases hneg2 : q < 0
  · refine ⟨-1, Ev.shift ?_, .inl (by omega)⟩
    simp only [laws_szExpCore.f, hw, if_neg hneg]
    refine Ev.bind hq ?_
    simp only [if_pos hneg2]
    exact Ev.now _
  obtain ⟨p, hp, hp2⟩ := sizes_kids x.f4 ih q (by omega) (by omega) hb4.1 hb4.2
  by_cases hneg3 : p < 0
  · refine ⟨-1, Ev.shift ?_, .inl (by omega)⟩
    simp only [laws_szExpCore.f, hw, if_neg hneg]
    refine Ev.bind hq ?_
    simp only [if_neg hneg2]
    refine Ev.bind hp ?_
    simp only [if_pos hneg3]
    exact Ev.now _
  · refine ⟨p, Ev.shift ?_, .inr ⟨by omega, ?_⟩⟩
    · simp only [laws_szExpCore.f, hw, if_neg hneg]
      refine Ev.bind hq ?_
      simp only [if_neg hneg2]
      refine Ev.bind hp ?_
      simp only [if_neg hneg3]
      exact Ev.now _
    · cases x
      simp only [big] at *
      omega

/-! ### the same, in the program's own types -/
theorem toStr_loop (suf : List ByteArray) : ∀ (pre : List ByteArray) (e : ByteArray), (pre ++ suf).length ≤ 9223372036854775807 →
    Ev (fun k => laws_toStringS.l0 k (pre ++ suf) (pre ++ List.replicate suf.length e) (pre.length : Int)) (pre ++ suf) := by
  induction suf with
  | nil =>
    intro pre e _
    refine Ev.shift ?_
    simp only [laws_toStringS.l0, if_neg (mid_not_lt pre), List.length_nil, List.replicate_zero]
    exact Ev.now _
  | cons s suf ih =>
    intro pre e hn
    refine Ev.shift ?_
    simp only [List.length_cons, List.replicate_succ, laws_toStringS.l0, if_pos (mid_lt pre suf s), if_pos (mid_lt pre (List.replicate suf.length e) e), if_pos (Int.natCast_nonneg pre.length), rdOf_mid, next_i pre suf s hn, set_mid]
    have h := ih (pre ++ [s]) e (by simpa using hn)
    rw [mid_assoc pre suf s]
    exact h
theorem toStr (l : List ByteArray) (hn : l.length ≤ 1048576) : Ev (fun k => laws_toStringS.f k l) l := by
  have h := toStr_loop l [] ⟨#[]⟩ (by simp; omega)
  simp only [laws_toStringS.f, if_pos (Int.natCast_nonneg l.length), Int.toNat_natCast, if_pos (show l.length ≤ 17592186044416 by omega)]
  exact h
theorem set_mid' {α : Type} (pre suf : List α) (x y : α) (n : Nat) (h : pre.length = n) : (pre ++ x :: suf).set (n : Int).toNat y = (pre ++ [y]) ++ suf := by
  subst h
  exact set_mid pre suf x y
def ConvOk (x : S47) : Prop := big x ≤ 1048576 → Ev (fun k => laws_toExpCore.f k x.f0 x.f1 x.f2 x.f3 x.f4) (x.f0, x.f1, x.f2, x.f3, convs x.f4)
theorem conv_mk (x : S47) : conv x = ⟨x.f0, x.f1, x.f2, x.f3, convs x.f4⟩ := by cases x; rfl
theorem toKids_loop (suf : List S47) (hP : ∀ y ∈ suf, ConvOk y) : ∀ (pre : List S47) (done : List S51) (e : S51), done.length = pre.length → bigs suf ≤ 1048576 → (pre ++ suf).length ≤ 9223372036854775807 →
    Ev (fun k => laws_toExpCoreS.l0 k (pre ++ suf) (done ++ List.replicate suf.length e) (pre.length : Int)) (done ++ convs suf) := by
  induction suf with
  | nil =>
    intro pre done e hd _ _
    refine Ev.shift ?_
    simp only [laws_toExpCoreS.l0, if_neg (mid_not_lt pre), List.length_nil, List.replicate_zero, convs]
    exact Ev.now _
  | cons s suf ih =>
    intro pre done e hd hb hn
    simp only [bigs] at hb
    refine Ev.shift ?_
    have hlt : ((pre.length : Nat) : Int) < (((done ++ e :: List.replicate suf.length e).length : Nat) : Int) := by rw [← hd]; exact mid_lt _ _ _
    simp only [List.length_cons, List.replicate_succ, laws_toExpCoreS.l0, if_pos (mid_lt pre suf s), if_pos (Int.natCast_nonneg pre.length), rd47, next_i pre suf s hn, if_pos hlt]
    refine Ev.bind (hP s (by simp) (by omega)) ?_
    have h := ih (fun y hy => hP y (List.mem_cons_of_mem _ hy)) (pre ++ [s]) (done ++ [conv s]) e (by simp [hd]) (by omega) (by simpa using hn)
    rw [set_mid' done (List.replicate suf.length e) e _ pre.length hd, ← conv_mk, mid_assoc pre suf s]
    simpa [convs] using h
theorem toKids (l : List S47) (hP : ∀ y ∈ l, ConvOk y) (hn : l.length ≤ 1048576) (hb : bigs l ≤ 1048576) : Ev (fun k => laws_toExpCoreS.f k l) (convs l) := by
  have h := toKids_loop l hP [] [] z51 rfl hb (by simp; omega)
  refine Ev.shift ?_
  simp only [laws_toExpCoreS.f, if_pos (Int.natCast_nonneg l.length), Int.toNat_natCast, if_pos (show l.length ≤ 3518437208883 by omega)]
  exact h
theorem conv_ok : ∀ x, ConvOk x := by
  refine ind47 (fun x ih hb => ?_)
  have hb' : x.f1.size + strs x.f3 + (x.f4.length + bigs x.f4) ≤ 1048576 := by cases x; exact hb
  refine Ev.shift ?_
  simp only [laws_toExpCore.f]
  refine Ev.bind (toStr x.f3 (by unfold strs at hb'; omega)) ?_
  refine Ev.bind (toKids x.f4 ih (by omega) (by omega)) ?_
  exact Ev.now _

/-! ### equal to itself -/
theorem eqStr_loop (suf : List ByteArray) : ∀ (pre : List ByteArray), (pre ++ suf).length ≤ 9223372036854775807 → Ev (fun k => laws_eqStringS.l0 k (pre ++ suf) (pre ++ suf) (pre.length : Int)) true := by
  induction suf with
  | nil =>
    intro pre _
    refine Ev.shift ?_
    simp only [laws_eqStringS.l0, if_neg (mid_not_lt pre)]
    exact Ev.now _
  | cons s suf ih =>
    intro pre hn
    refine Ev.shift ?_
    simp only [laws_eqStringS.l0, if_pos (mid_lt pre suf s), if_pos (Int.natCast_nonneg pre.length), next_i pre suf s hn, if_true]
    rw [mid_assoc pre suf s]
    exact ih (pre ++ [s]) (by simpa using hn)
theorem eqStr (l : List ByteArray) (hn : l.length ≤ 1048576) : Ev (fun k => laws_eqStringS.f k l l) true := by
  simp only [laws_eqStringS.f, if_true]
  exact eqStr_loop l [] (by simp; omega)
def Thin (x : S51) : Prop := nms x ≤ 1048576
mutual
def wid : S51 → Nat
  | ⟨_, _, _, ns, ks⟩ => ns.length + (ks.length + wids ks)
def wids : List S51 → Nat
  | [] => 0
  | x :: l => wid x + wids l
end
theorem wid_mk (x : S51) : wid x = x.f3.length + (x.f4.length + wids x.f4) := by cases x; rfl
theorem wids_mem {l : List S51} {x : S51} (h : x ∈ l) : wid x ≤ wids l := by
  induction l with
  | nil => cases h
  | cons y l ih =>
    simp only [wids]
    rcases List.mem_cons.1 h with rfl | h
    · omega
    · have := ih h; omega
def EqOk (x : S51) : Prop := wid x ≤ 1048576 → Ev (fun k => laws_eqExpCore.f k x.f0 x.f1 x.f2 x.f3 x.f4 x.f0 x.f1 x.f2 x.f3 x.f4) true
theorem eqKids_loop (suf : List S51) (hP : ∀ y ∈ suf, EqOk y) : ∀ (pre : List S51), wids suf ≤ 1048576 → (pre ++ suf).length ≤ 9223372036854775807 → Ev (fun k => laws_eqExpCoreS.l0 k (pre ++ suf) (pre ++ suf) (pre.length : Int)) true := by
  induction suf with
  | nil =>
    intro pre _ _
    refine Ev.shift ?_
    simp only [laws_eqExpCoreS.l0, if_neg (mid_not_lt pre)]
    exact Ev.now _
  | cons s suf ih =>
    intro pre hb hn
    simp only [wids] at hb
    refine Ev.shift ?_
    simp only [laws_eqExpCoreS.l0, if_pos (mid_lt pre suf s), if_pos (Int.natCast_nonneg pre.length), rd51, next_i pre suf s hn]
    refine Ev.bind (hP s (by simp) (by omega)) ?_
    simp only [if_true]
    rw [mid_assoc pre suf s]
    exact ih (fun y hy => hP y (List.mem_cons_of_mem _ hy)) (pre ++ [s]) (by omega) (by simpa using hn)
theorem eqKids (l : List S51) (hP : ∀ y ∈ l, EqOk y) (hn : l.length ≤ 1048576) (hb : wids l ≤ 1048576) : Ev (fun k => laws_eqExpCoreS.f k l l) true := by
  refine Ev.shift ?_
  simp only [laws_eqExpCoreS.f, if_true]
  exact eqKids_loop l hP [] hb (by simp; omega)
theorem eq_ok : ∀ x, EqOk x := by
  refine ind51 (fun x ih hb => ?_)
  rw [wid_mk] at hb
  refine Ev.shift ?_
  simp only [laws_eqExpCore.f, if_true, bne_self_eq_false, Bool.false_eq_true, if_false]
  refine Ev.bind (eqStr x.f3 (by omega)) ?_
  simp only [if_true]
  refine Ev.bind (eqKids x.f4 ih (by omega) (by omega)) ?_
  simp only [if_true]
  exact Ev.now _

/-! ### what two names stand for -/
def standsR : List (ByteArray × ByteArray) → ByteArray → ByteArray → Bool
  | [], a, b => a.toList == b.toList
  | p :: ps, a, b => if p.1.toList = a.toList then p.2.toList == b.toList else if p.2.toList = b.toList then false else standsR ps a b
def m125 (p : ByteArray × ByteArray) : S125 := ⟨p.1, p.2⟩
def m113 (p : ByteArray × ByteArray) : S113 := ⟨p.1, p.2⟩
theorem rd125 (pre suf : List S125) (x : S125) : rd_T125 (pre ++ x :: suf) (pre.length : Int) = x := by
  unfold rd_T125; rw [Int.toNat_natCast]; exact getD_mid _ _ _ _
theorem rd113 (pre suf : List S113) (x : S113) : rd_T113 (pre ++ x :: suf) (pre.length : Int) = x := by
  unfold rd_T113; rw [Int.toNat_natCast]; exact getD_mid _ _ _ _
theorem name_spec (a b : ByteArray) : ∀ (rp suf : List (ByteArray × ByteArray)), rp.length ≤ 9223372036854775807 →
    Ev (fun k => spec_l5Name.l0 k ((rp.reverse ++ suf).map m125) a b ((rp.length : Int) - 1)) (standsR rp a b) := by
  intro rp
  induction rp with
  | nil =>
    intro suf _
    refine Ev.shift ?_
    simp only [spec_l5Name.l0, List.length_nil]
    rw [show ((0 : Nat) : Int) - 1 = -1 from rfl]
    simp only [show ¬ ((-1 : Int) ≥ 0) from by decide, if_false]
    exact Ev.now _
  | cons p rp ih =>
    intro suf hn
    simp only [List.length_cons] at hn
    have hi : (((p :: rp).length : Nat) : Int) - 1 = (rp.length : Int) := by simp
    have hl : ((p :: rp).reverse ++ suf).map m125 = (rp.reverse.map m125) ++ m125 p :: suf.map m125 := by simp
    have hr : rd_T125 ((rp.reverse.map m125) ++ m125 p :: suf.map m125) (rp.length : Int) = m125 p := by
      have := rd125 (rp.reverse.map m125) (suf.map m125) (m125 p); simpa using this
    have hlt : (rp.length : Int) < (((rp.reverse.map m125) ++ m125 p :: suf.map m125).length : Int) := by simp; omega
    have hw : wrap64 ((rp.length : Int) - 1) = (rp.length : Int) - 1 := wrap64_eq (by omega) (by omega)
    refine Ev.shift ?_
    rw [hi, hl]
    simp only [spec_l5Name.l0, hr, if_pos (show (rp.length : Int) ≥ 0 from Int.natCast_nonneg _), if_pos (Int.natCast_nonneg rp.length), if_pos hlt, hw]
    by_cases h1 : (m125 p).f0.toList = a.toList
    · simp only [if_pos h1]
      rw [standsR, if_pos (show p.1.toList = a.toList from h1)]
      exact Ev.now _
    · by_cases h2 : (m125 p).f1.toList = b.toList
      · simp only [if_neg h1, if_pos h2]
        rw [standsR, if_neg (show ¬ p.1.toList = a.toList from h1), if_pos (show p.2.toList = b.toList from h2)]
        exact Ev.now _
      · simp only [if_neg h1, if_neg h2]
        rw [standsR, if_neg (show ¬ p.1.toList = a.toList from h1), if_neg (show ¬ p.2.toList = b.toList from h2)]
        have h := ih (p :: suf) (by omega)
        simpa [m125, Function.comp_def] using h
theorem name_impl (a b : ByteArray) : ∀ (rp suf : List (ByteArray × ByteArray)), rp.length ≤ 9223372036854775807 →
    Ev (fun k => impl_coreStands.l0 k ((rp.reverse ++ suf).map m113) a b ((rp.length : Int) - 1)) (standsR rp a b) := by
  intro rp
  induction rp with
  | nil =>
    intro suf _
    refine Ev.shift ?_
    simp only [impl_coreStands.l0, List.length_nil]
    rw [show ((0 : Nat) : Int) - 1 = -1 from rfl]
    simp only [show ¬ ((-1 : Int) ≥ 0) from by decide, if_false]
    exact Ev.now _
  | cons p rp ih =>
    intro suf hn
    simp only [List.length_cons] at hn
    have hi : (((p :: rp).length : Nat) : Int) - 1 = (rp.length : Int) := by simp
    have hl : ((p :: rp).reverse ++ suf).map m113 = (rp.reverse.map m113) ++ m113 p :: suf.map m113 := by simp
    have hr : rd_T113 ((rp.reverse.map m113) ++ m113 p :: suf.map m113) (rp.length : Int) = m113 p := by
      have := rd113 (rp.reverse.map m113) (suf.map m113) (m113 p); simpa using this
    have hlt : (rp.length : Int) < (((rp.reverse.map m113) ++ m113 p :: suf.map m113).length : Int) := by simp; omega
    have hw : wrap64 ((rp.length : Int) - 1) = (rp.length : Int) - 1 := wrap64_eq (by omega) (by omega)
    refine Ev.shift ?_
    rw [hi, hl]
    simp only [impl_coreStands.l0, hr, if_pos (show (rp.length : Int) ≥ 0 from Int.natCast_nonneg _), if_pos (Int.natCast_nonneg rp.length), if_pos hlt, hw]
    by_cases h1 : (m113 p).f0.toList = a.toList
    · simp only [if_pos h1]
      rw [standsR, if_pos (show p.1.toList = a.toList from h1)]
      exact Ev.now _
    · by_cases h2 : (m113 p).f1.toList = b.toList
      · simp only [if_neg h1, if_pos h2]
        rw [standsR, if_neg (show ¬ p.1.toList = a.toList from h1), if_pos (show p.2.toList = b.toList from h2)]
        exact Ev.now _
      · simp only [if_neg h1, if_neg h2]
        rw [standsR, if_neg (show ¬ p.1.toList = a.toList from h1), if_neg (show ¬ p.2.toList = b.toList from h2)]
        have h := ih (p :: suf) (by omega)
        simpa [m113, Function.comp_def] using h
def stands (ps : List (ByteArray × ByteArray)) (a b : ByteArray) : Bool := standsR ps.reverse a b
theorem name_spec' (ps : List (ByteArray × ByteArray)) (a b : ByteArray) (hn : ps.length ≤ 2097152) : Ev (fun k => spec_l5Name.f k (ps.map m125) a b) (stands ps a b) := by
  have h := name_spec a b ps.reverse [] (by simp; omega)
  have hw : wrap64 (((ps.map m125).length : Int) - 1) = (ps.reverse.length : Int) - 1 := by rw [wrap64_eq (by simp; omega) (by simp; omega)]; simp
  simp only [spec_l5Name.f, hw]
  simpa [stands] using h
theorem name_impl' (ps : List (ByteArray × ByteArray)) (a b : ByteArray) (hn : ps.length ≤ 2097152) : Ev (fun k => impl_coreStands.f k (ps.map m113) a b) (stands ps a b) := by
  have h := name_impl a b ps.reverse [] (by simp; omega)
  have hw : wrap64 (((ps.map m113).length : Int) - 1) = (ps.reverse.length : Int) - 1 := by rw [wrap64_eq (by simp; omega) (by simp; omega)]; simp
  simp only [impl_coreStands.f, hw]
  simpa [stands] using h

/-! ### the same but for names -/
def isName (s : Int) : Bool := s == 2 || s == 6 || s == 9
def textOk (ps : List (ByteArray × ByteArray)) (s : Int) (a b : ByteArray) : Bool := if isName s then stands ps a b else a.toList == b.toList
mutual
def alp : List (ByteArray × ByteArray) → S51 → S51 → Bool
  | ps, ⟨s, t, r, ns, ks⟩, y => if s = y.f0 ∧ r = y.f2 ∧ ns.length = y.f3.length ∧ ks.length = y.f4.length then textOk ps s t y.f1 && alps (ps ++ ns.zip y.f3) ks y.f4 else false
def alps : List (ByteArray × ByteArray) → List S51 → List S51 → Bool
  | _, [], _ => true
  | _, _ :: _, [] => true
  | ps, x :: l, y :: m => alp ps x y && alps ps l m
end
theorem alp_mk (ps : List (ByteArray × ByteArray)) (x y : S51) : alp ps x y = if x.f0 = y.f0 ∧ x.f2 = y.f2 ∧ x.f3.length = y.f3.length ∧ x.f4.length = y.f4.length then textOk ps x.f0 x.f1 y.f1 && alps (ps ++ x.f3.zip y.f3) x.f4 y.f4 else false := by cases x; rfl
theorem zip_snoc {α β : Type} (pre suf : List α) (pre2 suf2 : List β) (a : α) (b : β) (h : pre.length = pre2.length) : (pre ++ [a]).zip (pre2 ++ [b]) = pre.zip pre2 ++ [(a, b)] := by
  rw [List.zip_append h]; rfl

/-! #### the reference -/
theorem bound_loop (suf suf2 : List ByteArray) : ∀ (pre pre2 : List ByteArray) (ps : List (ByteArray × ByteArray)), pre.length = pre2.length → suf.length = suf2.length → ps.length + suf.length ≤ 2097152 → (pre ++ suf).length ≤ 9223372036854775807 →
    Ev (fun k => spec_l5Bound.l0 k (pre ++ suf) (pre2 ++ suf2) (ps.map m125) (pre.length : Int)) ((ps ++ suf.zip suf2).map m125) := by
  induction suf generalizing suf2 with
  | nil =>
    intro pre pre2 ps hp _ _ _
    refine Ev.shift ?_
    simp only [spec_l5Bound.l0, if_neg (mid_not_lt pre)]
    simp only [List.zip_nil_left, List.append_nil]
    exact Ev.now _
  | cons s suf ih =>
    intro pre pre2 ps hp hs hb hn
    cases suf2 with
    | nil => simp at hs
    | cons t suf2 =>
      simp only [List.length_cons] at hs hb
      have hlt2 : (pre.length : Int) < ((pre2 ++ t :: suf2).length : Int) := by rw [hp]; exact mid_lt _ _ _
      have hr2 : rdOf ByteArray.empty (pre2 ++ t :: suf2) (pre.length : Int) = t := by rw [hp]; exact rdOf_mid _ _ _ _
      refine Ev.shift ?_
      simp only [spec_l5Bound.l0, if_pos (mid_lt pre suf s), if_pos hlt2, if_pos (Int.natCast_nonneg pre.length), rdOf_mid, hr2, next_i pre suf s hn, if_pos (show (ps.map m125).length < 4398046511104 by simp; omega)]
      have h := ih suf2 (pre ++ [s]) (pre2 ++ [t]) (ps ++ [(s, t)]) (by simp [hp]) (by omega) (by simp; omega) (by simpa using hn)
      rw [mid_assoc pre suf s, mid_assoc pre2 suf2 t]
      simpa [m125] using h
theorem bound_spec (ps : List (ByteArray × ByteArray)) (a b : List ByteArray) (hs : a.length = b.length) (hb : ps.length + a.length ≤ 2097152) : Ev (fun k => spec_l5Bound.f k (ps.map m125) a b) ((ps ++ a.zip b).map m125) := by
  have h := bound_loop a b [] [] ps rfl hs hb (by simp; omega)
  simp only [spec_l5Bound.f, Option.bind_some, List.length_nil, Nat.zero_add, List.nil_append, if_pos (show (ps.map m125).length < 4398046511104 by simp; omega)]
  exact h
def SpecOk (x : S51) : Prop := ∀ (y : S51) (ps : List (ByteArray × ByteArray)), ps.length + wid x ≤ 2097152 →
  Ev (fun k => spec_l5Alpha.f k (ps.map m125) x.f0 x.f1 x.f2 x.f3 x.f4 y.f0 y.f1 y.f2 y.f3 y.f4) (alp ps x y)
theorem spec_loop (s0 : Int) (t0 : ByteArray) (r0 : Bool) (n0 : List ByteArray) (s1 : Int) (t1 : ByteArray) (r1 : Bool) (n1 : List ByteArray) (ps : List (ByteArray × ByteArray)) (suf suf2 : List S51) (hP : ∀ y ∈ suf, SpecOk y) :
    ∀ (pre pre2 : List S51), pre.length = pre2.length → suf.length = suf2.length → ps.length + wids suf ≤ 2097152 → (pre ++ suf).length ≤ 9223372036854775807 →
    Ev (fun k => spec_l5Alpha.l0 k (ps.map m125) (pre.length : Int) s0 t0 r0 n0 (pre ++ suf) s1 t1 r1 n1 (pre2 ++ suf2)) (alps ps suf suf2) := by
  induction suf generalizing suf2 with
  | nil =>
    intro pre pre2 hp _ _ _
    refine Ev.shift ?_
    simp only [spec_l5Alpha.l0, if_neg (mid_not_lt pre), alps]
    exact Ev.now _
  | cons s suf ih =>
    intro pre pre2 hp hs hb hn
    cases suf2 with
    | nil => simp at hs
    | cons t suf2 =>
      simp only [List.length_cons, wids] at hs hb
      have hlt2 : (pre.length : Int) < ((pre2 ++ t :: suf2).length : Int) := by rw [hp]; exact mid_lt _ _ _
      have hr2 : rd_T51 (pre2 ++ t :: suf2) (pre.length : Int) = t := by rw [hp]; exact rd51 _ _ _
      refine Ev.shift ?_
      simp only [spec_l5Alpha.l0, if_pos (mid_lt pre suf s), if_pos hlt2, if_pos (Int.natCast_nonneg pre.length), rd51, hr2, next_i pre suf s hn]
      refine Ev.bind (hP s (by simp) t ps (by omega)) ?_
      cases hA : alp ps s t with
      | false =>
        simp only [Bool.false_eq_true, if_false, alps, hA, Bool.false_and]
        exact Ev.now _
      | true =>
        simp only [if_true, alps, hA, Bool.true_and]
        have h := ih suf2 (fun y hy => hP y (List.mem_cons_of_mem _ hy)) (pre ++ [s]) (pre2 ++ [t]) (by simp [hp]) (by omega) (by omega) (by simpa using hn)
        rw [mid_assoc pre suf s, mid_assoc pre2 suf2 t]
        exact h
theorem spec_ok : ∀ x, SpecOk x := by
  refine ind51 (fun x ih y ps hb => ?_)
  rw [wid_mk] at hb
  have hno : Ev (fun k => spec_l5Alpha.j0 k (ps.map m125) true x.f0 x.f1 x.f2 x.f3 x.f4 y.f0 y.f1 y.f2 y.f3 y.f4) false := by
    refine Ev.shift ?_
    simp only [spec_l5Alpha.j0, if_true]
    exact Ev.now _
  rw [alp_mk]
  by_cases h0 : x.f0 = y.f0
  · by_cases h2 : x.f2 = y.f2
    · by_cases h3 : x.f3.length = y.f3.length
      · by_cases h4 : x.f4.length = y.f4.length
        · rw [if_pos ⟨h0, h2, h3, h4⟩]
          have hj2 : Ev (fun k => spec_l5Alpha.j2 k (ps.map m125) x.f0 x.f1 x.f2 x.f3 x.f4 y.f0 y.f1 y.f2 y.f3 y.f4) (alps (ps ++ x.f3.zip y.f3) x.f4 y.f4) := by
            refine Ev.shift ?_
            simp only [spec_l5Alpha.j2]
            refine Ev.bind (bound_spec ps x.f3 y.f3 h3 (by omega)) ?_
            exact spec_loop _ _ _ _ _ _ _ _ (ps ++ x.f3.zip y.f3) x.f4 y.f4 ih [] [] rfl h4 (by simp [List.length_zip, h3]; omega) (by simp; omega)
          have hj1 : ∀ b, b = isName x.f0 → Ev (fun k => spec_l5Alpha.j1 k (ps.map m125) b x.f0 x.f1 x.f2 x.f3 x.f4 y.f0 y.f1 y.f2 y.f3 y.f4) (textOk ps x.f0 x.f1 y.f1 && alps (ps ++ x.f3.zip y.f3) x.f4 y.f4) := by
            intro b hbn
            refine Ev.shift ?_
            unfold textOk
            rw [← hbn]
            cases b with
            | true =>
              simp only [spec_l5Alpha.j1, if_true]
              refine Ev.bind (name_spec' ps x.f1 y.f1 (by omega)) ?_
              cases stands ps x.f1 y.f1 with
              | true => simp only [if_true, Bool.true_and]; exact hj2
              | false => simp only [Bool.false_eq_true, if_false, Bool.false_and]; exact Ev.now _
            | false =>
              simp only [spec_l5Alpha.j1, Bool.false_eq_true, if_false]
              by_cases ht : x.f1.toList = y.f1.toList
              · simp only [if_pos ht, beq_iff_eq.mpr ht, Bool.true_and]; exact hj2
              · simp only [if_neg ht, beq_eq_false_iff_ne.mpr ht, Bool.false_and]; exact Ev.now _
          have hj0 : Ev (fun k => spec_l5Alpha.j0 k (ps.map m125) ((x.f4.length : Int) != (y.f4.length : Int)) x.f0 x.f1 x.f2 x.f3 x.f4 y.f0 y.f1 y.f2 y.f3 y.f4) (textOk ps x.f0 x.f1 y.f1 && alps (ps ++ x.f3.zip y.f3) x.f4 y.f4) := by
            refine Ev.shift ?_
            rw [h4, bne_self_eq_false]
            simp only [spec_l5Alpha.j0, Bool.false_eq_true, if_false]
            refine Ev.ite (fun h => hj1 true (by simp [isName, h])) (fun h => ?_)
            refine Ev.ite (fun h' => hj1 true (by simp [isName, h'])) (fun h' => ?_)
            exact hj1 _ (by simp [isName, h, h'])
          refine Ev.shift ?_
          simp only [spec_l5Alpha.f, if_pos h0, h2, bne_self_eq_false, Bool.false_eq_true, if_false, h3, if_true]
          rw [h2] at hj0
          rw [h3] at *
          first | exact hj0 | simpa using hj0
        · rw [if_neg (fun h => h4 h.2.2.2)]
          refine Ev.shift ?_
          have hne : ((x.f4.length : Int) != (y.f4.length : Int)) = true := bne_iff_ne.mpr (by omega)
          simp only [spec_l5Alpha.f, hne, if_pos h0, h2, bne_self_eq_false, Bool.false_eq_true, if_false, if_pos (show (x.f3.length : Int) = (y.f3.length : Int) by omega)]
          rw [h2] at hno
          exact hno
      · rw [if_neg (fun h => h3 h.2.2.1)]
        refine Ev.shift ?_
        simp only [spec_l5Alpha.f, if_pos h0, h2, bne_self_eq_false, Bool.false_eq_true, if_false, if_neg (show ¬ (x.f3.length : Int) = (y.f3.length : Int) by omega)]
        rw [h2] at hno
        exact hno
    · rw [if_neg (fun h => h2 h.2.1)]
      refine Ev.shift ?_
      have hne : (x.f2 != y.f2) = true := bne_iff_ne.mpr h2
      simp only [spec_l5Alpha.f, if_pos h0, hne, if_true]
      exact hno
  · rw [if_neg (fun h => h0 h.1)]
    refine Ev.shift ?_
    simp only [spec_l5Alpha.f, if_neg h0]
    exact hno
theorem specTop_loop (suf suf2 : List S51) : ∀ (pre pre2 : List S51), pre.length = pre2.length → suf.length = suf2.length → wids suf ≤ 2097152 → (pre ++ suf).length ≤ 9223372036854775807 →
    Ev (fun k => spec_ExpAlpha.l0 k (pre ++ suf) (pre2 ++ suf2) (pre.length : Int)) (alps [] suf suf2) := by
  induction suf generalizing suf2 with
  | nil =>
    intro pre pre2 hp _ _ _
    refine Ev.shift ?_
    simp only [spec_ExpAlpha.l0, if_neg (mid_not_lt pre), alps]
    exact Ev.now _
  | cons s suf ih =>
    intro pre pre2 hp hs hb hn
    cases suf2 with
    | nil => simp at hs
    | cons t suf2 =>
      simp only [List.length_cons, wids] at hs hb
      have hlt2 : (pre.length : Int) < ((pre2 ++ t :: suf2).length : Int) := by rw [hp]; exact mid_lt _ _ _
      have hr2 : rd_T51 (pre2 ++ t :: suf2) (pre.length : Int) = t := by rw [hp]; exact rd51 _ _ _
      refine Ev.shift ?_
      simp only [spec_ExpAlpha.l0, if_pos (mid_lt pre suf s), if_pos hlt2, if_pos (Int.natCast_nonneg pre.length), rd51, hr2, next_i pre suf s hn]
      refine Ev.bind (spec_ok s t [] (by simp; omega)) ?_
      cases hA : alp [] s t with
      | false =>
        simp only [Bool.false_eq_true, if_false, alps, hA, Bool.false_and]
        exact Ev.now _
      | true =>
        simp only [if_true, alps, hA, Bool.true_and]
        have h := ih suf2 (pre ++ [s]) (pre2 ++ [t]) (by simp [hp]) (by omega) (by omega) (by simpa using hn)
        rw [mid_assoc pre suf s, mid_assoc pre2 suf2 t]
        exact h
def alpTop (a b : List S51) : Bool := if a.length = b.length then alps [] a b else false
theorem specTop (a b : List S51) (hw : wids a ≤ 2097152) (hn : a.length ≤ 2097152) : Ev (fun k => spec_ExpAlpha.f k a b) (alpTop a b) := by
  unfold alpTop
  by_cases h : a.length = b.length
  · simp only [spec_ExpAlpha.f, if_pos h, if_pos (show (a.length : Int) = (b.length : Int) by omega)]
    exact specTop_loop a b [] [] rfl h hw (by simp; omega)
  · simp only [spec_ExpAlpha.f, if_neg h, if_neg (show ¬ (a.length : Int) = (b.length : Int) by omega)]
    exact Ev.now _

/-! #### the program -/
def ImplOk (x : S51) : Prop := ∀ (ys : List S51) (ps : List (ByteArray × ByteArray)), x.f4.length = ys.length → ps.length + wids x.f4 ≤ 2097152 → x.f4.length ≤ 2097152 →
  Ev (fun k => impl_coreAlpha.f k x.f4 ys (ps.map m113)) (alps ps x.f4 ys)
theorem pairs_loop (x0 x1 : List S51) (p0 : List (ByteArray × ByteArray)) (x18 x19 : Int) (s t : S51) (r : Bool) (suf suf2 : List ByteArray) : ∀ (pre pre2 : List ByteArray) (ps : List (ByteArray × ByteArray)), s.f3 = pre ++ suf → t.f3 = pre2 ++ suf2 → pre.length = pre2.length → suf.length = suf2.length → ps.length + suf.length ≤ 2097152 → s.f3.length ≤ 9223372036854775807 →
    Ev (fun k => (impl_coreAlpha.f k s.f4 t.f4 ((ps ++ suf.zip suf2).map m113)).bind fun q => if q = true then impl_coreAlpha.l0 k x0 x1 (p0.map m113) x18 (wrap64 (x19 + 1)) else some false) r →
    Ev (fun k => impl_coreAlpha.l1 k x0 x1 (p0.map m113) (ps.map m113) x18 x19 (s.f3.length : Int) (pre.length : Int) s.f0 s.f1 s.f2 s.f3 s.f4 t.f0 t.f1 t.f2 t.f3 t.f4) r := by
  induction suf generalizing suf2 with
  | nil =>
    intro pre pre2 ps hs ht hp hl _ _ h
    refine Ev.shift ?_
    have hnl : ¬ ((pre.length : Int) < (s.f3.length : Int)) := by rw [hs]; exact mid_not_lt pre
    simp only [impl_coreAlpha.l1, if_neg hnl]
    simpa using h
  | cons a suf ih =>
    intro pre pre2 ps hs ht hp hl hb hn h
    cases suf2 with
    | nil => simp at hl
    | cons b suf2 =>
      simp only [List.length_cons] at hl hb
      have hlt : (pre.length : Int) < (s.f3.length : Int) := by rw [hs]; exact mid_lt _ _ _
      have hlt2 : (pre.length : Int) < (t.f3.length : Int) := by rw [ht, hp]; exact mid_lt _ _ _
      have hr : rdOf ByteArray.empty s.f3 (pre.length : Int) = a := by rw [hs]; exact rdOf_mid _ _ _ _
      have hr2 : rdOf ByteArray.empty t.f3 (pre.length : Int) = b := by rw [ht, hp]; exact rdOf_mid _ _ _ _
      have hnx : wrap64 ((pre.length : Int) + 1) = (((pre ++ [a]).length : Nat) : Int) := next_i pre suf a (by rw [← hs]; exact hn)
      refine Ev.shift ?_
      simp only [impl_coreAlpha.l1, if_pos hlt, if_pos hlt2, if_pos (Int.natCast_nonneg pre.length), hr, hr2, hnx, if_pos (show (ps.map m113).length < 4398046511104 by simp; omega)]
      have h2 := ih suf2 (pre ++ [a]) (pre2 ++ [b]) (ps ++ [(a, b)]) (by rw [hs, mid_assoc]) (by rw [ht, mid_assoc]) (by simp [hp]) (by omega) (by simp; omega) hn (by simpa using h)
      simpa [m113] using h2
theorem impl_loop (ps : List (ByteArray × ByteArray)) (suf suf2 : List S51) (hP : ∀ y ∈ suf, ImplOk y) : ∀ (pre pre2 : List S51) (N : Int), N = ((pre ++ suf).length : Int) → pre.length = pre2.length → suf.length = suf2.length → ps.length + wids suf ≤ 2097152 → (pre ++ suf).length ≤ 9223372036854775807 →
    Ev (fun k => impl_coreAlpha.l0 k (pre ++ suf) (pre2 ++ suf2) (ps.map m113) N (pre.length : Int)) (alps ps suf suf2) := by
  induction suf generalizing suf2 with
  | nil =>
    intro pre pre2 N hN hp _ _ _
    refine Ev.shift ?_
    have hnl : ¬ ((pre.length : Int) < N) := by rw [hN]; exact mid_not_lt pre
    simp only [impl_coreAlpha.l0, if_neg hnl, alps]
    exact Ev.now _
  | cons s suf ih =>
    intro pre pre2 N hN hp hs hb hn
    cases suf2 with
    | nil => simp at hs
    | cons t suf2 =>
      simp only [List.length_cons, wids] at hs hb
      have hwid := wid_mk s
      have hltN : (pre.length : Int) < N := by rw [hN]; exact mid_lt _ _ _
      have hlt2 : (pre.length : Int) < ((pre2 ++ t :: suf2).length : Int) := by rw [hp]; exact mid_lt _ _ _
      have hr2 : rd_T51 (pre2 ++ t :: suf2) (pre.length : Int) = t := by rw [hp]; exact rd51 _ _ _
      have hno : Ev (fun k => impl_coreAlpha.j1 k (pre ++ s :: suf) (pre2 ++ t :: suf2) (ps.map m113) N (pre.length : Int) true s.f0 s.f1 s.f2 s.f3 s.f4 t.f0 t.f1 t.f2 t.f3 t.f4) false := by
        refine Ev.shift ?_
        simp only [impl_coreAlpha.j1, if_true]
        exact Ev.now _
      refine Ev.shift ?_
      simp only [impl_coreAlpha.l0, if_pos hltN, if_pos (mid_lt pre suf s), if_pos hlt2, if_pos (Int.natCast_nonneg pre.length), rd51, hr2, alps]
      rw [alp_mk]
      by_cases h0 : s.f0 = t.f0
      · by_cases h2 : s.f2 = t.f2
        · by_cases h3 : s.f3.length = t.f3.length
          · by_cases h4 : s.f4.length = t.f4.length
            · rw [if_pos ⟨h0, h2, h3, h4⟩]
              have hrest : Ev (fun k => impl_coreAlpha.l0 k (pre ++ s :: suf) (pre2 ++ t :: suf2) (ps.map m113) N (wrap64 ((pre.length : Int) + 1))) (alps ps suf suf2) := by
                rw [next_i pre suf s hn, mid_assoc pre suf s, mid_assoc pre2 suf2 t]
                exact ih suf2 (fun y hy => hP y (List.mem_cons_of_mem _ hy)) (pre ++ [s]) (pre2 ++ [t]) N (by rw [hN]; simp) (by simp [hp]) (by omega) (by omega) (by simpa using hn)
              have hj3 : Ev (fun k => impl_coreAlpha.j3 k (pre ++ s :: suf) (pre2 ++ t :: suf2) (ps.map m113) N (pre.length : Int) s.f0 s.f1 s.f2 s.f3 s.f4 t.f0 t.f1 t.f2 t.f3 t.f4) (alps (ps ++ s.f3.zip t.f3) s.f4 t.f4 && alps ps suf suf2) := by
                refine Ev.shift ?_
                simp only [impl_coreAlpha.j3]
                refine pairs_loop _ _ ps _ _ s t _ s.f3 t.f3 [] [] ps rfl rfl rfl h3 (by omega) (by omega) ?_
                refine Ev.bind (hP s (by simp) t.f4 (ps ++ s.f3.zip t.f3) h4 (by simp [List.length_zip, h3]; omega) (by omega)) ?_
                cases alps (ps ++ s.f3.zip t.f3) s.f4 t.f4 with
                | true => simp only [if_true, Bool.true_and]; exact hrest
                | false => simp only [Bool.false_eq_true, if_false, Bool.false_and]; exact Ev.now _
              have hj2 : ∀ b, b = isName s.f0 → Ev (fun k => impl_coreAlpha.j2 k (pre ++ s :: suf) (pre2 ++ t :: suf2) (ps.map m113) N (pre.length : Int) b s.f0 s.f1 s.f2 s.f3 s.f4 t.f0 t.f1 t.f2 t.f3 t.f4) ((textOk ps s.f0 s.f1 t.f1 && alps (ps ++ s.f3.zip t.f3) s.f4 t.f4) && alps ps suf suf2) := by
                intro b hbn
                refine Ev.shift ?_
                unfold textOk
                rw [← hbn, Bool.and_assoc]
                cases b with
                | true =>
                  simp only [impl_coreAlpha.j2, if_true]
                  refine Ev.bind (name_impl' ps s.f1 t.f1 (by omega)) ?_
                  cases stands ps s.f1 t.f1 with
                  | true => simp only [if_true, Bool.true_and]; exact hj3
                  | false => simp only [Bool.false_eq_true, if_false, Bool.false_and]; exact Ev.now _
                | false =>
                  simp only [impl_coreAlpha.j2, Bool.false_eq_true, if_false]
                  by_cases ht : s.f1.toList = t.f1.toList
                  · simp only [if_pos ht, beq_iff_eq.mpr ht, Bool.true_and]; exact hj3
                  · simp only [if_neg ht, beq_eq_false_iff_ne.mpr ht, Bool.false_and]; exact Ev.now _
              have hj1 : Ev (fun k => impl_coreAlpha.j1 k (pre ++ s :: suf) (pre2 ++ t :: suf2) (ps.map m113) N (pre.length : Int) false s.f0 s.f1 s.f2 s.f3 s.f4 t.f0 t.f1 t.f2 t.f3 t.f4) ((textOk ps s.f0 s.f1 t.f1 && alps (ps ++ s.f3.zip t.f3) s.f4 t.f4) && alps ps suf suf2) := by
                refine Ev.shift ?_
                simp only [impl_coreAlpha.j1, Bool.false_eq_true, if_false]
                refine Ev.ite (fun h => hj2 _ (by simp [isName, h])) (fun h => ?_)
                refine Ev.ite (fun h' => hj2 _ (by simp [isName, h, h'])) (fun h' => ?_)
                exact hj2 _ (by simp [isName, h, h'])
              have hbl : (s.f2 != t.f2) = false := bne_eq_false_iff_eq.mpr h2
              have hbk : ((s.f4.length : Int) != (t.f4.length : Int)) = false := bne_eq_false_iff_eq.mpr (by omega)
              simp only [if_pos h0, hbl, hbk, Bool.false_eq_true, if_false, if_pos (show (s.f3.length : Int) = (t.f3.length : Int) by omega)]
              exact hj1
            · rw [if_neg (fun h => h4 h.2.2.2)]
              have hbl : (s.f2 != t.f2) = false := bne_eq_false_iff_eq.mpr h2
              have hbk : ((s.f4.length : Int) != (t.f4.length : Int)) = true := bne_iff_ne.mpr (by omega)
              simp only [if_pos h0, hbl, hbk, Bool.false_eq_true, if_false, if_pos (show (s.f3.length : Int) = (t.f3.length : Int) by omega), Bool.false_and]
              exact hno
          · rw [if_neg (fun h => h3 h.2.2.1)]
            have hbl : (s.f2 != t.f2) = false := bne_eq_false_iff_eq.mpr h2
            simp only [if_pos h0, hbl, Bool.false_eq_true, if_false, if_neg (show ¬ (s.f3.length : Int) = (t.f3.length : Int) by omega), Bool.false_and]
            exact hno
        · rw [if_neg (fun h => h2 h.2.1)]
          have hbl : (s.f2 != t.f2) = true := bne_iff_ne.mpr h2
          simp only [if_pos h0, hbl, if_true, Bool.false_and]
          exact hno
      · rw [if_neg (fun h => h0 h.1)]
        simp only [if_neg h0, Bool.false_and]
        exact hno
theorem impl_ok : ∀ x, ImplOk x := by
  refine ind51 (fun x ih ys ps hl hb hn => ?_)
  refine Ev.shift ?_
  simp only [impl_coreAlpha.f, if_pos (show (x.f4.length : Int) = (ys.length : Int) by omega)]
  exact impl_loop ps x.f4 ys ih [] [] _ (by simp) rfl hl hb (by simp; omega)
theorem implTop (a b : List S51) (hw : wids a ≤ 2097152) (hn : a.length ≤ 2097152) : Ev (fun k => impl_ExpAlpha.f k a b) (alpTop a b) := by
  unfold alpTop
  simp only [impl_ExpAlpha.f]
  refine Ev.bind (a := if a.length = b.length then alps [] a b else false) ?_ (Ev.now _)
  by_cases h : a.length = b.length
  · rw [if_pos h]
    refine Ev.shift ?_
    simp only [impl_coreAlpha.f, if_pos (show (a.length : Int) = (b.length : Int) by omega)]
    exact impl_loop [] a b (fun y _ => impl_ok y) [] [] _ (by simp) rfl h (by simpa using hw) (by simp; omega)
  · rw [if_neg h]
    refine Ev.shift ?_
    simp only [impl_coreAlpha.f, if_neg (show ¬ (a.length : Int) = (b.length : Int) by omega)]
    exact Ev.now _

/-! ### the law -/
theorem wid_conv : ∀ x : S47, wid (conv x) ≤ big x := by
  refine ind47 (fun x ih => ?_)
  have key : ∀ l : List S47, (∀ y ∈ l, wid (conv y) ≤ big y) → wids (convs l) ≤ bigs l := by
    intro l
    induction l with
    | nil => intro _; simp [convs, wids, bigs]
    | cons y l ihl =>
      intro h
      have h1 := h y (by simp)
      have h2 := ihl (fun z hz => h z (List.mem_cons_of_mem _ hz))
      simp only [convs, wids, bigs]
      omega
  have hk := key x.f4 ih
  rw [conv_mk, wid_mk]
  cases x
  simp only [big, strs, convs_length] at *
  omega
theorem wids_convs (l : List S47) : wids (convs l) ≤ bigs l := by
  induction l with
  | nil => simp [convs, wids, bigs]
  | cons y l ihl =>
    have h1 := wid_conv y
    simp only [convs, wids, bigs]
    omega
theorem FnExactExpAlpha : laws_FnExactExpAlpha.Pure := by
  intro x0 x1 h0 h1
  refine Ev.rounds ?_
  obtain ⟨q, hq, hq2⟩ := sizes_kids x0 (fun y _ => sizes_ok y) 1048576 (by omega) (by omega) h0.1 h0.2
  simp only [laws_FnExactExpAlpha.f]
  refine Ev.bind hq ?_
  refine Ev.ite (fun _ => Ev.now _) (fun hneg => ?_)
  obtain ⟨p, hp, hp2⟩ := sizes_kids x1 (fun y _ => sizes_ok y) q (by omega) (by omega) h1.1 h1.2
  refine Ev.bind hp ?_
  refine Ev.ite (fun _ => Ev.now _) (fun hneg2 => ?_)
  have hb0 : x0.length + bigs x0 ≤ 1048576 := by omega
  have hb1 : x1.length + bigs x1 ≤ 1048576 := by omega
  have hc0 := toKids x0 (fun y _ => conv_ok y) (by omega) (by omega)
  have hc1 := toKids x1 (fun y _ => conv_ok y) (by omega) (by omega)
  have hw0 := wids_convs x0
  have hw1 := wids_convs x1
  have hl0 := convs_length x0
  have hl1 := convs_length x1
  refine Ev.bind hc0 ?_
  refine Ev.bind hc1 ?_
  refine Ev.bind (specTop (convs x0) (convs x1) (by omega) (by omega)) ?_
  refine Ev.bind hc0 ?_
  refine Ev.bind hc1 ?_
  refine Ev.bind (implTop (convs x0) (convs x1) (by omega) (by omega)) ?_
  simp only [bne_self_eq_false, Bool.false_eq_true, if_false]
  refine Ev.bind hc0 ?_
  refine Ev.bind (eqKids (convs x0) (fun y _ => eq_ok y) (by omega) (by omega)) ?_
  simp only [if_true]
  refine Ev.bind hc1 ?_
  refine Ev.bind (eqKids (convs x1) (fun y _ => eq_ok y) (by omega) (by omega)) ?_
  simp only [if_true]
  exact Ev.now _
end Go.Proofs.Ytmdhanegafclmaa.Pure
