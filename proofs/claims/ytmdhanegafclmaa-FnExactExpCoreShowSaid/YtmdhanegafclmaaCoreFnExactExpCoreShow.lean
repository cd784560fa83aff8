/- What the exact laws over ExpCore have in common: how large a part is by the law's own count, the same part in the program's type, and that a part is equal to itself. No condition but what the reading gives. -/
import Derived.Test.YtmdhanegafclmaaPreFnExactExpCoreShow
import Derived.Test.YtmdhanegafclmaaPk
namespace Go.Proofs.Ytmdhanegafclmaa.Pure
open Go.RowKit Go.Proofs.Ytmdhanegafclmaa.PFnExactExpCoreShow Go.Proofs.YtmdhanegafclmaaW.PrintWords Go.Proofs.YtmdhanegafclmaaW.PrintLast Go.Proofs.YtmdhanegafclmaaW.Pk
set_option linter.unusedVariables false
set_option linter.unusedSimpArgs false

/-! ### the trees -/
theorem ind47 {P : S47 → Prop} (h : ∀ x : S47, (∀ y ∈ x.f4, P y) → P x) : ∀ x, P x := by
  have key : ∀ n (x : S47), SizeOf.sizeOf x < n → P x := by
    intro n
    induction n with
    | zero => intro x hx; omega
    | succ n ih =>
      intro x hx
      refine h x (fun y hy => ih y ?_)
      have h1 := List.sizeOf_lt_of_mem hy
      cases x
      simp at h1 hx ⊢
      omega
  exact fun x => key _ x (Nat.lt_succ_self _)
theorem ind51 {P : S51 → Prop} (h : ∀ x : S51, (∀ y ∈ x.f4, P y) → P x) : ∀ x, P x := by
  have key : ∀ n (x : S51), SizeOf.sizeOf x < n → P x := by
    intro n
    induction n with
    | zero => intro x hx; omega
    | succ n ih =>
      intro x hx
      refine h x (fun y hy => ih y ?_)
      have h1 := List.sizeOf_lt_of_mem hy
      cases x
      simp at h1 hx ⊢
      omega
  exact fun x => key _ x (Nat.lt_succ_self _)
def strs (l : List ByteArray) : Nat := l.length + (l.map ByteArray.size).sum
mutual
/-- How large a part is, as the law counts. -/
def big : S47 → Nat
  | ⟨_, t, _, ns, ks⟩ => t.size + strs ns + (ks.length + bigs ks)
def bigs : List S47 → Nat
  | [] => 0
  | x :: l => big x + bigs l
end
mutual
def conv : S47 → S51
  | ⟨a, b, c, d, e⟩ => ⟨a, b, c, d, convs e⟩
def convs : List S47 → List S51
  | [] => []
  | x :: l => conv x :: convs l
end
mutual
def nms : S51 → Nat
  | ⟨_, _, _, ns, ks⟩ => ns.length + nmss ks
def nmss : List S51 → Nat
  | [] => 0
  | x :: l => nms x + nmss l
end
theorem nmss_mem {l : List S51} {x : S51} (h : x ∈ l) : nms x ≤ nmss l := by
  induction l with
  | nil => cases h
  | cons y l ih =>
    simp only [nmss]
    rcases List.mem_cons.1 h with rfl | h
    · omega
    · have := ih h; omega
theorem convs_length (l : List S47) : (convs l).length = l.length := by
  induction l with
  | nil => rfl
  | cons x l ih => simp [convs, ih]
theorem rd47 (pre suf : List S47) (x : S47) : rd_T47 (pre ++ x :: suf) (pre.length : Int) = x := by
  unfold rd_T47; rw [Int.toNat_natCast]; exact getD_mid _ _ _ _
theorem rd51 (pre suf : List S51) (x : S51) : rd_T51 (pre ++ x :: suf) (pre.length : Int) = x := by
  unfold rd_T51; rw [Int.toNat_natCast]; exact getD_mid _ _ _ _

/-! ### how large -/
theorem sizes_loop (suf : List ByteArray) : ∀ (pre : List ByteArray) (left : Int), 0 ≤ left → left ≤ 1048576 → (∀ s ∈ suf, s.size ≤ 9223372036854775807) → (pre ++ suf).length ≤ 9223372036854775807 →
    ∃ r, Ev (fun k => laws_szStringS.l0 k (pre ++ suf) left (pre.length : Int)) r ∧ (r < 0 ∨ 0 ≤ r ∧ r + ((suf.map ByteArray.size).sum : Nat) = left) := by
  induction suf with
  | nil =>
    intro pre left h0 hl _ _
    refine ⟨left, Ev.shift ?_, .inr ⟨h0, by simp⟩⟩
    simp only [laws_szStringS.l0, if_neg (mid_not_lt pre)]
    exact Ev.now _
  | cons s suf ih =>
    intro pre left h0 hl hb hn
    have hs := hb s (by simp)
    have hw : wrap64 (left - (s.size : Int)) = left - (s.size : Int) := wrap64_eq (by omega) (by omega)
    by_cases hneg : left - (s.size : Int) < 0
    · refine ⟨-1, Ev.shift ?_, .inl (by omega)⟩
      simp only [laws_szStringS.l0, if_pos (mid_lt pre suf s), if_pos (Int.natCast_nonneg pre.length), rdOf_mid, hw, if_pos hneg]
      exact Ev.now _
    · obtain ⟨r, hr, h⟩ := ih (pre ++ [s]) (left - s.size) (by omega) (by omega) (fun x hx => hb x (List.mem_cons_of_mem _ hx)) (by simpa using hn)
      refine ⟨r, Ev.shift ?_, ?_⟩
      · simp only [laws_szStringS.l0, if_pos (mid_lt pre suf s), if_pos (Int.natCast_nonneg pre.length), rdOf_mid, hw, if_neg hneg, next_i pre suf s hn]
        rw [mid_assoc pre suf s]
        exact hr
      · rcases h with h | ⟨h1, h2⟩
        · exact .inl h
        · refine .inr ⟨h1, ?_⟩
          simp only [List.map_cons, List.sum_cons]
          omega
theorem sizes_strs (l : List ByteArray) (left : Int) (h0 : 0 ≤ left) (hl : left ≤ 1048576) (hn : l.length ≤ 9223372036854775807) (hb : ∀ s ∈ l, s.size ≤ 9223372036854775807) :
    ∃ r, Ev (fun k => laws_szStringS.f k l left) r ∧ (r < 0 ∨ 0 ≤ r ∧ r + (strs l : Nat) = left) := by
  have hw : wrap64 (left - (l.length : Int)) = left - (l.length : Int) := wrap64_eq (by omega) (by omega)
  by_cases hneg : left - (l.length : Int) < 0
  · refine ⟨-1, ?_, .inl (by omega)⟩
    simp only [laws_szStringS.f, hw, if_pos hneg]
    exact Ev.now _
  · obtain ⟨r, hr, h⟩ := sizes_loop l [] (left - l.length) (by omega) (by omega) hb (by simpa using hn)
    refine ⟨r, ?_, ?_⟩
    · simp only [laws_szStringS.f, hw, if_neg hneg]
      exact hr
    · rcases h with h | ⟨h1, h2⟩
      · exact .inl h
      · exact .inr ⟨h1, by unfold strs; omega⟩
def SizesOk (x : S47) : Prop := W47 x → ∀ left : Int, 0 ≤ left → left ≤ 1048576 →
    ∃ r, Ev (fun k => laws_szExpCore.f k x.f0 x.f1 x.f2 x.f3 x.f4 left) r ∧ (r < 0 ∨ 0 ≤ r ∧ r + (big x : Nat) = left)
theorem sizes_kids_loop (suf : List S47) (hP : ∀ y ∈ suf, SizesOk y) : ∀ (pre : List S47) (left : Int), 0 ≤ left → left ≤ 1048576 → (∀ s ∈ suf, W47 s) → (pre ++ suf).length ≤ 9223372036854775807 →
    ∃ r, Ev (fun k => laws_szExpCoreS.l0 k (pre ++ suf) left (pre.length : Int)) r ∧ (r < 0 ∨ 0 ≤ r ∧ r + (bigs suf : Nat) = left) := by
  induction suf with
  | nil =>
    intro pre left h0 hl _ _
    refine ⟨left, Ev.shift ?_, .inr ⟨h0, by simp [bigs]⟩⟩
    simp only [laws_szExpCoreS.l0, if_neg (mid_not_lt pre)]
    exact Ev.now _
  | cons s suf ih =>
    intro pre left h0 hl hb hn
    obtain ⟨q, hq, hq2⟩ := hP s (by simp) (hb s (by simp)) left h0 hl
    by_cases hneg : q < 0
    · refine ⟨-1, Ev.shift ?_, .inl (by omega)⟩
      simp only [laws_szExpCoreS.l0, if_pos (mid_lt pre suf s), if_pos (Int.natCast_nonneg pre.length), rd47]
      refine Ev.bind hq ?_
      simp only [if_pos hneg]
      exact Ev.now _
    · obtain ⟨r, hr, h⟩ := ih (fun y hy => hP y (List.mem_cons_of_mem _ hy)) (pre ++ [s]) q (by omega) (by omega) (fun x hx => hb x (List.mem_cons_of_mem _ hx)) (by simpa using hn)
      refine ⟨r, Ev.shift ?_, ?_⟩
      · simp only [laws_szExpCoreS.l0, if_pos (mid_lt pre suf s), if_pos (Int.natCast_nonneg pre.length), rd47]
        refine Ev.bind hq ?_
        simp only [if_neg hneg, next_i pre suf s hn]
        rw [mid_assoc pre suf s]
        exact hr
      · rcases h with h | ⟨h1, h2⟩
        · exact .inl h
        · refine .inr ⟨h1, ?_⟩
          simp only [bigs]
          omega
theorem sizes_kids (l : List S47) (hP : ∀ y ∈ l, SizesOk y) (left : Int) (h0 : 0 ≤ left) (hl : left ≤ 1048576) (hn : l.length ≤ 9223372036854775807) (hb : ∀ s ∈ l, W47 s) :
    ∃ r, Ev (fun k => laws_szExpCoreS.f k l left) r ∧ (r < 0 ∨ 0 ≤ r ∧ r + ((l.length + bigs l : Nat) : Int) = left) := by
  have hw : wrap64 (left - (l.length : Int)) = left - (l.length : Int) := wrap64_eq (by omega) (by omega)
  by_cases hneg : left - (l.length : Int) < 0
  · refine ⟨-1, Ev.shift ?_, .inl (by omega)⟩
    simp only [laws_szExpCoreS.f, hw, if_pos hneg]
    exact Ev.now _
  · obtain ⟨r, hr, h⟩ := sizes_kids_loop l hP [] (left - l.length) (by omega) (by omega) hb (by simpa using hn)
    refine ⟨r, Ev.shift ?_, ?_⟩
    · simp only [laws_szExpCoreS.f, hw, if_neg hneg]
      exact hr
    · rcases h with h | ⟨h1, h2⟩
      · exact .inl h
      · exact .inr ⟨h1, by omega⟩
theorem sizes_ok : ∀ x, SizesOk x := by
  refine ind47 (fun x ih hW left h0 hl => ?_)
  obtain ⟨_, hb1, _, hb3, hb4⟩ := hW.out
  have hw : wrap64 (left - (x.f1.size : Int)) = left - (x.f1.size : Int) := wrap64_eq (by omega) (by omega)
  by_cases hneg : left - (x.f1.size : Int) < 0
  · refine ⟨-1, Ev.shift ?_, .inl (by omega)⟩
    simp only [laws_szExpCore.f, hw, if_pos hneg]
    exact Ev.now _
  obtain ⟨q, hq, hq2⟩ := sizes_strs x.f3 (left - x.f1.size) (by omega) (by omega) hb3.1 hb3.2
  by_cases hneg2 : q < 0
  · refine ⟨-1, Ev.shift ?_, .inl (by omega)⟩
    simp only [laws_szExpCore.f, hw, if_neg hneg]
    refine Ev.bind hq ?_
    simp only [if_pos hneg2]
    exact Ev.now _
  obtain ⟨p, hp, hp2⟩ := sizes_kids x.f4 ih q (by omega) (by omega) hb4.1 hb4.2
  by_cases hneg3 : p < 0
  · refine ⟨-1, Ev.shift ?_, .inl (by omega)⟩
    simp only [laws_szExpCore.f, hw, if_neg hneg]
    refine Ev.bind hq ?_
    simp only [if_neg hneg2]
    refine Ev.bind hp ?_
    simp only [if_pos hneg3]
    exact Ev.now _
  · refine ⟨p, Ev.shift ?_, .inr ⟨by omega, ?_⟩⟩
    · simp only [laws_szExpCore.f, hw, if_neg hneg]
      refine Ev.bind hq ?_
      simp only [if_neg hneg2]
      refine Ev.bind hp ?_
      simp only [if_neg hneg3]
      exact Ev.now _
    · cases x
      simp only [big] at *
      omega

/-! ### the same, in the program's own types -/
theorem toStr_loop (suf : List ByteArray) : ∀ (pre : List ByteArray) (e : ByteArray), (pre ++ suf).length ≤ 9223372036854775807 →
    Ev (fun k => laws_toStringS.l0 k (pre ++ suf) (pre ++ List.replicate suf.length e) (pre.length : Int)) (pre ++ suf) := by
  induction suf with
  | nil =>
    intro pre e _
    refine Ev.shift ?_
    simp only [laws_toStringS.l0, if_neg (mid_not_lt pre), List.length_nil, List.replicate_zero]
    exact Ev.now _
  | cons s suf ih =>
    intro pre e hn
    refine Ev.shift ?_
    simp only [List.length_cons, List.replicate_succ, laws_toStringS.l0, if_pos (mid_lt pre suf s), if_pos (mid_lt pre (List.replicate suf.length e) e), if_pos (Int.natCast_nonneg pre.length), rdOf_mid, next_i pre suf s hn, set_mid]
    have h := ih (pre ++ [s]) e (by simpa using hn)
    rw [mid_assoc pre suf s]
    exact h
theorem toStr (l : List ByteArray) (hn : l.length ≤ 1048576) : Ev (fun k => laws_toStringS.f k l) l := by
  have h := toStr_loop l [] ⟨#[]⟩ (by simp; omega)
  simp only [laws_toStringS.f, if_pos (Int.natCast_nonneg l.length), Int.toNat_natCast, if_pos (show l.length ≤ 17592186044416 by omega)]
  exact h
theorem set_mid' {α : Type} (pre suf : List α) (x y : α) (n : Nat) (h : pre.length = n) : (pre ++ x :: suf).set (n : Int).toNat y = (pre ++ [y]) ++ suf := by
  subst h
  exact set_mid pre suf x y
def ConvOk (x : S47) : Prop := big x ≤ 1048576 → Ev (fun k => laws_toExpCore.f k x.f0 x.f1 x.f2 x.f3 x.f4) (x.f0, x.f1, x.f2, x.f3, convs x.f4)
theorem conv_mk (x : S47) : conv x = ⟨x.f0, x.f1, x.f2, x.f3, convs x.f4⟩ := by cases x; rfl
theorem toKids_loop (suf : List S47) (hP : ∀ y ∈ suf, ConvOk y) : ∀ (pre : List S47) (done : List S51) (e : S51), done.length = pre.length → bigs suf ≤ 1048576 → (pre ++ suf).length ≤ 9223372036854775807 →
    Ev (fun k => laws_toExpCoreS.l0 k (pre ++ suf) (done ++ List.replicate suf.length e) (pre.length : Int)) (done ++ convs suf) := by
  induction suf with
  | nil =>
    intro pre done e hd _ _
    refine Ev.shift ?_
    simp only [laws_toExpCoreS.l0, if_neg (mid_not_lt pre), List.length_nil, List.replicate_zero, convs]
    exact Ev.now _
  | cons s suf ih =>
    intro pre done e hd hb hn
    simp only [bigs] at hb
    refine Ev.shift ?_
    have hlt : ((pre.length : Nat) : Int) < (((done ++ e :: List.replicate suf.length e).length : Nat) : Int) := by rw [← hd]; exact mid_lt _ _ _
    simp only [List.length_cons, List.replicate_succ, laws_toExpCoreS.l0, if_pos (mid_lt pre suf s), if_pos (Int.natCast_nonneg pre.length), rd47, next_i pre suf s hn, if_pos hlt]
    refine Ev.bind (hP s (by simp) (by omega)) ?_
    have h := ih (fun y hy => hP y (List.mem_cons_of_mem _ hy)) (pre ++ [s]) (done ++ [conv s]) e (by simp [hd]) (by omega) (by simpa using hn)
    rw [set_mid' done (List.replicate suf.length e) e _ pre.length hd, ← conv_mk, mid_assoc pre suf s]
    simpa [convs] using h
theorem toKids (l : List S47) (hP : ∀ y ∈ l, ConvOk y) (hn : l.length ≤ 1048576) (hb : bigs l ≤ 1048576) : Ev (fun k => laws_toExpCoreS.f k l) (convs l) := by
  have h := toKids_loop l hP [] [] z51 rfl hb (by simp; omega)
  refine Ev.shift ?_
  simp only [laws_toExpCoreS.f, if_pos (Int.natCast_nonneg l.length), Int.toNat_natCast, if_pos (show l.length ≤ 3518437208883 by omega)]
  exact h
theorem conv_ok : ∀ x, ConvOk x := by
  refine ind47 (fun x ih hb => ?_)
  have hb' : x.f1.size + strs x.f3 + (x.f4.length + bigs x.f4) ≤ 1048576 := by cases x; exact hb
  refine Ev.shift ?_
  simp only [laws_toExpCore.f]
  refine Ev.bind (toStr x.f3 (by unfold strs at hb'; omega)) ?_
  refine Ev.bind (toKids x.f4 ih (by omega) (by omega)) ?_
  exact Ev.now _

/-! ### equal to itself -/
theorem eqStr_loop (suf : List ByteArray) : ∀ (pre : List ByteArray), (pre ++ suf).length ≤ 9223372036854775807 → Ev (fun k => laws_eqStringS.l0 k (pre ++ suf) (pre ++ suf) (pre.length : Int)) true := by
  induction suf with
  | nil =>
    intro pre _
    refine Ev.shift ?_
    simp only [laws_eqStringS.l0, if_neg (mid_not_lt pre)]
    exact Ev.now _
  | cons s suf ih =>
    intro pre hn
    refine Ev.shift ?_
    simp only [laws_eqStringS.l0, if_pos (mid_lt pre suf s), if_pos (Int.natCast_nonneg pre.length), next_i pre suf s hn, if_true]
    rw [mid_assoc pre suf s]
    exact ih (pre ++ [s]) (by simpa using hn)
theorem eqStr (l : List ByteArray) (hn : l.length ≤ 1048576) : Ev (fun k => laws_eqStringS.f k l l) true := by
  simp only [laws_eqStringS.f, if_true]
  exact eqStr_loop l [] (by simp; omega)
def Thin (x : S51) : Prop := nms x ≤ 1048576
mutual
def wid : S51 → Nat
  | ⟨_, _, _, ns, ks⟩ => ns.length + (ks.length + wids ks)
def wids : List S51 → Nat
  | [] => 0
  | x :: l => wid x + wids l
end
theorem wid_mk (x : S51) : wid x = x.f3.length + (x.f4.length + wids x.f4) := by cases x; rfl
theorem wids_mem {l : List S51} {x : S51} (h : x ∈ l) : wid x ≤ wids l := by
  induction l with
  | nil => cases h
  | cons y l ih =>
    simp only [wids]
    rcases List.mem_cons.1 h with rfl | h
    · omega
    · have := ih h; omega
def EqOk (x : S51) : Prop := wid x ≤ 1048576 → Ev (fun k => laws_eqExpCore.f k x.f0 x.f1 x.f2 x.f3 x.f4 x.f0 x.f1 x.f2 x.f3 x.f4) true
theorem eqKids_loop (suf : List S51) (hP : ∀ y ∈ suf, EqOk y) : ∀ (pre : List S51), wids suf ≤ 1048576 → (pre ++ suf).length ≤ 9223372036854775807 → Ev (fun k => laws_eqExpCoreS.l0 k (pre ++ suf) (pre ++ suf) (pre.length : Int)) true := by
  induction suf with
  | nil =>
    intro pre _ _
    refine Ev.shift ?_
    simp only [laws_eqExpCoreS.l0, if_neg (mid_not_lt pre)]
    exact Ev.now _
  | cons s suf ih =>
    intro pre hb hn
    simp only [wids] at hb
    refine Ev.shift ?_
    simp only [laws_eqExpCoreS.l0, if_pos (mid_lt pre suf s), if_pos (Int.natCast_nonneg pre.length), rd51, next_i pre suf s hn]
    refine Ev.bind (hP s (by simp) (by omega)) ?_
    simp only [if_true]
    rw [mid_assoc pre suf s]
    exact ih (fun y hy => hP y (List.mem_cons_of_mem _ hy)) (pre ++ [s]) (by omega) (by simpa using hn)
theorem eqKids (l : List S51) (hP : ∀ y ∈ l, EqOk y) (hn : l.length ≤ 1048576) (hb : wids l ≤ 1048576) : Ev (fun k => laws_eqExpCoreS.f k l l) true := by
  refine Ev.shift ?_
  simp only [laws_eqExpCoreS.f, if_true]
  exact eqKids_loop l hP [] hb (by simp; omega)
theorem eq_ok : ∀ x, EqOk x := by
  refine ind51 (fun x ih hb => ?_)
  rw [wid_mk] at hb
  refine Ev.shift ?_
  simp only [laws_eqExpCore.f, if_true, bne_self_eq_false, Bool.false_eq_true, if_false]
  refine Ev.bind (eqStr x.f3 (by omega)) ?_
  simp only [if_true]
  refine Ev.bind (eqKids x.f4 ih (by omega) (by omega)) ?_
  simp only [if_true]
  exact Ev.now _

theorem wid_conv : ∀ x : S47, wid (conv x) ≤ big x := by
  refine ind47 (fun x ih => ?_)
  have key : ∀ l : List S47, (∀ y ∈ l, wid (conv y) ≤ big y) → wids (convs l) ≤ bigs l := by
    intro l
    induction l with
    | nil => intro _; simp [convs, wids, bigs]
    | cons y l ihl =>
      intro h
      have h1 := h y (by simp)
      have h2 := ihl (fun z hz => h z (List.mem_cons_of_mem _ hz))
      simp only [convs, wids, bigs]
      omega
  have hk := key x.f4 ih
  rw [conv_mk, wid_mk]
  cases x
  simp only [big, strs, convs_length] at *
  omega
theorem wids_convs (l : List S47) : wids (convs l) ≤ bigs l := by
  induction l with
  | nil => simp [convs, wids, bigs]
  | cons y l ihl =>
    have h1 := wid_conv y
    simp only [convs, wids, bigs]
    omega
end Go.Proofs.Ytmdhanegafclmaa.Pure
