/- FnExactSisOrder: at every list of libraries (as it can be read), either it is too large for the law's own bound, or the program's SisOrder (closures over slices.IndexFunc and slices.ContainsFunc) answers what the reference's answers, what is handed over stays as it was, and the answer owns its memory: the law's function returns true. No condition beyond the reading. -/
import Derived.Test.YtmdhanegafclmaaPreFnExactSisOrder
import Derived.Test.YtmdhanegafclmaaPk
namespace Go.Proofs.Ytmdhanegafclmaa.Pure
open Go.RowKit Go.Proofs.Ytmdhanegafclmaa.PFnExactSisOrder Go.Proofs.YtmdhanegafclmaaW.PrintWords Go.Proofs.YtmdhanegafclmaaW.PrintLast Go.Proofs.YtmdhanegafclmaaW.Pk
set_option linter.unusedVariables false
set_option linter.unusedSimpArgs false
/-! ### lists of texts -/
def strs (l : List ByteArray) : Nat := l.length + (l.map ByteArray.size).sum
theorem sizes_loop (suf : List ByteArray) : ∀ (pre : List ByteArray) (left : Int), 0 ≤ left → left ≤ 1048576 → (∀ s ∈ suf, s.size ≤ 9223372036854775807) → (pre ++ suf).length ≤ 9223372036854775807 →
    ∃ r, Ev (fun k => laws_szStringS.l0 k (pre ++ suf) left (pre.length : Int)) r ∧ (r < 0 ∨ 0 ≤ r ∧ r + ((suf.map ByteArray.size).sum : Nat) = left) := by
  induction suf with
  | nil =>
    intro pre left h0 hl _ _
    refine ⟨left, Ev.shift ?_, .inr ⟨h0, by simp⟩⟩
    simp only [laws_szStringS.l0, if_neg (mid_not_lt pre)]
    exact Ev.now _
  | cons s suf ih =>
    intro pre left h0 hl hb hn
    have hs := hb s (by simp)
    have hw : wrap64 (left - (s.size : Int)) = left - (s.size : Int) := wrap64_eq (by omega) (by omega)
    by_cases hneg : left - (s.size : Int) < 0
    · refine ⟨-1, Ev.shift ?_, .inl (by omega)⟩
      simp only [laws_szStringS.l0, if_pos (mid_lt pre suf s), if_pos (Int.natCast_nonneg pre.length), rdOf_mid, hw, if_pos hneg]
      exact Ev.now _
    · obtain ⟨r, hr, h⟩ := ih (pre ++ [s]) (left - s.size) (by omega) (by omega) (fun x hx => hb x (List.mem_cons_of_mem _ hx)) (by simpa using hn)
      refine ⟨r, Ev.shift ?_, ?_⟩
      · simp only [laws_szStringS.l0, if_pos (mid_lt pre suf s), if_pos (Int.natCast_nonneg pre.length), rdOf_mid, hw, if_neg hneg, next_i pre suf s hn]
        rw [mid_assoc pre suf s]
        exact hr
      · rcases h with h | ⟨h1, h2⟩
        · exact .inl h
        · refine .inr ⟨h1, ?_⟩
          simp only [List.map_cons, List.sum_cons]
          omega
theorem sizes_strs (l : List ByteArray) (left : Int) (h0 : 0 ≤ left) (hl : left ≤ 1048576) (hn : l.length ≤ 9223372036854775807) (hb : ∀ s ∈ l, s.size ≤ 9223372036854775807) :
    ∃ r, Ev (fun k => laws_szStringS.f k l left) r ∧ (r < 0 ∨ 0 ≤ r ∧ r + (strs l : Nat) = left) := by
  have hw : wrap64 (left - (l.length : Int)) = left - (l.length : Int) := wrap64_eq (by omega) (by omega)
  by_cases hneg : left - (l.length : Int) < 0
  · refine ⟨-1, ?_, .inl (by omega)⟩
    simp only [laws_szStringS.f, hw, if_pos hneg]
    exact Ev.now _
  · obtain ⟨r, hr, h⟩ := sizes_loop l [] (left - l.length) (by omega) (by omega) hb (by simpa using hn)
    refine ⟨r, ?_, ?_⟩
    · simp only [laws_szStringS.f, hw, if_neg hneg]
      exact hr
    · rcases h with h | ⟨h1, h2⟩
      · exact .inl h
      · exact .inr ⟨h1, by unfold strs; omega⟩
theorem toStr_loop (suf : List ByteArray) : ∀ (pre : List ByteArray) (e : ByteArray), (pre ++ suf).length ≤ 9223372036854775807 →
    Ev (fun k => laws_toStringS.l0 k (pre ++ suf) (pre ++ List.replicate suf.length e) (pre.length : Int)) (pre ++ suf) := by
  induction suf with
  | nil =>
    intro pre e _
    refine Ev.shift ?_
    simp only [laws_toStringS.l0, if_neg (mid_not_lt pre), List.length_nil, List.replicate_zero]
    exact Ev.now _
  | cons s suf ih =>
    intro pre e hn
    refine Ev.shift ?_
    simp only [List.length_cons, List.replicate_succ, laws_toStringS.l0, if_pos (mid_lt pre suf s), if_pos (mid_lt pre (List.replicate suf.length e) e), if_pos (Int.natCast_nonneg pre.length), rdOf_mid, next_i pre suf s hn, set_mid]
    have h := ih (pre ++ [s]) e (by simpa using hn)
    rw [mid_assoc pre suf s]
    exact h
theorem toStr (l : List ByteArray) (hn : l.length ≤ 1048576) : Ev (fun k => laws_toStringS.f k l) l := by
  have h := toStr_loop l [] ⟨#[]⟩ (by simp; omega)
  simp only [laws_toStringS.f, if_pos (Int.natCast_nonneg l.length), Int.toNat_natCast, if_pos (show l.length ≤ 17592186044416 by omega)]
  exact h
theorem set_mid' {α : Type} (pre suf : List α) (x y : α) (n : Nat) (h : pre.length = n) : (pre ++ x :: suf).set (n : Int).toNat y = (pre ++ [y]) ++ suf := by
  subst h
  exact set_mid pre suf x y
theorem eqStr_loop (suf : List ByteArray) : ∀ (pre : List ByteArray), (pre ++ suf).length ≤ 9223372036854775807 → Ev (fun k => laws_eqStringS.l0 k (pre ++ suf) (pre ++ suf) (pre.length : Int)) true := by
  induction suf with
  | nil =>
    intro pre _
    refine Ev.shift ?_
    simp only [laws_eqStringS.l0, if_neg (mid_not_lt pre)]
    exact Ev.now _
  | cons s suf ih =>
    intro pre hn
    refine Ev.shift ?_
    simp only [laws_eqStringS.l0, if_pos (mid_lt pre suf s), if_pos (Int.natCast_nonneg pre.length), next_i pre suf s hn, if_true]
    rw [mid_assoc pre suf s]
    exact ih (pre ++ [s]) (by simpa using hn)
theorem eqStr (l : List ByteArray) (hn : l.length ≤ 1048576) : Ev (fun k => laws_eqStringS.f k l l) true := by
  simp only [laws_eqStringS.f, if_true]
  exact eqStr_loop l [] (by simp; omega)
theorem rd95 (pre suf : List S95) (x : S95) : rd_T95 (pre ++ x :: suf) (pre.length : Int) = x := by
  unfold rd_T95; rw [Int.toNat_natCast]; exact getD_mid _ _ _ _
theorem rd68 (pre suf : List S68) (x : S68) : rd_T68 (pre ++ x :: suf) (pre.length : Int) = x := by
  unfold rd_T68; rw [Int.toNat_natCast]; exact getD_mid _ _ _ _
/-! ### how large, the same in the program's type, equal to itself -/
def big (x : S95) : Nat := x.f0.size + strs x.f1 + x.f2.size
def bigs : List S95 → Nat
  | [] => 0
  | x :: l => big x + bigs l
theorem bigs_mem {l : List S95} {x : S95} (h : x ∈ l) : big x ≤ bigs l := by
  induction l with
  | nil => cases h
  | cons y l ih =>
    simp only [bigs]
    rcases List.mem_cons.1 h with rfl | h
    · omega
    · have := ih h; omega
theorem size_one (x : S95) (hW : W95 x) (left : Int) (h0 : 0 ≤ left) (hl : left ≤ 1048576) :
    ∃ r, Ev (fun k => laws_szSisLib.f k x.f0 x.f1 x.f2 left) r ∧ (r < 0 ∨ 0 ≤ r ∧ r + (big x : Nat) = left) := by
  obtain ⟨hb0, hb1, hb2⟩ := hW.out
  have hw : wrap64 (left - (x.f0.size : Int)) = left - (x.f0.size : Int) := wrap64_eq (by omega) (by omega)
  by_cases hneg : left - (x.f0.size : Int) < 0
  · refine ⟨-1, ?_, .inl (by omega)⟩
    simp only [laws_szSisLib.f, hw, if_pos hneg]
    exact Ev.now _
  obtain ⟨p, hp, hp2⟩ := sizes_strs x.f1 (left - (x.f0.size : Int)) (by omega) (by omega) hb1.1 hb1.2
  by_cases hneg2 : p < 0
  · refine ⟨-1, ?_, .inl (by omega)⟩
    simp only [laws_szSisLib.f, hw, if_neg hneg]
    refine Ev.bind hp ?_
    simp only [if_pos hneg2]
    exact Ev.now _
  have hw2 : wrap64 (p - (x.f2.size : Int)) = p - (x.f2.size : Int) := wrap64_eq (by omega) (by omega)
  by_cases hneg3 : p - (x.f2.size : Int) < 0
  · refine ⟨-1, ?_, .inl (by omega)⟩
    simp only [laws_szSisLib.f, hw, if_neg hneg]
    refine Ev.bind hp ?_
    simp only [if_neg hneg2, hw2, if_pos hneg3]
    exact Ev.now _
  · refine ⟨p - (x.f2.size : Int), ?_, .inr ⟨by omega, by unfold big; omega⟩⟩
    simp only [laws_szSisLib.f, hw, if_neg hneg]
    refine Ev.bind hp ?_
    simp only [if_neg hneg2, hw2, if_neg hneg3]
    exact Ev.now _
theorem size_loop (suf : List S95) : ∀ (pre : List S95) (left : Int), 0 ≤ left → left ≤ 1048576 → (∀ s ∈ suf, W95 s) → (pre ++ suf).length ≤ 9223372036854775807 →
    ∃ r, Ev (fun k => laws_szSisLibS.l0 k (pre ++ suf) left (pre.length : Int)) r ∧ (r < 0 ∨ 0 ≤ r ∧ r + (bigs suf : Nat) = left) := by
  induction suf with
  | nil =>
    intro pre left h0 hl _ _
    refine ⟨left, Ev.shift ?_, .inr ⟨h0, by simp [bigs]⟩⟩
    simp only [laws_szSisLibS.l0, if_neg (mid_not_lt pre)]
    exact Ev.now _
  | cons s suf ih =>
    intro pre left h0 hl hb hn
    obtain ⟨q, hq, hq2⟩ := size_one s (hb s (by simp)) left h0 hl
    by_cases hneg : q < 0
    · refine ⟨-1, Ev.shift ?_, .inl (by omega)⟩
      simp only [laws_szSisLibS.l0, if_pos (mid_lt pre suf s), if_pos (Int.natCast_nonneg pre.length), rd95]
      refine Ev.bind hq ?_
      simp only [if_pos hneg]
      exact Ev.now _
    · obtain ⟨r, hr, h⟩ := ih (pre ++ [s]) q (by omega) (by omega) (fun x hx => hb x (List.mem_cons_of_mem _ hx)) (by simpa using hn)
      refine ⟨r, Ev.shift ?_, ?_⟩
      · simp only [laws_szSisLibS.l0, if_pos (mid_lt pre suf s), if_pos (Int.natCast_nonneg pre.length), rd95]
        refine Ev.bind hq ?_
        simp only [if_neg hneg, next_i pre suf s hn]
        rw [mid_assoc pre suf s]
        exact hr
      · rcases h with h | ⟨h1, h2⟩
        · exact .inl h
        · refine .inr ⟨h1, ?_⟩
          simp only [bigs]
          omega
theorem size_ok (l : List S95) (left : Int) (h0 : 0 ≤ left) (hl : left ≤ 1048576) (hn : l.length ≤ 9223372036854775807) (hb : ∀ s ∈ l, W95 s) :
    ∃ r, Ev (fun k => laws_szSisLibS.f k l left) r ∧ (r < 0 ∨ 0 ≤ r ∧ r + ((l.length + bigs l : Nat) : Int) = left) := by
  have hw : wrap64 (left - (l.length : Int)) = left - (l.length : Int) := wrap64_eq (by omega) (by omega)
  by_cases hneg : left - (l.length : Int) < 0
  · refine ⟨-1, ?_, .inl (by omega)⟩
    simp only [laws_szSisLibS.f, hw, if_pos hneg]
    exact Ev.now _
  · obtain ⟨r, hr, h⟩ := size_loop l [] (left - l.length) (by omega) (by omega) hb (by simpa using hn)
    refine ⟨r, ?_, ?_⟩
    · simp only [laws_szSisLibS.f, hw, if_neg hneg]
      exact hr
    · rcases h with h | ⟨h1, h2⟩
      · exact .inl h
      · exact .inr ⟨h1, by omega⟩
def c95 (x : S95) : S68 := ⟨x.f0, x.f1, x.f2⟩
theorem conv_loop (suf : List S95) : ∀ (pre : List S95) (done : List S68) (e : S68), done.length = pre.length → (∀ x ∈ suf, x.f1.length ≤ 1048576) → (pre ++ suf).length ≤ 9223372036854775807 →
    Ev (fun k => laws_toSisLibS.l0 k (pre ++ suf) (done ++ List.replicate suf.length e) (pre.length : Int)) (done ++ suf.map c95) := by
  induction suf with
  | nil =>
    intro pre done e hd _ hn
    refine Ev.shift ?_
    simp only [laws_toSisLibS.l0, List.length_nil, List.replicate_zero, List.append_nil, List.map_nil, if_neg (show ¬ (pre.length : Int) < (pre.length : Int) by omega)]
    exact Ev.now _
  | cons s suf ih =>
    intro pre done e hd hb hn
    refine Ev.shift ?_
    have h1 := toStr s.f1 (hb s (by simp))
    have hlt : (pre.length : Int) < ((done ++ List.replicate (s :: suf).length e).length : Int) := by simp; omega
    simp only [laws_toSisLibS.l0, laws_toSisLib.f, if_pos (mid_lt pre suf s), if_pos (Int.natCast_nonneg pre.length), rd95, if_pos hlt, next_i pre suf s hn]
    refine Ev.bind (a := (s.f0, s.f1, s.f2)) ?_ ?_
    · refine Ev.bind h1 ?_
      exact Ev.now _
    · have hset : (done ++ List.replicate (s :: suf).length e).set (pre.length : Int).toNat (⟨s.f0, s.f1, s.f2⟩ : S68) = (done ++ [c95 s]) ++ List.replicate suf.length e := by
        rw [List.length_cons, List.replicate_succ]
        exact set_mid' done _ e _ _ hd
      rw [hset, mid_assoc pre suf s]
      have := ih (pre ++ [s]) (done ++ [c95 s]) e (by simp [hd]) (fun x hx => hb x (List.mem_cons_of_mem _ hx)) (by simpa using hn)
      simpa using this
theorem conv_ok (l : List S95) (hn : l.length ≤ 1048576) (hb : ∀ x ∈ l, x.f1.length ≤ 1048576) : Ev (fun k => laws_toSisLibS.f k l) (l.map c95) := by
  have hle : l.length ≤ 5026338869833 := by omega
  simp only [laws_toSisLibS.f, if_pos (Int.natCast_nonneg l.length), Int.toNat_natCast, if_pos hle]
  have := conv_loop l [] [] z68 rfl hb (by simp; omega)
  simpa using this
theorem eqLib_loop (suf : List S68) : ∀ (pre : List S68), (∀ x ∈ suf, x.f1.length ≤ 1048576) → (pre ++ suf).length ≤ 9223372036854775807 → Ev (fun k => laws_eqSisLibS.l0 k (pre ++ suf) (pre ++ suf) (pre.length : Int)) true := by
  induction suf with
  | nil =>
    intro pre _ hn
    refine Ev.shift ?_
    simp only [laws_eqSisLibS.l0, if_neg (mid_not_lt pre)]
    exact Ev.now _
  | cons s suf ih =>
    intro pre hb hn
    refine Ev.shift ?_
    simp only [laws_eqSisLibS.l0, laws_eqSisLib.f, if_pos (mid_lt pre suf s), if_pos (Int.natCast_nonneg pre.length), rd68, if_true]
    refine Ev.bind (a := true) ?_ ?_
    · refine Ev.bind (eqStr s.f1 (hb s (by simp))) ?_
      simp only [if_true]
      exact Ev.now _
    · simp only [if_true, next_i pre suf s hn]
      rw [mid_assoc pre suf s]
      exact ih (pre ++ [s]) (fun x hx => hb x (List.mem_cons_of_mem _ hx)) (by simpa using hn)
theorem eqLib (l : List S68) (hn : l.length ≤ 1048576) (hb : ∀ x ∈ l, x.f1.length ≤ 1048576) : Ev (fun k => laws_eqSisLibS.f k l l) true := by
  simp only [laws_eqSisLibS.f, if_true]
  exact eqLib_loop l [] hb (by simp; omega)
/-! ### names -/
def good (c : Int) : Bool := if c ≥ 97 then (if c ≤ 122 then true else (if c ≥ 48 then decide (c ≤ 57) else false)) else (if c ≥ 48 then decide (c ≤ 57) else false)
def okName (s : ByteArray) : Bool := decide ((s.size : Int) ≥ 1) && (decide ((s.size : Int) ≤ 12) && (bytesOf s).all good)
theorem bt_split {s : ByteArray} {pre suf : List Int} {c : Int} (h : pre ++ c :: suf = bytesOf s) : bt s (pre.length : Int) = c := by
  rw [← rd_bytesOf, ← h]
  exact rd_mid pre suf c
theorem sz_mid {s : ByteArray} {pre suf : List Int} {c : Int} (h : pre ++ c :: suf = bytesOf s) : (pre.length : Int) < (s.size : Int) := by
  rw [← bytesOf_length, ← h]
  simp
  omega
theorem sz_end {s : ByteArray} {pre : List Int} (h : pre ++ [] = bytesOf s) : ¬ (pre.length : Int) < (s.size : Int) := by
  rw [← bytesOf_length, ← h]
  simp
theorem name_spec_loop (s : ByteArray) (hs : s.size ≤ 12) (suf : List Int) : ∀ pre, pre ++ suf = bytesOf s → Ev (fun k => spec_l63NameOk.l0 k s (pre.length : Int)) (suf.all good) := by
  induction suf with
  | nil =>
    intro pre h
    refine Ev.shift ?_
    simp only [spec_l63NameOk.l0, if_neg (sz_end h), List.all_nil]
    exact Ev.now _
  | cons c suf ih =>
    intro pre h
    have hlt := sz_mid h
    have hw : wrap64 ((pre.length : Int) + 1) = ((pre ++ [c]).length : Int) := by rw [wrap64_eq (by omega) (by omega)]; simp
    have hr := ih (pre ++ [c]) (by rw [← h]; simp)
    refine Ev.shift ?_
    simp only [spec_l63NameOk.l0, if_pos hlt, if_pos (Int.natCast_nonneg pre.length), bt_split h, hw, List.all_cons]
    unfold good
    by_cases h1 : c ≥ 97
    · by_cases h2 : c ≤ 122
      · simp only [if_pos h1, if_pos h2, Bool.true_and]; exact hr
      · by_cases h3 : c ≥ 48
        · have h4 : ¬ c ≤ 57 := by omega
          simp only [if_pos h1, if_neg h2, if_pos h3, if_neg h4, decide_eq_false h4, Bool.false_and]; exact Ev.now _
        · exact absurd h1 (by omega)
    · by_cases h3 : c ≥ 48
      · by_cases h4 : c ≤ 57
        · simp only [if_neg h1, if_pos h3, if_pos h4, decide_eq_true h4, Bool.true_and]; exact hr
        · simp only [if_neg h1, if_pos h3, if_neg h4, decide_eq_false h4, Bool.false_and]; exact Ev.now _
      · simp only [if_neg h1, if_neg h3, Bool.false_and]; exact Ev.now _
theorem name_impl_loop (s : ByteArray) (hs : s.size ≤ 12) (suf : List Int) : ∀ pre, pre ++ suf = bytesOf s → Ev (fun k => impl_sisName.l0 k s (pre.length : Int)) (suf.all good) := by
  induction suf with
  | nil =>
    intro pre h
    refine Ev.shift ?_
    simp only [impl_sisName.l0, if_neg (sz_end h), List.all_nil]
    exact Ev.now _
  | cons c suf ih =>
    intro pre h
    have hlt := sz_mid h
    have hw : wrap64 ((pre.length : Int) + 1) = ((pre ++ [c]).length : Int) := by rw [wrap64_eq (by omega) (by omega)]; simp
    have hr := ih (pre ++ [c]) (by rw [← h]; simp)
    refine Ev.shift ?_
    simp only [impl_sisName.l0, if_pos hlt, if_pos (Int.natCast_nonneg pre.length), bt_split h, hw, List.all_cons]
    unfold good
    by_cases h1 : c ≥ 97
    · by_cases h2 : c ≤ 122
      · simp only [if_pos h1, if_pos h2, Bool.true_and]; exact hr
      · by_cases h3 : c ≥ 48
        · have h4 : ¬ c ≤ 57 := by omega
          simp only [if_pos h1, if_neg h2, if_pos h3, if_neg h4, decide_eq_false h4, Bool.false_and]; exact Ev.now _
        · exact absurd h1 (by omega)
    · by_cases h3 : c ≥ 48
      · by_cases h4 : c ≤ 57
        · simp only [if_neg h1, if_pos h3, if_pos h4, decide_eq_true h4, Bool.true_and]; exact hr
        · simp only [if_neg h1, if_pos h3, if_neg h4, decide_eq_false h4, Bool.false_and]; exact Ev.now _
      · simp only [if_neg h1, if_neg h3, Bool.false_and]; exact Ev.now _
theorem name_spec (s : ByteArray) : Ev (fun k => spec_l63NameOk.f k s) (okName s) := by
  simp only [spec_l63NameOk.f, spec_l1In.f]
  unfold okName
  by_cases h1 : (s.size : Int) ≥ 1
  · by_cases h2 : (s.size : Int) ≤ 12
    · simp only [if_pos h1, decide_eq_true h1, decide_eq_true h2, Option.bind_some, if_true, Bool.true_and]
      exact name_spec_loop s (by omega) (bytesOf s) [] rfl
    · simp only [if_pos h1, decide_eq_true h1, decide_eq_false h2, Option.bind_some, Bool.false_eq_true, if_false, Bool.true_and, Bool.false_and]
      exact Ev.now _
  · simp only [if_neg h1, decide_eq_false h1, Option.bind_some, Bool.false_eq_true, if_false, Bool.false_and]
    exact Ev.now _
theorem name_impl (s : ByteArray) : Ev (fun k => impl_sisName.f k s) (okName s) := by
  simp only [impl_sisName.f]
  unfold okName
  by_cases h1 : (s.size : Int) ≥ 1
  · by_cases h2 : (s.size : Int) ≤ 12
    · simp only [if_neg (show ¬ (s.size : Int) < 1 by omega), decide_eq_true h1, decide_eq_true h2, decide_eq_false (show ¬ (s.size : Int) > 12 by omega), Bool.true_and]
      refine Ev.shift ?_
      simp only [impl_sisName.j0, Bool.false_eq_true, if_false]
      exact name_impl_loop s (by omega) (bytesOf s) [] rfl
    · simp only [if_neg (show ¬ (s.size : Int) < 1 by omega), decide_eq_true h1, decide_eq_false h2, decide_eq_true (show (s.size : Int) > 12 by omega), Bool.true_and, Bool.false_and]
      refine Ev.shift ?_
      simp only [impl_sisName.j0, if_true]
      exact Ev.now _
  · simp only [if_pos (show (s.size : Int) < 1 by omega), decide_eq_false h1, Bool.false_and]
    refine Ev.shift ?_
    simp only [impl_sisName.j0, if_true]
    exact Ev.now _
/-! ### where a name stands -/
def atR (n : ByteArray) : List S68 → Int → Int
  | [], _ => -1
  | x :: l, i => if x.f0.toList = n.toList then i else atR n l (i + 1)
def at0 (l : List S68) (n : ByteArray) : Int := atR n l 0
theorem at_spec_loop (n : ByteArray) (suf : List S68) : ∀ pre : List S68, (pre ++ suf).length ≤ 1048576 → Ev (fun k => spec_l63At.l0 k (pre ++ suf) n (pre.length : Int)) (atR n suf (pre.length : Int)) := by
  induction suf with
  | nil =>
    intro pre hn
    refine Ev.shift ?_
    simp only [spec_l63At.l0, if_neg (mid_not_lt pre), atR]
    exact Ev.now _
  | cons s suf ih =>
    intro pre hn
    have hnx := next_i pre suf s (by omega)
    refine Ev.shift ?_
    simp only [spec_l63At.l0, if_pos (mid_lt pre suf s), if_pos (Int.natCast_nonneg pre.length), rd68, hnx, atR]
    by_cases h : s.f0.toList = n.toList
    · simp only [if_pos h]; exact Ev.now _
    · simp only [if_neg h]
      rw [mid_assoc pre suf s, ← len_snoc pre s]
      exact ih (pre ++ [s]) (by simpa using hn)
theorem at_spec (l : List S68) (n : ByteArray) (hn : l.length ≤ 1048576) : Ev (fun k => spec_l63At.f k l n) (at0 l n) := at_spec_loop n l [] hn
theorem at_impl_loop (n : ByteArray) (suf : List S68) : ∀ pre : List S68, (pre ++ suf).length ≤ 1048576 → Ev (fun k => impl_SisLib.l0 k (pre ++ suf) n ((pre ++ suf).length : Int) (pre.length : Int)) (atR n suf (pre.length : Int)) := by
  induction suf with
  | nil =>
    intro pre hn
    refine Ev.shift ?_
    simp only [impl_SisLib.l0, if_neg (mid_not_lt pre), atR]
    exact Ev.now _
  | cons s suf ih =>
    intro pre hn
    have hnx := next_i pre suf s (by omega)
    refine Ev.shift ?_
    simp only [impl_SisLib.l0, sisAt_1.f, if_pos (mid_lt pre suf s), if_pos (Int.natCast_nonneg pre.length), rd68, hnx, atR, Option.bind_some, beq_iff_eq]
    by_cases h : s.f0.toList = n.toList
    · simp only [if_pos h]; exact Ev.now _
    · simp only [if_neg h]
      rw [mid_assoc pre suf s, ← len_snoc pre s]
      exact ih (pre ++ [s]) (by simpa using hn)
theorem at_impl (l : List S68) (n : ByteArray) (hn : l.length ≤ 1048576) : Ev (fun k => impl_sisAt.f k l n) (at0 l n) := by
  simp only [impl_sisAt.f, impl_SisLib.f]
  refine Ev.bind (at_impl_loop n l [] hn) ?_
  exact Ev.now _
/-! ### what is in a list -/
def has (l : List ByteArray) (a : ByteArray) : Bool := l.any (fun x => decide (x.toList = a.toList))
theorem has_spec_loop (a : ByteArray) (suf : List ByteArray) : ∀ pre : List ByteArray, (pre ++ suf).length ≤ 1048576 → Ev (fun k => spec_l63Has.l0 k (pre ++ suf) a (pre.length : Int)) (has suf a) := by
  induction suf with
  | nil =>
    intro pre hn
    refine Ev.shift ?_
    simp only [spec_l63Has.l0, if_neg (mid_not_lt pre), has, List.any_nil]
    exact Ev.now _
  | cons s suf ih =>
    intro pre hn
    have hnx := next_i pre suf s (by omega)
    refine Ev.shift ?_
    simp only [spec_l63Has.l0, if_pos (mid_lt pre suf s), if_pos (Int.natCast_nonneg pre.length), rdOf_mid, hnx, has, List.any_cons]
    by_cases h : s.toList = a.toList
    · simp only [if_pos h, decide_eq_true h, Bool.true_or]; exact Ev.now _
    · simp only [if_neg h, decide_eq_false h, Bool.false_or]
      rw [mid_assoc pre suf s]
      exact ih (pre ++ [s]) (by simpa using hn)
theorem has_spec (l : List ByteArray) (a : ByteArray) (hn : l.length ≤ 1048576) : Ev (fun k => spec_l63Has.f k l a) (has l a) := has_spec_loop a l [] hn
theorem has_impl_loop (a : ByteArray) (suf : List ByteArray) : ∀ pre : List ByteArray, (pre ++ suf).length ≤ 1048576 → ∃ r, Ev (fun k => slices_Index_string_string.l0 k (pre ++ suf) a ((pre ++ suf).length : Int) (pre.length : Int)) r ∧ decide (r ≥ 0) = has suf a := by
  induction suf with
  | nil =>
    intro pre hn
    refine ⟨-1, Ev.shift ?_, rfl⟩
    simp only [slices_Index_string_string.l0, if_neg (mid_not_lt pre)]
    exact Ev.now _
  | cons s suf ih =>
    intro pre hn
    have hnx := next_i pre suf s (by omega)
    by_cases h : s.toList = a.toList
    · refine ⟨(pre.length : Int), Ev.shift ?_, by simp only [has, List.any_cons, decide_eq_true h, Bool.true_or]; exact decide_eq_true (by omega)⟩
      simp only [slices_Index_string_string.l0, if_pos (mid_lt pre suf s), if_pos (Int.natCast_nonneg pre.length), rdOf_mid, if_pos h.symm]
      exact Ev.now _
    · obtain ⟨r, hr, e⟩ := ih (pre ++ [s]) (by simpa using hn)
      refine ⟨r, Ev.shift ?_, by simp only [has, List.any_cons, decide_eq_false h, Bool.false_or]; exact e⟩
      simp only [slices_Index_string_string.l0, if_pos (mid_lt pre suf s), if_pos (Int.natCast_nonneg pre.length), rdOf_mid, if_neg (show ¬ a.toList = s.toList from fun e => h e.symm), hnx]
      rw [mid_assoc pre suf s]
      exact hr
theorem has_impl (l : List ByteArray) (a : ByteArray) (hn : l.length ≤ 1048576) : Ev (fun k => slices_Contains_string_string.f k l a) (has l a) := by
  obtain ⟨r, hr, e⟩ := has_impl_loop a l [] hn
  simp only [slices_Contains_string_string.f, slices_Index_string_string.f]
  refine Ev.bind hr ?_
  rw [← e]
  exact Ev.now _
def allIn (a b : List ByteArray) : Bool := a.all (fun x => has b x)
theorem all_spec_loop (b : List ByteArray) (hb : b.length ≤ 1048576) (suf : List ByteArray) : ∀ pre : List ByteArray, (pre ++ suf).length ≤ 1048576 → Ev (fun k => spec_l63All.l0 k (pre ++ suf) b (pre.length : Int)) (allIn suf b) := by
  induction suf with
  | nil =>
    intro pre hn
    refine Ev.shift ?_
    simp only [spec_l63All.l0, if_neg (mid_not_lt pre), allIn, List.all_nil]
    exact Ev.now _
  | cons s suf ih =>
    intro pre hn
    have hnx := next_i pre suf s (by omega)
    refine Ev.shift ?_
    simp only [spec_l63All.l0, if_pos (mid_lt pre suf s), if_pos (Int.natCast_nonneg pre.length), rdOf_mid, hnx, allIn, List.all_cons]
    refine Ev.bind (has_spec b s hb) ?_
    cases has b s with
    | true =>
      simp only [if_true, Bool.true_and]
      rw [mid_assoc pre suf s]
      exact ih (pre ++ [s]) (by simpa using hn)
    | false =>
      simp only [Bool.false_eq_true, if_false, Bool.false_and]
      exact Ev.now _
theorem all_spec (a b : List ByteArray) (ha : a.length ≤ 1048576) (hb : b.length ≤ 1048576) : Ev (fun k => spec_l63All.f k a b) (allIn a b) := all_spec_loop b hb a [] ha
theorem all_impl_loop (b : List ByteArray) (hb : b.length ≤ 1048576) (suf : List ByteArray) : ∀ pre : List ByteArray, (pre ++ suf).length ≤ 1048576 → ∃ r, Ev (fun k => slices_IndexFunc_string_string.l0 k (pre ++ suf) b ((pre ++ suf).length : Int) (pre.length : Int)) r ∧ decide (r ≥ 0) = !(allIn suf b) := by
  induction suf with
  | nil =>
    intro pre hn
    refine ⟨-1, Ev.shift ?_, rfl⟩
    simp only [slices_IndexFunc_string_string.l0, if_neg (mid_not_lt pre)]
    exact Ev.now _
  | cons s suf ih =>
    intro pre hn
    have hnx := next_i pre suf s (by omega)
    have hs : Ev (fun k => sisOrder_1.f k s b) (!(has b s)) := by
      simp only [sisOrder_1.f]
      refine Ev.bind (has_impl b s hb) ?_
      exact Ev.now _
    by_cases h : has b s = true
    · obtain ⟨r, hr, e⟩ := ih (pre ++ [s]) (by simpa using hn)
      refine ⟨r, Ev.shift ?_, by simp only [allIn, List.all_cons, h, Bool.true_and]; exact e⟩
      simp only [slices_IndexFunc_string_string.l0, if_pos (mid_lt pre suf s), if_pos (Int.natCast_nonneg pre.length), rdOf_mid, hnx]
      refine Ev.bind hs ?_
      simp only [h, Bool.not_true, Bool.false_eq_true, if_false]
      rw [mid_assoc pre suf s]
      exact hr
    · refine ⟨(pre.length : Int), Ev.shift ?_, by simp only [allIn, List.all_cons, Bool.not_eq_true _ |>.mp h, Bool.false_and, Bool.not_false]; exact decide_eq_true (by omega)⟩
      simp only [slices_IndexFunc_string_string.l0, if_pos (mid_lt pre suf s), if_pos (Int.natCast_nonneg pre.length), rdOf_mid]
      refine Ev.bind hs ?_
      simp only [Bool.not_eq_true _ |>.mp h, Bool.not_false, if_true]
      exact Ev.now _
theorem all_impl (a b : List ByteArray) (ha : a.length ≤ 1048576) (hb : b.length ≤ 1048576) : Ev (fun k => slices_ContainsFunc_string_string.f k a b) (!(allIn a b)) := by
  obtain ⟨r, hr, e⟩ := all_impl_loop b hb a [] ha
  simp only [slices_ContainsFunc_string_string.f, slices_IndexFunc_string_string.f]
  refine Ev.bind hr ?_
  rw [← e]
  exact Ev.now _
/-! ### the next one -/
def cand (out : List ByteArray) (next : ByteArray) (x : S68) : ByteArray :=
  if has out x.f0 = true then next else if allIn x.f1 out = true then (if next.toList = ([] : List UInt8) then x.f0 else if Op.bytesLess x.f0.toList next.toList = true then x.f0 else next) else next
def nextOf (libs : List S68) (out : List ByteArray) : ByteArray := libs.foldl (cand out) (⟨#[]⟩ : ByteArray)
theorem next_spec_loop (out : List ByteArray) (ho : out.length ≤ 1048576) (suf : List S68) : ∀ (pre : List S68) (cur : ByteArray), (∀ x ∈ suf, x.f1.length ≤ 1048576) → (pre ++ suf).length ≤ 1048576 →
    Ev (fun k => spec_l63Next.l0 k (pre ++ suf) out cur (pre.length : Int)) (suf.foldl (cand out) cur) := by
  induction suf with
  | nil =>
    intro pre cur _ hn
    refine Ev.shift ?_
    simp only [spec_l63Next.l0, if_neg (mid_not_lt pre), List.foldl_nil]
    exact Ev.now _
  | cons s suf ih =>
    intro pre cur hb hn
    have hnx := next_i pre suf s (by omega)
    have key : ∀ c, Ev (fun k => spec_l63Next.l0 k (pre ++ s :: suf) out c (wrap64 ((pre.length : Int) + 1))) (suf.foldl (cand out) c) := by
      intro c
      rw [hnx, mid_assoc pre suf s]
      exact ih (pre ++ [s]) c (fun x hx => hb x (List.mem_cons_of_mem _ hx)) (by simpa using hn)
    refine Ev.shift ?_
    simp only [spec_l63Next.l0, if_pos (mid_lt pre suf s), if_pos (Int.natCast_nonneg pre.length), rd68, List.foldl_cons]
    refine Ev.bind (has_spec out s.f0 ho) ?_
    by_cases h1 : has out s.f0 = true
    · rw [show cand out cur s = cur from by unfold cand; rw [if_pos h1]]
      simp only [if_pos h1]
      exact key _
    · simp only [if_neg h1]
      refine Ev.bind (all_spec s.f1 out (hb s (by simp)) ho) ?_
      by_cases h2 : allIn s.f1 out = true
      · simp only [if_pos h2]
        by_cases h3 : cur.toList = ([] : List UInt8)
        · rw [show cand out cur s = s.f0 from by unfold cand; rw [if_neg h1, if_pos h2, if_pos h3]]
          simp only [if_pos h3]
          exact key _
        · by_cases h4 : Op.bytesLess s.f0.toList cur.toList = true
          · rw [show cand out cur s = s.f0 from by unfold cand; rw [if_neg h1, if_pos h2, if_neg h3, if_pos h4]]
            simp only [if_neg h3, if_pos h4]
            exact key _
          · rw [show cand out cur s = cur from by unfold cand; rw [if_neg h1, if_pos h2, if_neg h3, if_neg h4]]
            simp only [if_neg h3, if_neg h4]
            exact key _
      · rw [show cand out cur s = cur from by unfold cand; rw [if_neg h1, if_neg h2]]
        simp only [if_neg h2]
        exact key _
theorem next_spec (libs : List S68) (out : List ByteArray) (ho : out.length ≤ 1048576) (hb : ∀ x ∈ libs, x.f1.length ≤ 1048576) (hn : libs.length ≤ 1048576) : Ev (fun k => spec_l63Next.f k libs out) (nextOf libs out) :=
  next_spec_loop out ho libs [] (⟨#[]⟩ : ByteArray) hb hn
theorem same_order {a b : ByteArray} (h1 : ¬ Op.bytesLess a.toList b.toList = true) (h2 : ¬ Op.bytesLess b.toList a.toList = true) : a = b := by
  have h := less_other a.toList b.toList
  rw [Bool.not_eq_true _ |>.mp h1, Bool.not_eq_true _ |>.mp h2] at h
  refine toList_inj ?_
  simpa using h
def fin (libs : List S68) (out : List ByteArray) (k : Nat) (t : ByteArray) : Option (List ByteArray × Int) :=
  if t.toList = ([] : List UInt8) then (some (([] : List ByteArray), 4)) else (if out.length < 8796093022208 then (impl_SisOrder.l4 k libs (out ++ [t])) else none)
theorem next_impl_loop (libs : List S68) (out : List ByteArray) (ho : out.length ≤ 1048576) (res : List ByteArray × Int) (suf : List S68) : ∀ (pre : List S68) (cur : ByteArray), (∀ x ∈ suf, x.f1.length ≤ 1048576) → (pre ++ suf).length ≤ 1048576 →
    Ev (fun k => fin libs out k (suf.foldl (cand out) cur)) res → Ev (fun k => impl_SisOrder.l5 k libs out cur (pre ++ suf) ((pre ++ suf).length : Int) (pre.length : Int)) res := by
  induction suf with
  | nil =>
    intro pre cur _ hn hf
    refine Ev.shift ?_
    simp only [impl_SisOrder.l5, if_neg (mid_not_lt pre)]
    exact hf
  | cons s suf ih =>
    intro pre cur hb hn hf
    have hnx := next_i pre suf s (by omega)
    simp only [List.foldl_cons] at hf
    have key : ∀ c, c = cand out cur s → Ev (fun k => impl_SisOrder.l5 k libs out c (pre ++ s :: suf) ((pre ++ s :: suf).length : Int) (wrap64 ((pre.length : Int) + 1))) res := by
      rintro c rfl
      rw [hnx, mid_assoc pre suf s]
      exact ih (pre ++ [s]) _ (fun x hx => hb x (List.mem_cons_of_mem _ hx)) (by simpa using hn) hf
    refine Ev.shift ?_
    simp only [impl_SisOrder.l5, if_pos (mid_lt pre suf s), if_pos (Int.natCast_nonneg pre.length), rd68]
    refine Ev.bind (has_impl out s.f0 ho) ?_
    by_cases h1 : has out s.f0 = true
    · simp only [if_pos h1]
      exact key _ (by unfold cand; rw [if_pos h1])
    · simp only [if_neg h1]
      have hall := all_impl s.f1 out (hb s (by simp)) ho
      by_cases h3 : cur.toList = ([] : List UInt8)
      · simp only [if_pos h3]
        refine Ev.bind hall ?_
        by_cases h2 : allIn s.f1 out = true
        · simp only [h2, Bool.not_true, Bool.false_eq_true, if_false]
          exact key _ (by unfold cand; rw [if_neg h1, if_pos h2, if_pos h3])
        · simp only [Bool.not_eq_true _ |>.mp h2, Bool.not_false, if_true]
          exact key _ (by unfold cand; rw [if_neg h1, if_neg h2])
      · simp only [if_neg h3]
        by_cases h5 : Op.bytesLess cur.toList s.f0.toList = true
        · simp only [if_pos h5]
          refine key _ ?_
          unfold cand
          rw [if_neg h1]
          by_cases h2 : allIn s.f1 out = true
          · rw [if_pos h2, if_neg h3]
            by_cases h4 : Op.bytesLess s.f0.toList cur.toList = true
            · have h := less_other cur.toList s.f0.toList
              rw [h4, h5] at h
              simp at h
            · rw [if_neg h4]
          · rw [if_neg h2]
        · simp only [if_neg h5]
          refine Ev.bind hall ?_
          by_cases h2 : allIn s.f1 out = true
          · simp only [h2, Bool.not_true, Bool.false_eq_true, if_false]
            refine key _ ?_
            unfold cand
            rw [if_neg h1, if_pos h2, if_neg h3]
            by_cases h4 : Op.bytesLess s.f0.toList cur.toList = true
            · rw [if_pos h4]
            · rw [if_neg h4]
              exact same_order h4 h5
          · simp only [Bool.not_eq_true _ |>.mp h2, Bool.not_false, if_true]
            exact key _ (by unfold cand; rw [if_neg h1, if_neg h2])
/-- The order, from a beginning on. -/
def ordL (libs : List S68) : Nat → List ByteArray → List ByteArray × Int
  | 0, out => (out, 0)
  | n + 1, out => if (nextOf libs out).toList = ([] : List UInt8) then ([], 4) else ordL libs n (out ++ [nextOf libs out])
theorem ordL_length (libs : List S68) (n : Nat) : ∀ out, (ordL libs n out).1.length ≤ out.length + n := by
  induction n with
  | zero => intro out; exact Nat.le_refl _
  | succ n ih =>
    intro out
    unfold ordL
    split
    · simp
    · have := ih (out ++ [nextOf libs out])
      simp at this
      omega
theorem ord_spec (libs : List S68) (hl : libs.length ≤ 8) (hb : ∀ x ∈ libs, x.f1.length ≤ 1048576) (n : Nat) : ∀ out : List ByteArray, out.length + n = libs.length → Ev (fun k => spec_SisOrder.l0 k libs out) (ordL libs n out) := by
  induction n with
  | zero =>
    intro out h
    refine Ev.shift ?_
    simp only [spec_SisOrder.l0, if_neg (show ¬ (out.length : Int) < (libs.length : Int) by omega), ordL]
    exact Ev.now _
  | succ n ih =>
    intro out h
    refine Ev.shift ?_
    simp only [spec_SisOrder.l0, if_pos (show (out.length : Int) < (libs.length : Int) by omega), ordL]
    refine Ev.bind (next_spec libs out (by omega) hb (by omega)) ?_
    by_cases h1 : (nextOf libs out).toList = ([] : List UInt8)
    · simp only [if_pos h1]; exact Ev.now _
    · simp only [if_neg h1, if_pos (show out.length < 8796093022208 by omega)]
      exact ih _ (by simp; omega)
theorem ord_impl (libs : List S68) (hl : libs.length ≤ 8) (hb : ∀ x ∈ libs, x.f1.length ≤ 1048576) (n : Nat) : ∀ out : List ByteArray, out.length + n = libs.length → Ev (fun k => impl_SisOrder.l4 k libs out) (ordL libs n out) := by
  induction n with
  | zero =>
    intro out h
    refine Ev.shift ?_
    simp only [impl_SisOrder.l4, if_neg (show ¬ (out.length : Int) < (libs.length : Int) by omega), ordL]
    exact Ev.now _
  | succ n ih =>
    intro out h
    refine Ev.shift ?_
    simp only [impl_SisOrder.l4, if_pos (show (out.length : Int) < (libs.length : Int) by omega), ordL]
    refine next_impl_loop libs out (by omega) _ libs [] (⟨#[]⟩ : ByteArray) hb (by simp; omega) ?_
    show Ev (fun k => fin libs out k (nextOf libs out)) _
    unfold fin
    by_cases h1 : (nextOf libs out).toList = ([] : List UInt8)
    · simp only [if_pos h1]; exact Ev.now _
    · simp only [if_neg h1, if_pos (show out.length < 8796093022208 by omega)]
      exact ih _ (by simp; omega)
/-! ### what is wrong -/
def namesOk (l : List S68) : Bool := l.all (fun x => okName x.f0)
def dupOk (libs : List S68) : List S68 → Int → Bool
  | [], _ => true
  | x :: l, i => decide (at0 libs x.f0 = i) && dupOk libs l (i + 1)
def needs1 (libs : List S68) (l : List ByteArray) : Bool := l.all (fun n => !(decide (at0 libs n < 0)))
def needOk (libs : List S68) (l : List S68) : Bool := l.all (fun x => needs1 libs x.f1)
def wrong (libs : List S68) : Int := if namesOk libs = true then (if dupOk libs libs 0 = true then (if needOk libs libs = true then 0 else 3) else 2) else 1
theorem wN_spec (r : Int) (suf : List S68) : ∀ pre : List S68, (pre ++ suf).length ≤ 8 → Ev (fun k => spec_l63Wrong.l1 k (pre ++ suf) 0) r → Ev (fun k => spec_l63Wrong.l0 k (pre ++ suf) (pre.length : Int)) (if namesOk suf = true then r else 1) := by
  induction suf with
  | nil =>
    intro pre hn hr
    refine Ev.shift ?_
    simp only [spec_l63Wrong.l0, if_neg (mid_not_lt pre), namesOk, List.all_nil, if_true]
    exact hr
  | cons s suf ih =>
    intro pre hn hr
    have hnx := next_i pre suf s (by omega)
    refine Ev.shift ?_
    simp only [spec_l63Wrong.l0, if_pos (mid_lt pre suf s), if_pos (Int.natCast_nonneg pre.length), rd68, hnx, namesOk, List.all_cons]
    refine Ev.bind (name_spec s.f0) ?_
    by_cases h : okName s.f0 = true
    · simp only [h, if_true, Bool.true_and]
      rw [mid_assoc pre suf s] at hr ⊢
      exact ih (pre ++ [s]) (by simpa using hn) hr
    · simp only [Bool.not_eq_true _ |>.mp h, Bool.false_eq_true, if_false, Bool.false_and]
      exact Ev.now _
theorem wD_spec (libs : List S68) (r : Int) (suf : List S68) : ∀ pre : List S68, libs = pre ++ suf → libs.length ≤ 8 → Ev (fun k => spec_l63Wrong.l2 k libs 0) r → Ev (fun k => spec_l63Wrong.l1 k libs (pre.length : Int)) (if dupOk libs suf (pre.length : Int) = true then r else 2) := by
  induction suf with
  | nil =>
    intro pre he hn hr
    refine Ev.shift ?_
    simp only [spec_l63Wrong.l1, if_neg (show ¬ (pre.length : Int) < (libs.length : Int) by rw [he]; simp), dupOk, if_true]
    exact hr
  | cons s suf ih =>
    intro pre he hn hr
    have hnx := next_i pre suf s (by rw [← he]; omega)
    have hlt : (pre.length : Int) < (libs.length : Int) := by rw [he]; exact mid_lt pre suf s
    have hrd : rd_T68 libs (pre.length : Int) = s := by rw [he]; exact rd68 pre suf s
    refine Ev.shift ?_
    simp only [spec_l63Wrong.l1, if_pos hlt, if_pos (Int.natCast_nonneg pre.length), hrd, hnx, dupOk]
    refine Ev.bind (at_spec libs s.f0 (by omega)) ?_
    by_cases h : at0 libs s.f0 = (pre.length : Int)
    · simp only [if_pos h, decide_eq_true h, Bool.true_and]
      rw [← len_snoc pre s]
      exact ih (pre ++ [s]) (by rw [he]; simp) hn hr
    · simp only [if_neg h, decide_eq_false h, Bool.false_and, Bool.false_eq_true, if_false]
      exact Ev.now _
theorem w3_spec (libs : List S68) (hn : libs.length ≤ 8) (pl sl : List S68) (s : S68) (he : libs = pl ++ s :: sl) (r : Int) (hr : Ev (fun k => spec_l63Wrong.l2 k libs (wrap64 ((pl.length : Int) + 1))) r) (suf : List ByteArray) : ∀ pre : List ByteArray, s.f1 = pre ++ suf → s.f1.length ≤ 1048576 →
    Ev (fun k => spec_l63Wrong.l3 k libs (pl.length : Int) (pre.length : Int)) (if needs1 libs suf = true then r else 3) := by
  have hlt : (pl.length : Int) < (libs.length : Int) := by rw [he]; exact mid_lt pl sl s
  have hrd : rd_T68 libs (pl.length : Int) = s := by rw [he]; exact rd68 pl sl s
  induction suf with
  | nil =>
    intro pre hs hb
    refine Ev.shift ?_
    simp only [spec_l63Wrong.l3, if_pos hlt, if_pos (Int.natCast_nonneg pl.length), hrd, if_neg (show ¬ (pre.length : Int) < (s.f1.length : Int) by rw [hs]; simp), needs1, List.all_nil, if_true]
    exact hr
  | cons n suf ih =>
    intro pre hs hb
    have hnx := next_i pre suf n (by rw [← hs]; omega)
    have hlt2 : (pre.length : Int) < (s.f1.length : Int) := by rw [hs]; exact mid_lt pre suf n
    have hrd2 : rdOf ByteArray.empty s.f1 (pre.length : Int) = n := by rw [hs]; exact rdOf_mid _ pre suf n
    refine Ev.shift ?_
    simp only [spec_l63Wrong.l3, if_pos hlt, if_pos (Int.natCast_nonneg pl.length), hrd, if_pos hlt2, if_pos (Int.natCast_nonneg pre.length), hrd2, hnx, needs1, List.all_cons]
    refine Ev.bind (at_spec libs n (by omega)) ?_
    by_cases h : at0 libs n < 0
    · simp only [if_pos h, decide_eq_true h, Bool.not_true, Bool.false_and, Bool.false_eq_true, if_false]
      exact Ev.now _
    · simp only [if_neg h, decide_eq_false h, Bool.not_false, Bool.true_and]
      exact ih (pre ++ [n]) (by rw [hs]; simp) hb
theorem w2_spec (libs : List S68) (hn : libs.length ≤ 8) (suf : List S68) : ∀ pre : List S68, libs = pre ++ suf → (∀ x ∈ suf, x.f1.length ≤ 1048576) → Ev (fun k => spec_l63Wrong.l2 k libs (pre.length : Int)) (if needOk libs suf = true then 0 else 3) := by
  induction suf with
  | nil =>
    intro pre he _
    refine Ev.shift ?_
    simp only [spec_l63Wrong.l2, if_neg (show ¬ (pre.length : Int) < (libs.length : Int) by rw [he]; simp), needOk, List.all_nil, if_true]
    exact Ev.now _
  | cons s suf ih =>
    intro pre he hb
    have hnx := next_i pre suf s (by rw [← he]; omega)
    have hlt : (pre.length : Int) < (libs.length : Int) := by rw [he]; exact mid_lt pre suf s
    have hr := ih (pre ++ [s]) (by rw [he]; simp) (fun x hx => hb x (List.mem_cons_of_mem _ hx))
    rw [← hnx] at hr
    have := w3_spec libs hn pre suf s he _ hr s.f1 [] rfl (hb s (by simp))
    refine Ev.shift ?_
    simp only [spec_l63Wrong.l2, if_pos hlt]
    have e : (if needOk libs (s :: suf) = true then (0 : Int) else 3) = (if needs1 libs s.f1 = true then (if needOk libs suf = true then 0 else 3) else 3) := by
      have hc : needOk libs (s :: suf) = (needs1 libs s.f1 && needOk libs suf) := rfl
      rw [hc]
      by_cases hq : needs1 libs s.f1 = true
      · rw [hq, Bool.true_and, if_pos rfl]
      · rw [Bool.not_eq_true _ |>.mp hq, Bool.false_and, if_neg (by decide), if_neg (by decide)]
    rw [e]
    exact this
theorem wrong_spec (libs : List S68) (hb : ∀ x ∈ libs, x.f1.length ≤ 1048576) : Ev (fun k => spec_l63Wrong.f k libs) (if (libs.length : Int) > 8 then 5 else wrong libs) := by
  simp only [spec_l63Wrong.f]
  by_cases h : (libs.length : Int) > 8
  · simp only [if_pos h]; exact Ev.now _
  · simp only [if_neg h]
    exact wN_spec _ libs [] (by simp; omega) (wD_spec libs _ libs [] rfl (by omega) (w2_spec libs (by omega) libs [] rfl hb))
theorem iN_impl (r : List ByteArray × Int) (libs : List S68) (suf : List S68) : ∀ pre : List S68, (pre ++ suf).length ≤ 8 → Ev (fun k => impl_SisOrder.l1 k libs libs (libs.length : Int) 0) r → Ev (fun k => impl_SisOrder.l0 k libs (pre ++ suf) ((pre ++ suf).length : Int) (pre.length : Int)) (if namesOk suf = true then r else ([], 1)) := by
  induction suf with
  | nil =>
    intro pre hn hr
    refine Ev.shift ?_
    simp only [impl_SisOrder.l0, if_neg (mid_not_lt pre), namesOk, List.all_nil, if_true]
    exact hr
  | cons s suf ih =>
    intro pre hn hr
    have hnx := next_i pre suf s (by omega)
    refine Ev.shift ?_
    simp only [impl_SisOrder.l0, if_pos (mid_lt pre suf s), if_pos (Int.natCast_nonneg pre.length), rd68, hnx, namesOk, List.all_cons]
    refine Ev.bind (name_impl s.f0) ?_
    by_cases h : okName s.f0 = true
    · simp only [h, if_true, Bool.true_and]
      rw [mid_assoc pre suf s]
      exact ih (pre ++ [s]) (by simpa using hn) hr
    · simp only [Bool.not_eq_true _ |>.mp h, Bool.false_eq_true, if_false, Bool.false_and]
      exact Ev.now _
theorem iD_impl (libs : List S68) (r : List ByteArray × Int) (suf : List S68) : ∀ pre : List S68, libs = pre ++ suf → libs.length ≤ 8 → Ev (fun k => impl_SisOrder.l2 k libs libs (libs.length : Int) 0) r → Ev (fun k => impl_SisOrder.l1 k libs libs (libs.length : Int) (pre.length : Int)) (if dupOk libs suf (pre.length : Int) = true then r else ([], 2)) := by
  induction suf with
  | nil =>
    intro pre he hn hr
    refine Ev.shift ?_
    simp only [impl_SisOrder.l1, if_neg (show ¬ (pre.length : Int) < (libs.length : Int) by rw [he]; simp), dupOk, if_true]
    exact hr
  | cons s suf ih =>
    intro pre he hn hr
    have hnx := next_i pre suf s (by rw [← he]; omega)
    have hlt : (pre.length : Int) < (libs.length : Int) := by rw [he]; exact mid_lt pre suf s
    have hrd : rd_T68 libs (pre.length : Int) = s := by rw [he]; exact rd68 pre suf s
    refine Ev.shift ?_
    simp only [impl_SisOrder.l1, if_pos hlt, if_pos (Int.natCast_nonneg pre.length), hrd, hnx, dupOk]
    refine Ev.bind (at_impl libs s.f0 (by omega)) ?_
    by_cases h : at0 libs s.f0 = (pre.length : Int)
    · simp only [if_pos h, decide_eq_true h, Bool.true_and]
      rw [← len_snoc pre s]
      exact ih (pre ++ [s]) (by rw [he]; simp) hn hr
    · simp only [if_neg h, decide_eq_false h, Bool.false_and, Bool.false_eq_true, if_false]
      exact Ev.now _
theorem i3_impl (libs : List S68) (hn : libs.length ≤ 8) (i : Int) (s : S68) (r : List ByteArray × Int) (hr : Ev (fun k => impl_SisOrder.l2 k libs libs (libs.length : Int) (wrap64 (i + 1))) r) (suf : List ByteArray) : ∀ pre : List ByteArray, s.f1 = pre ++ suf → s.f1.length ≤ 1048576 →
    Ev (fun k => impl_SisOrder.l3 k libs libs (libs.length : Int) i s.f1 (s.f1.length : Int) (pre.length : Int)) (if needs1 libs suf = true then r else ([], 3)) := by
  induction suf with
  | nil =>
    intro pre hs hb
    refine Ev.shift ?_
    simp only [impl_SisOrder.l3, if_neg (show ¬ (pre.length : Int) < (s.f1.length : Int) by rw [hs]; simp), needs1, List.all_nil, if_true]
    exact hr
  | cons n suf ih =>
    intro pre hs hb
    have hnx := next_i pre suf n (by rw [← hs]; omega)
    have hlt2 : (pre.length : Int) < (s.f1.length : Int) := by rw [hs]; exact mid_lt pre suf n
    have hrd2 : rdOf ByteArray.empty s.f1 (pre.length : Int) = n := by rw [hs]; exact rdOf_mid _ pre suf n
    refine Ev.shift ?_
    simp only [impl_SisOrder.l3, if_pos hlt2, if_pos (Int.natCast_nonneg pre.length), hrd2, hnx, needs1, List.all_cons]
    refine Ev.bind (at_impl libs n (by omega)) ?_
    by_cases h : at0 libs n < 0
    · simp only [if_pos h, decide_eq_true h, Bool.not_true, Bool.false_and, Bool.false_eq_true, if_false]
      exact Ev.now _
    · simp only [if_neg h, decide_eq_false h, Bool.not_false, Bool.true_and]
      exact ih (pre ++ [n]) (by rw [hs]; simp) hb
theorem i2_impl (libs : List S68) (hn : libs.length ≤ 8) (r : List ByteArray × Int) (hr : Ev (fun k => impl_SisOrder.l4 k libs ([] : List ByteArray)) r) (suf : List S68) : ∀ pre : List S68, libs = pre ++ suf → (∀ x ∈ suf, x.f1.length ≤ 1048576) → Ev (fun k => impl_SisOrder.l2 k libs libs (libs.length : Int) (pre.length : Int)) (if needOk libs suf = true then r else ([], 3)) := by
  induction suf with
  | nil =>
    intro pre he _
    refine Ev.shift ?_
    simp only [impl_SisOrder.l2, if_neg (show ¬ (pre.length : Int) < (libs.length : Int) by rw [he]; simp), needOk, List.all_nil, if_true]
    exact hr
  | cons s suf ih =>
    intro pre he hb
    have hnx := next_i pre suf s (by rw [← he]; omega)
    have hlt : (pre.length : Int) < (libs.length : Int) := by rw [he]; exact mid_lt pre suf s
    have hrd : rd_T68 libs (pre.length : Int) = s := by rw [he]; exact rd68 pre suf s
    have hr2 := ih (pre ++ [s]) (by rw [he]; simp) (fun x hx => hb x (List.mem_cons_of_mem _ hx))
    rw [← hnx] at hr2
    have := i3_impl libs hn (pre.length : Int) s _ hr2 s.f1 [] rfl (hb s (by simp))
    refine Ev.shift ?_
    simp only [impl_SisOrder.l2, if_pos hlt, if_pos (Int.natCast_nonneg pre.length), hrd]
    have e : (if needOk libs (s :: suf) = true then r else (([] : List ByteArray), (3 : Int))) = (if needs1 libs s.f1 = true then (if needOk libs suf = true then r else ([], 3)) else ([], 3)) := by
      have hc : needOk libs (s :: suf) = (needs1 libs s.f1 && needOk libs suf) := rfl
      rw [hc]
      by_cases hq : needs1 libs s.f1 = true
      · rw [hq, Bool.true_and, if_pos rfl]
      · rw [Bool.not_eq_true _ |>.mp hq, Bool.false_and, if_neg (by decide), if_neg (by decide)]
    rw [e]
    exact this
/-- The order of libraries. -/
def ord (libs : List S68) : List ByteArray × Int :=
  if (libs.length : Int) > 8 then ([], 5) else if namesOk libs = true then (if dupOk libs libs 0 = true then (if needOk libs libs = true then ordL libs libs.length [] else ([], 3)) else ([], 2)) else ([], 1)
theorem order_spec (libs : List S68) (hb : ∀ x ∈ libs, x.f1.length ≤ 1048576) : Ev (fun k => spec_SisOrder.f k libs) (ord libs) := by
  have hw := wrong_spec libs hb
  simp only [spec_SisOrder.f]
  refine Ev.bind hw ?_
  unfold ord
  by_cases h : (libs.length : Int) > 8
  · simp only [if_pos h]
    exact Ev.now _
  simp only [if_neg h, wrong]
  by_cases h1 : namesOk libs = true
  · by_cases h2 : dupOk libs libs 0 = true
    · by_cases h3 : needOk libs libs = true
      · simp only [if_pos h1, if_pos h2, if_pos h3, if_true]
        exact ord_spec libs (by omega) hb libs.length [] (by simp)
      · simp only [if_pos h1, if_pos h2, if_neg h3]
        exact Ev.now _
    · simp only [if_pos h1, if_neg h2]
      exact Ev.now _
  · simp only [if_neg h1]
    exact Ev.now _
theorem order_impl (libs : List S68) (hb : ∀ x ∈ libs, x.f1.length ≤ 1048576) : Ev (fun k => impl_SisOrder.f k libs) (ord libs) := by
  simp only [impl_SisOrder.f]
  unfold ord
  by_cases h : (libs.length : Int) > 8
  · simp only [if_pos h]
    exact Ev.now _
  simp only [if_neg h]
  exact iN_impl _ libs libs [] (by simp; omega) (iD_impl libs _ libs [] rfl (by omega) (i2_impl libs (by omega) _ (ord_impl libs (by omega) hb libs.length [] (by simp)) libs [] rfl hb))
theorem ord_length (libs : List S68) : (ord libs).1.length ≤ 8 := by
  unfold ord
  repeat' split
  all_goals first | (have := ordL_length libs libs.length []; simp at this; omega) | simp
/-! ### marks -/
theorem tdiv_nat (x : Nat) : Int.tdiv (x : Int) 10 = ((x / 10 : Nat) : Int) := by rw [Int.tdiv_eq_ediv_of_nonneg (by omega)]; omega
theorem markText_loop (x : Nat) : ∀ t : ByteArray, x + t.size ≤ 4294967296 → ∃ r, Ev (fun k => laws_markText.l0 k (x : Int) t) r := by
  induction x using Nat.strongRecOn with
  | _ x ih =>
    intro t ht
    by_cases h : 0 < x
    · have hs : (strOfNums [(wrap64 (48 + (Int.tmod (x : Int) 10))) % 256]).size = 1 := by rw [strOfNums_size]; rfl
      obtain ⟨r, hr⟩ := ih (x / 10) (by omega) (strOfNums [(wrap64 (48 + (Int.tmod (x : Int) 10))) % 256] ++ t) (by rw [ByteArray.size_append, hs]; omega)
      refine ⟨r, Ev.shift ?_⟩
      have hw : wrap64 (Int.tdiv (x : Int) 10) = ((x / 10 : Nat) : Int) := by rw [tdiv_nat, wrap64_eq (by omega) (by omega)]
      simp only [laws_markText.l0, if_pos (show (x : Int) > 0 by omega), Option.bind_some, hs, if_pos (show 1 + t.size ≤ 9223372036854775807 by omega), hw]
      exact hr
    · refine ⟨(⟨#[109]⟩ : ByteArray) ++ t, Ev.shift ?_⟩
      simp only [laws_markText.l0, if_neg (show ¬ (x : Int) > 0 by omega), if_pos (show 1 + t.size ≤ 9223372036854775807 by omega)]
      exact Ev.now _
theorem markText_ex (a : Int) (h : a ≤ 4194304) : ∃ r, Ev (fun k => laws_markText.f k a) r := by
  simp only [laws_markText.f]
  by_cases h0 : a ≤ 0
  · exact ⟨_, by simp only [if_pos h0]; exact Ev.now _⟩
  · obtain ⟨x, rfl⟩ : ∃ x : Nat, a = (x : Int) := ⟨a.toNat, by omega⟩
    obtain ⟨r, hr⟩ := markText_loop x (⟨#[]⟩ : ByteArray) (by rw [show (⟨#[]⟩ : ByteArray).size = 0 from rfl]; omega)
    exact ⟨r, by simp only [if_neg h0]; exact hr⟩
theorem marks_ex : ∃ f : Int → ByteArray, ∀ a : Int, a ≤ 4194304 → Ev (fun k => laws_markText.f k a) (f a) := by
  refine ⟨fun a => if h : a ≤ 4194304 then Classical.choose (markText_ex a h) else (⟨#[]⟩ : ByteArray), fun a h => ?_⟩
  simp only [dif_pos h]
  exact Classical.choose_spec (markText_ex a h)
def marks (f : Int → ByteArray) : Int → Nat → List ByteArray
  | _, 0 => []
  | a, n + 1 => f a :: marks f (a + 1) n
theorem marks_length (f : Int → ByteArray) (n : Nat) : ∀ a, (marks f a n).length = n := by
  induction n with
  | zero => intro a; rfl
  | succ n ih => intro a; simp [marks, ih]
theorem mark_loop (f : Int → ByteArray) (hf : ∀ a : Int, a ≤ 4194304 → Ev (fun k => laws_markText.f k a) (f a)) (suf : List ByteArray) : ∀ (done : List ByteArray) (a : Int), 0 ≤ a → a + suf.length ≤ 4194304 → (done ++ suf).length ≤ 1048576 →
    Ev (fun k => laws_markStringS.l0 k (done ++ suf) a (done.length : Int)) (a + (suf.length : Int), done ++ marks f a suf.length) := by
  induction suf with
  | nil =>
    intro done a h0 ha hn
    refine Ev.shift ?_
    simp only [laws_markStringS.l0, if_neg (mid_not_lt done), List.length_nil, marks, Int.natCast_zero, Int.add_zero]
    exact Ev.now _
  | cons s suf ih =>
    intro done a h0 ha hn
    have hnx := next_i done suf s (by omega)
    rw [List.length_cons] at ha
    have hw : wrap64 (a + 1) = a + 1 := wrap64_eq (by omega) (by omega)
    refine Ev.shift ?_
    simp only [laws_markStringS.l0, if_pos (mid_lt done suf s), if_pos (Int.natCast_nonneg done.length), hnx, hw]
    refine Ev.bind (hf a (by omega)) ?_
    rw [set_mid]
    have := ih (done ++ [f a]) (a + 1) (by omega) (by omega) (by simp at hn ⊢; omega)
    have e1 : a + ((s :: suf).length : Int) = a + 1 + (suf.length : Int) := by simp; omega
    have e2 : done ++ marks f a (s :: suf).length = (done ++ [f a]) ++ marks f (a + 1) suf.length := by simp [marks]
    have e3 : ((done ++ [f a]).length : Int) = ((done ++ [s]).length : Int) := by simp
    rw [e1, e2, ← e3]
    exact this
theorem mark_ok (f : Int → ByteArray) (hf : ∀ a : Int, a ≤ 4194304 → Ev (fun k => laws_markText.f k a) (f a)) (l : List ByteArray) (a : Int) (h0 : 0 ≤ a) (ha : a + l.length ≤ 4194304) (hn : l.length ≤ 1048576) :
    Ev (fun k => laws_markStringS.f k l a) (a + (l.length : Int), marks f a l.length) := mark_loop f hf l [] a h0 ha hn
theorem held_loop (f : Int → ByteArray) (hf : ∀ a : Int, a ≤ 4194304 → Ev (fun k => laws_markText.f k a) (f a)) (n : Nat) : ∀ (pre : List ByteArray) (a : Int), 0 ≤ a → a + n ≤ 4194304 → pre.length + n ≤ 1048576 →
    Ev (fun k => laws_heldStringS.l0 k (pre ++ marks f a n) a (pre.length : Int)) (a + (n : Int)) := by
  induction n with
  | zero =>
    intro pre a h0 ha hn
    refine Ev.shift ?_
    simp only [marks, laws_heldStringS.l0, List.append_nil, if_neg (show ¬ (pre.length : Int) < (pre.length : Int) by omega), Int.natCast_zero, Int.add_zero]
    exact Ev.now _
  | succ n ih =>
    intro pre a h0 ha hn
    have hml := marks_length f n (a + 1)
    simp only [marks]
    have hnx := next_i pre (marks f (a + 1) n) (f a) (by simp [hml]; omega)
    have hw : wrap64 (a + 1) = a + 1 := wrap64_eq (by omega) (by omega)
    refine Ev.shift ?_
    simp only [laws_heldStringS.l0, if_pos (mid_lt pre (marks f (a + 1) n) (f a)), if_pos (Int.natCast_nonneg pre.length), rdOf_mid, hnx, hw]
    refine Ev.bind (hf a (by omega)) ?_
    simp only [if_true]
    have := ih (pre ++ [f a]) (a + 1) (by omega) (by omega) (by simp; omega)
    have e1 : a + ((n + 1 : Nat) : Int) = a + 1 + (n : Int) := by omega
    rw [e1, mid_assoc pre (marks f (a + 1) n) (f a)]
    exact this
theorem held_ok (f : Int → ByteArray) (hf : ∀ a : Int, a ≤ 4194304 → Ev (fun k => laws_markText.f k a) (f a)) (n : Nat) (a : Int) (h0 : 0 ≤ a) (ha : a + n ≤ 4194304) (hn : n ≤ 1048576) :
    Ev (fun k => laws_heldStringS.f k (marks f a n) a) (a + (n : Int)) := held_loop f hf n [] a h0 ha (by simp; omega)
def load : List S68 → Nat
  | [] => 0
  | x :: l => 2 + x.f1.length + load l
theorem markLib_loop (f : Int → ByteArray) (hf : ∀ a : Int, a ≤ 4194304 → Ev (fun k => laws_markText.f k a) (f a)) (suf : List S68) : ∀ (pre : List S68) (a : Int), 0 ≤ a → a + load suf ≤ 4194303 → (pre ++ suf).length ≤ 1048576 → (∀ x ∈ suf, x.f1.length ≤ 1048576) →
    Ev (fun k => laws_markSisLibS.l0 k (pre ++ suf) a (pre.length : Int)) (a + (load suf : Nat)) := by
  induction suf with
  | nil =>
    intro pre a h0 ha hn hb
    refine Ev.shift ?_
    simp only [laws_markSisLibS.l0, if_neg (mid_not_lt pre), load, Int.natCast_zero, Int.add_zero]
    exact Ev.now _
  | cons s suf ih =>
    intro pre a h0 ha hn hb
    have hnx := next_i pre suf s (by omega)
    simp only [load] at ha
    have hw : wrap64 (a + 1) = a + 1 := wrap64_eq (by omega) (by omega)
    have hw2 : wrap64 (a + 1 + (s.f1.length : Int) + 1) = a + 1 + (s.f1.length : Int) + 1 := wrap64_eq (by omega) (by omega)
    refine Ev.shift ?_
    simp only [laws_markSisLibS.l0, if_pos (mid_lt pre suf s), if_pos (Int.natCast_nonneg pre.length), rd68, hnx, hw]
    refine Ev.bind (hf a (by omega)) ?_
    refine Ev.bind (mark_ok f hf s.f1 (a + 1) (by omega) (by omega) (hb s (by simp))) ?_
    refine Ev.bind (hf (a + 1 + (s.f1.length : Int)) (by omega)) ?_
    simp only [hw2]
    have := ih (pre ++ [s]) (a + 1 + (s.f1.length : Int) + 1) (by omega) (by omega) (by simpa using hn) (fun x hx => hb x (List.mem_cons_of_mem _ hx))
    have e1 : a + ((load (s :: suf) : Nat) : Int) = a + 1 + (s.f1.length : Int) + 1 + ((load suf : Nat) : Int) := by simp only [load]; omega
    rw [e1, mid_assoc pre suf s]
    exact this
theorem load_conv (l : List S95) : load (l.map c95) ≤ 2 * l.length + bigs l := by
  induction l with
  | nil => simp [load, bigs]
  | cons x l ih =>
    simp only [List.map_cons, load, bigs, List.length_cons, c95, big, strs]
    omega
/-! ### the law -/
theorem FnExactSisOrder : laws_FnExactSisOrder.Pure := by
  intro l hW
  refine Ev.rounds ?_
  obtain ⟨r, hr, h⟩ := size_ok l 1048576 (by omega) (by omega) hW.1 hW.2
  simp only [laws_FnExactSisOrder.f]
  refine Ev.bind hr ?_
  by_cases hneg : r < 0
  · simp only [if_pos hneg]
    exact Ev.now _
  have hbig : l.length + bigs l ≤ 1048576 := by omega
  have hb95 : ∀ x ∈ l, x.f1.length ≤ 1048576 := fun x hx => by
    have := bigs_mem hx
    unfold big strs at this
    omega
  have hb : ∀ x ∈ l.map c95, x.f1.length ≤ 1048576 := fun x hx => by
    obtain ⟨y, hy, rfl⟩ := List.mem_map.mp hx
    exact hb95 y hy
  have hc := conv_ok l (by omega) hb95
  have hs := order_spec (l.map c95) hb
  have hi := order_impl (l.map c95) hb
  have ho := ord_length (l.map c95)
  have heq := eqLib (l.map c95) (by simp; omega) hb
  have hes := eqStr (ord (l.map c95)).1 (by omega)
  obtain ⟨f, hf⟩ := marks_ex
  have hml := load_conv l
  have hmk : Ev (fun k => laws_markSisLibS.f k (l.map c95) 1) (1 + ((load (l.map c95) : Nat) : Int)) := markLib_loop f hf (l.map c95) [] 1 (by omega) (by omega) (by simp; omega) hb
  have hms := mark_ok f hf (ord (l.map c95)).1 1 (by omega) (by omega) (by omega)
  have hhs := held_ok f hf (ord (l.map c95)).1.length 1 (by omega) (by omega) (by omega)
  generalize hg : ord (l.map c95) = g at hs hi ho hes hms hhs
  obtain ⟨g1, g2⟩ := g
  simp only at hs hi ho hes hms hhs
  simp only [if_neg hneg]
  refine Ev.bind hc ?_
  refine Ev.bind hs ?_
  refine Ev.bind hc ?_
  refine Ev.bind hi ?_
  refine Ev.bind hes ?_
  simp only [if_true, bne_self_eq_false]
  refine Ev.shift ?_
  simp only [laws_FnExactSisOrder.j0, Bool.false_eq_true, if_false]
  refine Ev.bind hc ?_
  refine Ev.bind heq ?_
  simp only [if_true]
  refine Ev.bind hmk ?_
  simp only [if_neg (show ¬ (1 + ((load (l.map c95) : Nat) : Int)) < 0 by omega)]
  refine Ev.bind hes ?_
  simp only [if_true, bne_self_eq_false]
  refine Ev.shift ?_
  simp only [laws_FnExactSisOrder.j1, Bool.false_eq_true, if_false]
  refine Ev.bind hms ?_
  refine Ev.bind hhs ?_
  simp only [if_neg (show ¬ (1 + (g1.length : Int)) < 0 by omega), if_true]
  refine Ev.bind hc ?_
  refine Ev.bind hi ?_
  refine Ev.bind hes ?_
  simp only [if_true, bne_self_eq_false]
  refine Ev.shift ?_
  simp only [laws_FnExactSisOrder.j2, Bool.false_eq_true, if_false]
  refine Ev.bind hhs ?_
  simp only [if_neg (show ¬ (1 + (g1.length : Int)) < 0 by omega), if_true]
  exact Ev.now _
end Go.Proofs.Ytmdhanegafclmaa.Pure
