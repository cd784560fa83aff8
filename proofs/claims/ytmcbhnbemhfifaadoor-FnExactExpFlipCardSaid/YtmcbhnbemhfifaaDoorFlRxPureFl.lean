/- FnExactExpFlip: whatever the form and the scope, the law's function comes to true. Condition: sizes that a machine may hold. -/
import Derived.Test.YtmcbhnbemhfifaaDoorFlRxPz
namespace Go.Proofs.YtmcbhnbemhfifaaDoor.RX
open Go K
set_option autoImplicit false
set_option linter.unusedVariables false
set_option linter.unusedSimpArgs false
theorem indForm {P : TExpForm → Prop} (h : ∀ x : TExpForm, (∀ y ∈ x.vKids, P y) → P x) : ∀ x, P x := by
  have key : ∀ n (x : TExpForm), SizeOf.sizeOf x < n → P x := by
    intro n
    induction n with
    | zero => intro x hx; omega
    | succ n ih =>
      intro x hx
      refine h x (fun y hy => ih y ?_)
      have h1 := List.sizeOf_lt_of_mem hy
      cases x
      simp at h1 hx ⊢
      omega
  exact fun x => key _ x (Nat.lt_succ_self _)
mutual
/-- How large: letters, scopes, forms. -/
def wid : TExpForm → Int
  | ⟨_, t, sc, _, ks⟩ => 1 + (t.size : Int) + (sc.length : Int) + wids ks
def wids : List TExpForm → Int
  | [] => 0
  | x :: l => wid x + wids l
end
theorem wid_mk (x : TExpForm) : wid x = 1 + (x.vText.size : Int) + (x.vScopes.length : Int) + wids x.vKids := by cases x; simp only [wid]
theorem wid_c (a : Int) (t : ByteArray) (sc : List Int) (d : Int) (ks : List TExpForm) : wid ⟨a, t, sc, d, ks⟩ = 1 + (t.size : Int) + (sc.length : Int) + wids ks := by simp only [wid]
theorem wids_len (l : List TExpForm) : 0 ≤ wids l ∧ (l.length : Int) ≤ wids l := by
  have key : ∀ x : TExpForm, 1 ≤ wid x := by
    refine indForm fun x ih => ?_
    rw [wid_mk]
    have : ∀ l : List TExpForm, (∀ y ∈ l, 1 ≤ wid y) → 0 ≤ wids l := by
      intro l
      induction l with
      | nil => intro _; simp [wids]
      | cons y l ihl =>
        intro h
        have := h y (by simp)
        have := ihl fun z hz => h z (List.mem_cons_of_mem _ hz)
        simp only [wids]; omega
    have := this _ ih
    omega
  induction l with
  | nil => simp [wids]
  | cons x l ih =>
    have := key x
    simp only [wids, List.length_cons]; omega
theorem wid_pos (x : TExpForm) : 1 ≤ wid x := by rw [wid_mk]; have := (wids_len x.vKids).1; omega
theorem wids_mem {l : List TExpForm} {x : TExpForm} (h : x ∈ l) : wid x ≤ wids l := by
  induction l with
  | nil => cases h
  | cons y l ih =>
    have h1 := wid_pos y
    have h2 := (wids_len l).1
    simp only [wids]
    rcases List.mem_cons.1 h with rfl | h
    · omega
    · have := ih h; omega
theorem wids_append (l m : List TExpForm) : wids (l ++ m) = wids l + wids m := by
  induction l with
  | nil => simp [wids]
  | cons x l ih => simp only [List.cons_append, wids, ih]; omega
theorem wids_one (x : TExpForm) : wids [x] = wid x := by simp [wids]
theorem wids_take_le (l : List TExpForm) (n : Nat) : wids (l.take n) ≤ wids l := by
  have h := wids_append (l.take n) (l.drop n)
  rw [List.take_append_drop] at h
  have := (wids_len (l.drop n)).1
  omega
/-- What bounds give of a form: its parts. -/
theorem wid_parts (x : TExpForm) : (x.vText.size : Int) < wid x ∧ (x.vScopes.length : Int) < wid x ∧ (x.vKids.length : Int) < wid x ∧ wids x.vKids < wid x ∧ 0 ≤ wids x.vKids := by
  have := wid_mk x
  have := wids_len x.vKids
  omega
end Go.Proofs.YtmcbhnbemhfifaaDoor.RX
namespace Go.Proofs.YtmcbhnbemhfifaaDoor.RX
open Go K
set_option autoImplicit false
set_option linter.unusedVariables false
set_option linter.unusedSimpArgs false
/-- A bound that stands for all limits. -/
def Big (n : Int) : Prop := n ≤ 1000000000
theorem copy_all : ∀ x : TExpForm, wid x ≤ 1000000000 → Ev (fun k => spec_l1Copy.f k x) (x.vSort, x.vText, x.vFrom, x.vScopes, x.vKids) := by
  refine indForm fun x ih hw => ?_
  have hp := wid_parts x
  refine Ev.shift ?_
  simp (disch := omega) only [spec_l1Copy.f, if_pos, List.length_nil, Nat.zero_add, List.nil_append]
  refine Ev.bind (r := x.vKids) (Ev.shift ?_) (Ev.now _)
  simp only [spec_l1Copies.f]
  refine Ev.eq (goList x.vKids (P := fun i suf => ∀ out : List TExpForm, (out.length : Int) = i → Ev (fun k => spec_l1Copies.l3 k x.vKids i out) (out ++ suf)) ?_ ?_ [] rfl) (by simp)
  · intro out ho
    refine Ev.shift ?_
    simp (disch := omega) only [spec_l1Copies.l3, if_neg, List.append_nil]
    exact Ev.now _
  · intro i y r h0 h1 hx hm hl _ _ ihr out ho
    have hy := wids_mem hm
    refine Ev.shift ?_
    simp (disch := omega) only [spec_l1Copies.l3, if_pos, hx, eTExpForm_eq, w64, List.length_singleton]
    refine Ev.bind (ih y hm (by omega)) ?_
    simp (disch := omega) only [if_pos, mTExpForm]
    exact Ev.eq (ihr (out ++ [y]) (by simp; omega)) (by simp)
theorem copies_all (l : List TExpForm) (hw : wids l ≤ 1000000000) : Ev (fun k => spec_l1Copies.f k l) l := by
  refine Ev.shift ?_
  simp only [spec_l1Copies.f]
  have hlen := wids_len l
  refine Ev.eq (goList l (P := fun i suf => ∀ out : List TExpForm, (out.length : Int) = i → Ev (fun k => spec_l1Copies.l3 k l i out) (out ++ suf)) ?_ ?_ [] rfl) (by simp)
  · intro out ho
    refine Ev.shift ?_
    simp (disch := omega) only [spec_l1Copies.l3, if_neg, List.append_nil]
    exact Ev.now _
  · intro i y r h0 h1 hx hm hl _ _ ihr out ho
    have hy := wids_mem hm
    refine Ev.shift ?_
    simp (disch := omega) only [spec_l1Copies.l3, if_pos, hx, eTExpForm_eq, w64, List.length_singleton]
    refine Ev.bind (copy_all y (by omega)) ?_
    simp (disch := omega) only [if_pos, mTExpForm]
    exact Ev.eq (ihr (out ++ [y]) (by simp; omega)) (by simp)
end Go.Proofs.YtmcbhnbemhfifaaDoor.RX
namespace Go.Proofs.YtmcbhnbemhfifaaDoor.RX
open Go K
set_option autoImplicit false
set_option linter.unusedVariables false
set_option linter.unusedSimpArgs false
def isDig (c : Int) : Bool := decide (48 ≤ c) && decide (c ≤ 57)
def inStr (c : Int) : Bool := decide (32 ≤ c) && decide (c ≤ 126) && !decide (c = 34)
def digs (l : List Int) : Bool := !l.isEmpty && l.all isDig
def quoted (l : List Int) : Bool := decide (2 ≤ l.length) && decide (rdAt 0 l 0 = 34) && decide (rdAt 0 l ((l.length : Int) - 1) = 34) && ((l.take (l.length - 1)).drop 1).all inStr
def atomL (l : List Int) : Bool := decide (l = [35, 116]) || (decide (l = [35, 102]) || (digs l || ((decide (1 < l.length) && decide (rdAt 0 l 0 = 45) && digs (l.drop 1)) || quoted l)))
def atomB (s : ByteArray) : Bool := atomL (bytesOf s)
def inId (c : Int) : Bool := decide (33 ≤ c) && decide (c < 126) && !decide (c = 40) && !decide (c = 41) && !decide (c = 34) && !decide (c = 39)
def idB (s : ByteArray) : Bool := (bytesOf s).all inId && !(bytesOf s).isEmpty && !decide (bytesOf s = [46]) && !decide (rdAt 0 (bytesOf s) 0 = 35) && !atomB s
theorem lit_eq {s : ByteArray} (a : Array UInt8) (l : List Int) (h : bytesOf (ByteArray.mk a) = l) : (s.toList = (ByteArray.mk a).toList) ↔ bytesOf s = l := by
  rw [toList_inj, ← bytesOf_inj, h]
theorem decide_not_ne {p : Prop} [Decidable p] (h : p) : ¬ ¬ p := fun k => k h
theorem bsize (s : ByteArray) : (s.size : Int) = ((bytesOf s).length : Int) := by rw [bytesOf_length]
/-- All letters of a text from a place on are of a kind: a walk that ends at the first that is not. -/
theorem digits_ok (s : ByteArray) (hs : s.size ≤ 1000000000) : Ev (fun k => spec_l1Digits.f k s) (digs (bytesOf s)) := by
  have hb := bsize s
  simp only [spec_l1Digits.f]
  have key : Ev (fun k => spec_l1Digits.l2 k s 0) ((bytesOf s).all isDig && decide (0 < (s.size : Int))) := by
    refine goList (bytesOf s) (P := fun i suf => Ev (fun k => spec_l1Digits.l2 k s i) (suf.all isDig && decide (0 < (s.size : Int)))) ?_ ?_
    · refine Ev.shift ?_
      simp (disch := omega) only [spec_l1Digits.l2, if_neg, List.all_nil, Bool.true_and]
      exact Ev.now _
    · intro i c r h0 h1 hx hm _ _ _ ih
      have h2 := byte_ok s c hm
      refine Ev.shift ?_
      simp (disch := omega) only [spec_l1Digits.l2, if_pos, bt_rd, hx, List.all_cons, w64]
      by_cases a1 : c < 48
      · simp (disch := omega) only [if_pos, isDig, decide_eq_false, Bool.false_and]; exact Ev.now _
      by_cases a2 : 57 < c
      · simp (disch := omega) only [if_pos, if_neg, isDig, decide_eq_false, Bool.and_false, Bool.false_and]; exact Ev.now _
      simp (disch := omega) only [if_neg, isDig, decide_eq_true (show 48 ≤ c by omega), decide_eq_true (show c ≤ 57 by omega), Bool.and_self, Bool.true_and]
      exact ih
  refine Ev.eq key ?_
  unfold digs
  rw [hb, Bool.and_comm]
  cases bytesOf s <;> simp
theorem quoted_ok (s : ByteArray) (hs : s.size ≤ 1000000000) : Ev (fun k => spec_l1AtomOk.j3 k s) (quoted (bytesOf s)) := by
  have hb := bsize s
  unfold quoted
  by_cases h2 : (s.size : Int) < 2
  · simp (disch := omega) only [spec_l1AtomOk.j3, if_pos]
    rw [decide_eq_false (by omega)]; simp only [Bool.false_and]; exact Ev.now _
  simp (disch := omega) only [spec_l1AtomOk.j3, if_pos, if_neg, bt_rd, w64]
  rw [decide_eq_true (show 2 ≤ (bytesOf s).length by omega), Bool.true_and]
  by_cases h3 : rdAt 0 (bytesOf s) 0 = 34
  · simp only [if_neg (decide_not_ne h3), decide_eq_true h3, Bool.true_and, ← hb]
    by_cases h4 : rdAt 0 (bytesOf s) ((s.size : Int) - 1) = 34
    · simp only [decide_eq_true h4, Bool.true_and, if_neg (decide_not_ne h4), spec_l1AtomOk.j5]
      have hl : (bytesOf s).length - 1 = (s.size : Int).toNat - 1 := by omega
      have key := goFrom ((bytesOf s).take ((bytesOf s).length - 1)) (P := fun i suf => Ev (fun k => spec_l1AtomOk.l6 k s i) (suf.all inStr)) ?_ ?_ 1 (by rw [List.length_take]; omega)
      · exact key
      · refine Ev.shift ?_
        rw [List.length_take]
        simp (disch := omega) only [spec_l1AtomOk.l6, if_neg, w64, List.all_nil]
        exact Ev.now _
      · intro i c r h0 h1 hx hm _ _ _ ih
        rw [List.length_take] at h1
        have hc : rdAt 0 (bytesOf s) i = c := by
          rw [← hx 0]
          unfold rdAt
          rw [List.getD_eq_getElem?_getD, List.getD_eq_getElem?_getD, List.getElem?_take, if_pos (by omega)]
        refine Ev.shift ?_
        simp (disch := omega) only [spec_l1AtomOk.l6, if_pos, bt_rd, hc, List.all_cons, w64]
        by_cases a0 : c = 34
        · simp (disch := omega) only [if_pos, inStr, decide_eq_true, Bool.not_true, Bool.and_false, Bool.false_and]; exact Ev.now _
        by_cases a1 : c < 32
        · simp (disch := omega) only [if_pos, if_neg, inStr, decide_eq_false, Bool.false_and]; exact Ev.now _
        by_cases a2 : 126 < c
        · simp (disch := omega) only [if_pos, if_neg, inStr, decide_eq_false, Bool.and_false, Bool.false_and]; exact Ev.now _
        simp (disch := omega) only [if_neg, inStr, decide_eq_true, decide_eq_false, Bool.not_false, Bool.and_self, Bool.true_and]
        exact ih
    · simp only [decide_eq_false h4, Bool.false_and, if_pos h4]; exact Ev.now _
  · simp only [if_pos h3, decide_eq_false h3, Bool.false_and]; exact Ev.now _
theorem atom_spec (s : ByteArray) (hs : s.size ≤ 1000000000) : Ev (fun k => spec_l1AtomOk.f k s) (atomB s) := by
  have hb := bsize s
  simp only [spec_l1AtomOk.f, lit_eq #[35, 116] [35, 116] rfl, lit_eq #[35, 102] [35, 102] rfl, atomB, atomL]
  by_cases a1 : bytesOf s = [35, 116]
  · simp only [if_pos a1, decide_eq_true a1, Bool.true_or]; exact Ev.now _
  simp only [if_neg a1, decide_eq_false a1, Bool.false_or]
  by_cases a2 : bytesOf s = [35, 102]
  · simp only [if_pos a2, decide_eq_true a2, Bool.true_or]; exact Ev.now _
  simp only [if_neg a2, decide_eq_false a2, Bool.false_or]
  refine Ev.bind (digits_ok s hs) ?_
  by_cases a3 : digs (bytesOf s) = true
  · rw [a3]; simp only [if_true, Bool.true_or]; exact Ev.now _
  simp only [if_neg a3, Bool.eq_false_iff.2 a3, Bool.false_or]
  by_cases a4 : 1 < (s.size : Int)
  · simp (disch := omega) only [if_pos, decide_eq_true (show 1 < (bytesOf s).length by omega), Bool.true_and, bt_rd]
    by_cases a5 : rdAt 0 (bytesOf s) 0 = 45
    · rw [decide_eq_true a5]
      simp only [if_pos a5, Bool.true_and]
      refine Ev.bind (digits_ok _ (by rw [ByteArray.size_extract]; omega)) ?_
      have e : bytesOf (s.extract 1 (s.size : Int).toNat) = (bytesOf s).drop 1 := by
        rw [bytesOf_extract, List.take_of_length_le (by omega)]
      rw [e]
      by_cases a6 : digs ((bytesOf s).drop 1) = true
      · rw [a6]; simp only [if_true, Bool.true_or]; exact Ev.now _
      · simp only [if_neg a6, Bool.eq_false_iff.2 a6, Bool.false_or]
        exact quoted_ok s hs
    · rw [decide_eq_false a5]
      simp only [if_neg a5, Bool.false_and, Bool.false_or]
      exact quoted_ok s hs
  · simp (disch := omega) only [if_neg, decide_eq_false (show ¬ 1 < (bytesOf s).length by omega), Bool.false_and, Bool.false_or]
    exact quoted_ok s hs
theorem dropWhile_nil {α : Type} (p : α → Bool) : ∀ l : List α, l.dropWhile p = [] ↔ l.all p = true := by
  intro l
  induction l with
  | nil => simp
  | cons x l ih =>
    by_cases h : p x = true
    · simp [List.dropWhile_cons, h, ih]
    · simp [List.dropWhile_cons, h]
theorem trim_nil (l cs : List UInt8) : Go.Lib.trimS l cs = [] ↔ l.all (cs.contains ·) = true := by
  unfold Go.Lib.trimS Go.Lib.trimLeftS Go.Lib.trimRightS
  rw [dropWhile_nil]
  constructor
  · intro h
    have h0 : (l.reverse.dropWhile (cs.contains ·)) = [] := by
      cases hd : l.reverse.dropWhile (cs.contains ·) with
      | nil => rfl
      | cons y m =>
        have hy : cs.contains y = false := by
          have := List.head?_dropWhile_not (cs.contains ·) l.reverse
          rw [hd] at this
          simpa using this
        rw [hd] at h
        simp at h
        have h1 := h.2
        rw [List.contains_eq_mem] at hy
        simp at hy
        exact absurd h1 hy
    rw [dropWhile_nil] at h0
    simpa using h0
  · intro h
    have h0 : (l.reverse.dropWhile (cs.contains ·)) = [] := by
      rw [dropWhile_nil]
      simpa using h
    rw [h0]
    rfl
theorem dig_iff : ∀ b : UInt8, ([48, 49, 50, 51, 52, 53, 54, 55, 56, 57] : List UInt8).contains b = isDig (b.toNat : Int) := by
  intro b
  have : ∀ n : Fin 256, ([48, 49, 50, 51, 52, 53, 54, 55, 56, 57] : List UInt8).contains (UInt8.ofNat n.val) = isDig (n.val : Int) := by decide +kernel
  have := this ⟨b.toNat, b.toNat_lt⟩
  simpa using this
theorem trim_ok (d : ByteArray) (hd : d.size ≤ 1000000000) : ∃ r, LTrim d (ByteArray.mk #[48, 49, 50, 51, 52, 53, 54, 55, 56, 57]) = some r ∧ decide (r.toList = (ByteArray.mk #[]).toList) = (bytesOf d).all isDig := by
  refine ⟨⟨(Go.Lib.trimS d.data.toList [48, 49, 50, 51, 52, 53, 54, 55, 56, 57]).toArray⟩, ?_, ?_⟩
  · unfold LTrim
    rw [if_pos (by decide), if_pos (by omega), if_pos (by decide)]
  · have e : (bytesOf d).all isDig = d.data.toList.all (([48, 49, 50, 51, 52, 53, 54, 55, 56, 57] : List UInt8).contains ·) := by
      unfold bytesOf
      rw [List.all_map]
      congr 1
      funext b
      exact (dig_iff b).symm
    rw [e, Bool.eq_iff_iff, ← trim_nil, decide_eq_true_eq, toList_data]
    simp [toList_data]
theorem prefix_ok (s : ByteArray) : Ev (fun k => strings_TrimPrefix.f k s (ByteArray.mk #[45])) (if 1 ≤ (s.size : Int) ∧ rdAt 0 (bytesOf s) 0 = 45 then s.extract 1 s.size else s) := by
  have hb := bsize s
  have e1 : (ByteArray.mk #[45]).size = 1 := rfl
  simp only [strings_TrimPrefix.f, internal_stringslite_TrimPrefix.f, internal_stringslite_HasPrefix.f, e1]
  by_cases h : 1 ≤ (s.size : Int)
  · have e : ((s.extract 0 ((1 : Nat) : Int).toNat).toList = (ByteArray.mk #[45]).toList) ↔ rdAt 0 (bytesOf s) 0 = 45 := by
      rw [lit_eq #[45] [45] rfl, bytesOf_extract]
      generalize bytesOf s = l at hb ⊢
      cases l with
      | nil => simp only [List.length_nil] at hb; omega
      | cons c l => simp [rdAt]
    simp (disch := omega) only [if_pos, e, Option.bind_some, decide_eq_true_eq, h, true_and]
    by_cases h5 : rdAt 0 (bytesOf s) 0 = 45
    · simp only [h5, if_true, Option.bind_some]; exact Ev.now _
    · simp only [h5, if_false, Option.bind_some]; exact Ev.now _
  · simp (disch := omega) only [if_neg, Option.bind_some, Bool.false_eq_true, if_false]
    exact Ev.now _
theorem atom_impl (s : ByteArray) (hs : s.size ≤ 1000000000) : Ev (fun k => impl_expAtom.f k s) (atomB s) := by
  have hb := bsize s
  simp only [impl_expAtom.f, lit_eq #[35, 116] [35, 116] rfl, lit_eq #[35, 102] [35, 102] rfl, atomB, atomL]
  by_cases a1 : bytesOf s = [35, 116]
  · simp only [if_pos a1, decide_eq_true a1, Bool.true_or]; exact Ev.now _
  simp only [if_neg a1, decide_eq_false a1, Bool.false_or]
  by_cases a2 : bytesOf s = [35, 102]
  · simp only [if_pos a2, decide_eq_true a2, Bool.true_or]; exact Ev.now _
  simp only [if_neg a2, decide_eq_false a2, Bool.false_or]
  have other : quoted (bytesOf s) = false → Ev (fun k => impl_expAtom.j5 k s (s.size : Int) false) (digs (bytesOf s) || (decide (1 < (bytesOf s).length) && decide (rdAt 0 (bytesOf s) 0 = 45) && digs ((bytesOf s).drop 1) || quoted (bytesOf s))) := by
    intro hq
    rw [hq, Bool.or_false]
    simp only [impl_expAtom.j5, Bool.false_eq_true, if_false]
    refine Ev.bind (prefix_ok s) ?_
    have fin : ∀ d : ByteArray, d.size ≤ 1000000000 → Ev (fun k : Nat => if ¬ d.toList = (ByteArray.mk #[]).toList then ((LTrim d (ByteArray.mk #[48, 49, 50, 51, 52, 53, 54, 55, 56, 57])).bind fun r2 => some (decide (r2.toList = (ByteArray.mk #[]).toList))) else some false) (digs (bytesOf d)) := by
      intro d hd
      obtain ⟨r, e1, e2⟩ := trim_ok d hd
      rw [e1]
      simp only [Option.bind_some, e2]
      simp only [lit_eq #[] [] rfl, digs]
      cases h : bytesOf d with
      | nil => simp; exact Ev.now _
      | cons c l => simp only [List.isEmpty_cons, Bool.not_false, Bool.true_and, reduceCtorEq, not_false_eq_true, if_true]; exact Ev.now _
    have edge : ∀ c ∈ bytesOf s, 0 ≤ c ∧ c ≤ 255 := byte_ok s
    by_cases h : 1 ≤ (s.size : Int) ∧ rdAt 0 (bytesOf s) 0 = 45
    · rw [if_pos h]
      have hd : digs (bytesOf s) = false := by
        have h1 := h.1; have h2 := h.2
        generalize bytesOf s = l at h1 h2 hb ⊢
        cases l with
        | nil => rfl
        | cons c l => simp [rdAt] at h2; subst h2; simp [digs, isDig]
      rw [hd, Bool.false_or, decide_eq_true h.2, Bool.and_true]
      refine Ev.eq (fin _ (by rw [ByteArray.size_extract]; omega)) ?_
      have e : bytesOf (s.extract 1 s.size) = (bytesOf s).drop 1 := by rw [bytesOf_extract, List.take_of_length_le (by omega)]
      rw [e]
      by_cases h1 : 1 < (bytesOf s).length
      · rw [decide_eq_true h1, Bool.true_and]
      · rw [decide_eq_false h1, Bool.false_and, List.drop_eq_nil_of_le (by omega)]; rfl
    · rw [if_neg h]
      refine Ev.eq (fin _ hs) ?_
      have : (decide (1 < (bytesOf s).length) && decide (rdAt 0 (bytesOf s) 0 = 45)) = false := by
        rw [Bool.and_eq_false_iff, decide_eq_false_iff_not, decide_eq_false_iff_not]
        by_cases h1 : 1 < (bytesOf s).length
        · exact .inr fun e => h ⟨by omega, e⟩
        · exact .inl h1
      rw [this, Bool.false_and, Bool.or_false]
  by_cases h2 : 2 ≤ (s.size : Int)
  · simp (disch := omega) only [impl_expAtom.j3, if_pos, bt_rd, w64]
    by_cases h3 : rdAt 0 (bytesOf s) 0 = 34
    · simp only [if_pos h3]
      by_cases h4 : rdAt 0 (bytesOf s) ((s.size : Int) - 1) = 34
      · have hd : digs (bytesOf s) = false := by
          generalize bytesOf s = l at h3 hb ⊢
          cases l with
          | nil => rfl
          | cons c l => simp [rdAt] at h3; subst h3; simp [digs, isDig]
        rw [hd, h3, decide_eq_false (show ¬ (34 : Int) = 45 by decide), Bool.and_false, Bool.false_and, Bool.false_or, Bool.false_or, decide_eq_true h4]
        simp (disch := omega) only [impl_expAtom.j5, if_true, w64, if_pos]
        have e : bytesOf (s.extract 1 ((s.size : Int) - 1).toNat) = ((bytesOf s).take ((bytesOf s).length - 1)).drop 1 := by
          rw [bytesOf_extract, show ((s.size : Int) - 1).toNat = (bytesOf s).length - 1 by omega]
        rw [e]
        have hq : quoted (bytesOf s) = (((bytesOf s).take ((bytesOf s).length - 1)).drop 1).all inStr := by
          unfold quoted
          rw [decide_eq_true (show 2 ≤ (bytesOf s).length by omega), decide_eq_true h3, ← hb, decide_eq_true h4]
          simp only [Bool.true_and]
        rw [hq]
        have hlen : (((bytesOf s).take ((bytesOf s).length - 1)).drop 1).length ≤ 1000000000 := by rw [List.length_drop, List.length_take]; omega
        generalize (((bytesOf s).take ((bytesOf s).length - 1)).drop 1) = m at hlen ⊢
        refine goList m (P := fun i suf => Ev (fun k => impl_expAtom.l6 k m (m.length : Int) i) (suf.all inStr)) ?_ ?_
        · refine Ev.shift ?_
          simp (disch := omega) only [impl_expAtom.l6, if_neg, List.all_nil]
          exact Ev.now _
        · intro i c r h0 h1 hx hm _ _ _ ih
          refine Ev.shift ?_
          simp (disch := omega) only [impl_expAtom.l6, if_pos, hx, List.all_cons, w64]
          by_cases a1 : c < 32
          · simp (disch := omega) only [if_pos, if_neg, inStr, decide_eq_false, Bool.false_and]; exact Ev.now _
          by_cases a2 : 126 < c
          · simp (disch := omega) only [if_pos, if_neg, inStr, decide_eq_false, Bool.and_false, Bool.false_and]; exact Ev.now _
          by_cases a0 : c = 34
          · simp (disch := omega) only [if_pos, if_neg, inStr, decide_eq_true, Bool.not_true, Bool.and_false, Bool.false_and]; exact Ev.now _
          simp (disch := omega) only [if_neg, inStr, decide_eq_true, decide_eq_false, Bool.not_false, Bool.and_self, Bool.true_and]
          exact ih
      · simp only [decide_eq_false h4]
        refine other ?_
        unfold quoted
        rw [← hb, decide_eq_false h4, Bool.and_false, Bool.false_and]
    · simp only [if_neg h3]
      refine other ?_
      unfold quoted
      rw [decide_eq_false h3, Bool.and_false, Bool.false_and, Bool.false_and]
  · simp (disch := omega) only [impl_expAtom.j3, if_neg]
    refine other ?_
    unfold quoted
    rw [decide_eq_false (show ¬ 2 ≤ (bytesOf s).length by omega)]
    simp only [Bool.false_and]
theorem ends_ok (c : Int) : Ev (fun k => spec_l1Ends.f k c) (decide (c = 32) || decide (c = 10) || decide (c = 40) || decide (c = 41) || decide (c = 34) || decide (c = 39)) := by
  simp only [spec_l1Ends.f, spec_l1Blank.f]
  by_cases a0 : c = 32
  · simp [a0]; exact Ev.now _
  by_cases a1 : c = 10
  · simp [a1]; exact Ev.now _
  by_cases a2 : c = 40
  · simp [a2]; exact Ev.now _
  by_cases a3 : c = 41
  · simp [a3]; exact Ev.now _
  by_cases a4 : c = 34
  · simp [a4]; exact Ev.now _
  simp [a0, a1, a2, a3, a4]; exact Ev.now _
theorem idB_false {s : ByteArray} (h : idB s = false → False) : idB s = true := by
  cases e : idB s with
  | true => rfl
  | false => exact (h e).elim
theorem id_spec (s : ByteArray) (hs : s.size ≤ 1000000000) : Ev (fun k => spec_l1IdOk.f k s) (idB s) := by
  have hb := bsize s
  simp only [spec_l1IdOk.f, lit_eq #[] [] rfl, lit_eq #[46] [46] rfl, bt_rd]
  by_cases a0 : bytesOf s = []
  · have : idB s = false := by unfold idB; rw [a0]; rfl
    simp only [if_pos a0, this]; exact Ev.now _
  by_cases a1 : bytesOf s = [46]
  · have : idB s = false := by unfold idB; rw [decide_eq_true a1]; simp
    simp only [if_neg a0, if_pos a1, this]; exact Ev.now _
  simp only [if_neg a0, if_neg a1]
  refine Ev.bind (atom_spec s hs) ?_
  by_cases a2 : atomB s = true
  · have : idB s = false := by unfold idB; rw [a2]; simp
    simp only [a2, if_true, this]; exact Ev.now _
  have hp : 0 < (s.size : Int) := by
    have := List.length_pos_iff.2 a0; omega
  simp (disch := omega) only [if_neg a2, if_pos]
  by_cases a3 : rdAt 0 (bytesOf s) 0 = 35
  · have : idB s = false := by unfold idB; rw [decide_eq_true a3]; simp
    simp only [if_pos a3, this]; exact Ev.now _
  simp only [if_neg a3, spec_l1IdOk.j3]
  have e : idB s = (bytesOf s).all inId := by
    unfold idB
    rw [decide_eq_false a1, decide_eq_false a3, Bool.eq_false_iff.2 a2]
    have : (bytesOf s).isEmpty = false := by simpa using a0
    simp [this]
  rw [e]
  refine goList (bytesOf s) (P := fun i suf => Ev (fun k => spec_l1IdOk.l4 k s i) (suf.all inId)) ?_ ?_
  · refine Ev.shift ?_
    simp (disch := omega) only [spec_l1IdOk.l4, if_neg, List.all_nil]
    exact Ev.now _
  · intro i c r h0 h1 hx hm _ _ _ ih
    refine Ev.shift ?_
    simp (disch := omega) only [spec_l1IdOk.l4, if_pos, bt_rd, hx, List.all_cons, w64]
    refine Ev.bind (ends_ok c) ?_
    by_cases h : inId c = true
    · have h' := h
      simp only [inId, Bool.and_eq_true, Bool.not_eq_true', decide_eq_true_eq, decide_eq_false_iff_not] at h'
      simp (disch := omega) only [decide_eq_false, Bool.or_self, Bool.false_eq_true, if_false, if_neg, h, Bool.true_and]
      exact ih
    · have h' := h
      simp only [inId, Bool.and_eq_true, Bool.not_eq_true', decide_eq_true_eq, decide_eq_false_iff_not] at h'
      rw [Bool.eq_false_iff.2 h, Bool.false_and]
      by_cases b1 : (decide (c = 32) || decide (c = 10) || decide (c = 40) || decide (c = 41) || decide (c = 34) || decide (c = 39)) = true
      · simp only [b1, if_true]; exact Ev.now _
      · simp only [Bool.or_eq_true, decide_eq_true_eq] at b1
        simp (disch := omega) only [decide_eq_false, Bool.or_self, Bool.false_eq_true, if_false]
        by_cases b2 : c < 33
        · simp only [if_pos b2]; exact Ev.now _
        by_cases b3 : 126 < c
        · simp only [if_neg b2, if_pos b3]; exact Ev.now _
        · simp (disch := omega) only [if_neg b2, if_neg b3, if_pos]; exact Ev.now _
theorem index_id (c : Int) (h0 : 0 ≤ c) (h1 : c ≤ 255) : (0 ≤ LIndexByte (ByteArray.mk #[40, 41, 34, 39, 126]) c) ↔ (c = 40 ∨ c = 41 ∨ c = 34 ∨ c = 39 ∨ c = 126) := by
  obtain ⟨n, rfl⟩ := Int.eq_ofNat_of_zero_le h0
  have : ∀ n : Fin 256, (0 ≤ LIndexByte (ByteArray.mk #[40, 41, 34, 39, 126]) (n.val : Int)) ↔ ((n.val : Int) = 40 ∨ (n.val : Int) = 41 ∨ (n.val : Int) = 34 ∨ (n.val : Int) = 39 ∨ (n.val : Int) = 126) := by decide +kernel
  exact this ⟨n, by omega⟩
theorem id_impl (s : ByteArray) (hs : s.size ≤ 1000000000) : Ev (fun k => impl_expId.f k s) (idB s) := by
  have hb := bsize s
  simp only [impl_expId.f, bytesOf_length]
  have key : ∀ r : List Int, r = bytesOf s → Ev (fun k => impl_expId.l2 k s (bytesOf s) (s.size : Int) 0) (r.all inId && !(bytesOf s).isEmpty && !decide (bytesOf s = [46]) && !decide (rdAt 0 (bytesOf s) 0 = 35) && !atomB s) := by
    rintro r rfl
    refine goList (bytesOf s) (P := fun i suf => Ev (fun k => impl_expId.l2 k s (bytesOf s) (s.size : Int) i) (suf.all inId && !(bytesOf s).isEmpty && !decide (bytesOf s = [46]) && !decide (rdAt 0 (bytesOf s) 0 = 35) && !atomB s)) ?_ ?_
    · refine Ev.shift ?_
      simp (disch := omega) only [impl_expId.l2, if_neg, List.all_nil, Bool.true_and, lit_eq #[] [] rfl, lit_eq #[46] [46] rfl, bt_rd]
      by_cases a0 : bytesOf s = []
      · simp only [a0, if_neg (decide_not_ne (rfl : ([] : List Int) = [])), List.isEmpty_nil, Bool.not_true, Bool.false_and]; exact Ev.now _
      have a0' : (bytesOf s).isEmpty = false := by simpa using a0
      simp only [if_pos a0, a0', Bool.not_false, Bool.true_and]
      by_cases a1 : bytesOf s = [46]
      · simp only [if_neg (decide_not_ne a1), decide_eq_true a1, Bool.not_true, Bool.false_and]; exact Ev.now _
      have hp : 0 < (s.size : Int) := by have := List.length_pos_iff.2 a0; omega
      simp only [if_pos a1, decide_eq_false a1, Bool.not_false, Bool.true_and, if_pos hp]
      by_cases a3 : rdAt 0 (bytesOf s) 0 = 35
      · simp only [if_neg (decide_not_ne a3), decide_eq_true a3, Bool.not_true, Bool.false_and]; exact Ev.now _
      simp only [if_pos a3, decide_eq_false a3, Bool.not_false, Bool.true_and]
      refine Ev.bind (atom_impl s hs) ?_
      cases atomB s
      · exact Ev.now _
      · exact Ev.now _
    · intro i c r h0 h1 hx hm _ _ _ ih
      obtain ⟨c0, c1⟩ := byte_ok s c hm
      refine Ev.shift ?_
      simp (disch := omega) only [impl_expId.l2, if_pos, hx, List.all_cons, w64, index_id c c0 c1]
      by_cases h : inId c = true
      · have h' := h
        simp only [inId, Bool.and_eq_true, Bool.not_eq_true', decide_eq_true_eq, decide_eq_false_iff_not] at h'
        simp (disch := omega) only [if_neg, h, Bool.true_and]
        exact ih
      · have h' := h
        simp only [inId, Bool.and_eq_true, Bool.not_eq_true', decide_eq_true_eq, decide_eq_false_iff_not] at h'
        rw [Bool.eq_false_iff.2 h]
        simp only [Bool.false_and]
        by_cases b2 : c < 33
        · simp only [if_pos b2]; exact Ev.now _
        by_cases b3 : 126 < c
        · simp only [if_neg b2, if_pos b3]; exact Ev.now _
        · simp (disch := omega) only [if_neg b2, if_neg b3, if_pos]; exact Ev.now _
  exact key _ rfl
end Go.Proofs.YtmcbhnbemhfifaaDoor.RX
namespace Go.Proofs.YtmcbhnbemhfifaaDoor.RX
open Go K
set_option autoImplicit false
set_option linter.unusedVariables false
set_option linter.unusedSimpArgs false
/-- Ascending, none below 0, all more than one ahead. -/
def ascFrom : Option Int → List Int → Bool
  | _, [] => true
  | o, x :: l => decide (0 ≤ x) && (match o with | none => true | some p => decide (p < x)) && ascFrom (some x) l
def scOk (l : List Int) : Bool := ascFrom none l
def lastOk (ks : List TExpForm) : Bool := decide (2 ≤ (ks.length : Int)) && (decide ((rdAt zTExpForm ks ((ks.length : Int) - 1)).vSort = 1) || decide ((rdAt zTExpForm ks ((ks.length : Int) - 1)).vSort = 2))
mutual
/-- A form is ok, from a depth on, but for how many it is. -/
def okf : TExpForm → Int → Bool
  | ⟨a, t, sc, d, ks⟩, deep => decide (deep ≤ 60) && (if a = 1 then idB t && (decide ((t.size : Int) ≤ 40) && (decide (0 ≤ d) && (scOk sc && decide ((ks.length : Int) = 0))))
    else if a = 2 then atomB t && (decide ((t.size : Int) ≤ 40) && (decide (d = 0) && (decide ((sc.length : Int) = 0) && decide ((ks.length : Int) = 0))))
    else (decide (a = 3) || decide (a = 4)) && (decide (bytesOf t = []) && (decide (d = 0) && (decide ((sc.length : Int) = 0) && (okfs ks (deep + 1) && (decide (a = 3) || lastOk ks))))))
def okfs : List TExpForm → Int → Bool
  | [], _ => true
  | x :: l, deep => okf x deep && okfs l deep
end
mutual
/-- How many forms a form is. -/
def cnt : TExpForm → Int
  | ⟨_, _, _, _, ks⟩ => 1 + cnts ks
def cnts : List TExpForm → Int
  | [] => 0
  | x :: l => cnt x + cnts l
end
theorem okf_mk (x : TExpForm) (deep : Int) : okf x deep = (decide (deep ≤ 60) && (if x.vSort = 1 then idB x.vText && (decide ((x.vText.size : Int) ≤ 40) && (decide (0 ≤ x.vFrom) && (scOk x.vScopes && decide ((x.vKids.length : Int) = 0))))
    else if x.vSort = 2 then atomB x.vText && (decide ((x.vText.size : Int) ≤ 40) && (decide (x.vFrom = 0) && (decide ((x.vScopes.length : Int) = 0) && decide ((x.vKids.length : Int) = 0))))
    else (decide (x.vSort = 3) || decide (x.vSort = 4)) && (decide (bytesOf x.vText = []) && (decide (x.vFrom = 0) && (decide ((x.vScopes.length : Int) = 0) && (okfs x.vKids (deep + 1) && (decide (x.vSort = 3) || lastOk x.vKids))))))) := by cases x; simp only [okf]
theorem cnt_mk (x : TExpForm) : cnt x = 1 + cnts x.vKids := by cases x; simp only [cnt]
theorem cnt_pos : ∀ x, 1 ≤ cnt x ∧ cnt x ≤ wid x := by
  refine indForm fun x ih => ?_
  have : ∀ l : List TExpForm, (∀ y ∈ l, 1 ≤ cnt y ∧ cnt y ≤ wid y) → 0 ≤ cnts l ∧ cnts l ≤ wids l := by
    intro l
    induction l with
    | nil => intro _; simp [cnts, wids]
    | cons y l ihl =>
      intro h
      have := h y (by simp)
      have := ihl fun z hz => h z (List.mem_cons_of_mem _ hz)
      simp only [cnts, wids]; omega
  have := this _ ih
  rw [cnt_mk, wid_mk]
  omega
theorem cnts_le (l : List TExpForm) : 0 ≤ cnts l ∧ cnts l ≤ wids l := by
  induction l with
  | nil => simp [cnts, wids]
  | cons x l ih =>
    have := cnt_pos x
    simp only [cnts, wids]; omega
def okb (x : TExpForm) : Bool := okf x 0 && leB (cnt x) 1500
theorem scopes_spec (l : List Int) (hl : (l.length : Int) ≤ 1000000000) : Ev (fun k => spec_l1ScopesOk.f k l) (scOk l) := by
  simp only [spec_l1ScopesOk.f]
  refine goList l (P := fun i suf => ∀ o : Option Int, (match o with | none => i = 0 | some p => 0 < i ∧ rdAt 0 l (i - 1) = p) → Ev (fun k => spec_l1ScopesOk.l2 k l i) (ascFrom o suf)) ?_ ?_ none rfl
  · intro o ho
    refine Ev.shift ?_
    simp (disch := omega) only [spec_l1ScopesOk.l2, if_neg, ascFrom]
    exact Ev.now _
  · intro i x r h0 h1 hx hm _ _ _ ih o ho
    refine Ev.shift ?_
    simp (disch := omega) only [spec_l1ScopesOk.l2, if_pos, hx, w64, ascFrom]
    by_cases a0 : x < 0
    · simp (disch := omega) only [if_pos, decide_eq_false, Bool.false_and]; exact Ev.now _
    have a0' : decide (0 ≤ x) = true := by simpa using a0
    simp only [if_neg a0, a0', Bool.true_and]
    have ih' := ih (some x) ⟨by omega, by rw [show i + 1 - 1 = i by omega]; exact hx 0⟩
    cases o with
    | none =>
      have ho : i = 0 := ho
      simp (disch := omega) only [if_neg, Bool.true_and]
      exact ih'
    | some p =>
      obtain ⟨o1, o2⟩ : 0 < i ∧ rdAt 0 l (i - 1) = p := ho
      simp (disch := omega) only [if_pos, o2]
      by_cases a1 : x ≤ p
      · simp (disch := omega) only [if_pos, decide_eq_false, Bool.false_and]; exact Ev.now _
      · simp (disch := omega) only [if_neg, decide_eq_true (show p < x by omega), Bool.true_and]; exact ih'
theorem scopes_impl (n : Int) (l : List Int) (hl : (l.length : Int) ≤ 1000000000) : Ev (fun k => impl_expCount.j9 k n l) (if scOk l then n else -1) := by
  simp only [impl_expCount.j9]
  refine goList l (P := fun i suf => ∀ o : Option Int, (match o with | none => i = 0 | some p => 0 < i ∧ rdAt 0 l (i - 1) = p) → Ev (fun k => impl_expCount.l10 k n l (l.length : Int) i l) (if ascFrom o suf then n else -1)) ?_ ?_ none rfl
  · intro o ho
    refine Ev.shift ?_
    simp (disch := omega) only [impl_expCount.l10, if_neg, ascFrom, if_true]
    exact Ev.now _
  · intro i x r h0 h1 hx hm _ _ _ ih o ho
    refine Ev.shift ?_
    simp (disch := omega) only [impl_expCount.l10, if_pos, hx, w64, ascFrom]
    by_cases a0 : x < 0
    · simp (disch := omega) only [if_pos, decide_eq_false, Bool.false_and, Bool.false_eq_true, if_false]; exact Ev.now _
    have a0' : decide (0 ≤ x) = true := by simpa using a0
    simp only [if_neg a0, a0', Bool.true_and]
    have ih' := ih (some x) ⟨by omega, by rw [show i + 1 - 1 = i by omega]; exact hx 0⟩
    cases o with
    | none =>
      have ho : i = 0 := ho
      simp (disch := omega) only [if_neg, Bool.true_and]
      exact ih'
    | some p =>
      obtain ⟨o1, o2⟩ : 0 < i ∧ rdAt 0 l (i - 1) = p := ho
      simp (disch := omega) only [if_pos, o2]
      by_cases a1 : x ≤ p
      · simp (disch := omega) only [if_pos, decide_eq_false, Bool.false_and, Bool.false_eq_true, if_false]; exact Ev.now _
      · simp (disch := omega) only [if_neg, decide_eq_true (show p < x by omega), Bool.true_and]; exact ih'
theorem ok_spec : ∀ (x : TExpForm) (deep : Int), wid x ≤ 1000000000 → 0 ≤ deep → deep ≤ 1000000000 → Ev (fun k => spec_l1Ok.f k x deep) (okf x deep) := by
  refine indForm fun x ih deep hw h0 hd => ?_
  have hp := wid_parts x
  rw [okf_mk]
  refine Ev.shift ?_
  simp only [spec_l1Ok.f]
  by_cases a0 : 60 < deep
  · simp (disch := omega) only [if_pos, decide_eq_false, Bool.false_and]; exact Ev.now _
  simp (disch := omega) only [if_neg a0, decide_eq_true (show deep ≤ 60 by omega), Bool.true_and]
  by_cases a1 : x.vSort = 1
  · simp only [if_pos a1]
    refine Ev.bind (id_spec _ (by omega)) ?_
    cases idB x.vText with
    | false => simp only [Bool.false_eq_true, if_false, Bool.false_and]; exact Ev.now _
    | true =>
      simp only [if_true, Bool.true_and]
      by_cases a2 : (x.vText.size : Int) ≤ 40
      · simp only [if_pos a2, decide_eq_true a2, Bool.true_and]
        by_cases a3 : 0 ≤ x.vFrom
        · simp only [if_pos a3, decide_eq_true a3, Bool.true_and]
          refine Ev.bind (scopes_spec _ (by omega)) ?_
          cases scOk x.vScopes with
          | false => simp only [Bool.false_eq_true, if_false, Bool.false_and]; exact Ev.now _
          | true => simp only [if_true, Bool.true_and]; exact Ev.now _
        · simp only [if_neg a3, decide_eq_false a3, Bool.false_and]; exact Ev.now _
      · simp only [if_neg a2, decide_eq_false a2, Bool.false_and]; exact Ev.now _
  simp only [if_neg a1]
  by_cases a2 : x.vSort = 2
  · simp only [if_pos a2]
    refine Ev.bind (atom_spec _ (by omega)) ?_
    cases atomB x.vText with
    | false => simp only [Bool.false_eq_true, if_false, Bool.false_and]; exact Ev.now _
    | true =>
      simp only [if_true, Bool.true_and]
      by_cases a2 : (x.vText.size : Int) ≤ 40
      · simp only [if_pos a2, decide_eq_true a2, Bool.true_and]
        by_cases a3 : x.vFrom = 0
        · simp (disch := omega) only [if_pos a3, decide_eq_true a3, Bool.true_and, w64]
          by_cases a4 : (x.vScopes.length : Int) = 0
          · rw [decide_eq_true a4, Bool.true_and, a4]; simp only [Int.zero_add]; exact Ev.now _
          · rw [decide_eq_false a4, Bool.false_and]; simp (disch := omega) only [decide_eq_false]; exact Ev.now _
        · simp only [if_neg a3, decide_eq_false a3, Bool.false_and]; exact Ev.now _
      · simp only [if_neg a2, decide_eq_false a2, Bool.false_and]; exact Ev.now _
  simp only [if_neg a2]
  have list : ∀ b : Bool, b = (decide (x.vSort = 3) || decide (x.vSort = 4)) → Ev (fun k => spec_l1Ok.j11b k (spec_l1Ok.f k) (spec_l1Ok.l14 k) deep b x.vSort x.vText x.vScopes x.vFrom x.vKids)
      ((decide (x.vSort = 3) || decide (x.vSort = 4)) && (decide (bytesOf x.vText = []) && (decide (x.vFrom = 0) && (decide ((x.vScopes.length : Int) = 0) && (okfs x.vKids (deep + 1) && (decide (x.vSort = 3) || lastOk x.vKids)))))) := by
    intro b hb
    rw [← hb]
    simp only [spec_l1Ok.j11b, spec_l1Ok.j13b, lit_eq #[] [] rfl]
    cases b with
    | false => simp only [Bool.false_eq_true, if_false, Bool.false_and]; exact Ev.now _
    | true =>
      simp only [if_true, Bool.true_and]
      by_cases a3 : bytesOf x.vText = []
      · simp only [if_neg (decide_not_ne a3), decide_eq_true a3, Bool.true_and]
        by_cases a4 : x.vFrom = 0
        · simp only [if_neg (decide_not_ne a4), decide_eq_true a4, Bool.true_and]
          by_cases a5 : (x.vScopes.length : Int) = 0
          · simp (disch := omega) only [if_neg, decide_eq_true a5, Bool.true_and]
            refine goList x.vKids (P := fun i suf => Ev (fun k => spec_l1Ok.l14 k deep i x.vSort x.vKids) (okfs suf (deep + 1) && (decide (x.vSort = 3) || lastOk x.vKids))) ?_ ?_
            · refine Ev.shift ?_
              simp (disch := omega) only [spec_l1Ok.l14, if_neg, okfs, Bool.true_and]
              by_cases a6 : x.vSort = 3
              · simp only [if_pos a6, decide_eq_true a6, Bool.true_or]; exact Ev.now _
              simp only [if_neg a6, decide_eq_false a6, Bool.false_or, lastOk]
              by_cases a7 : 1 < (x.vKids.length : Int)
              · simp (disch := omega) only [if_pos, w64, decide_eq_true (show 2 ≤ (x.vKids.length : Int) by omega), Bool.true_and]
                by_cases a8 : (rdAt zTExpForm x.vKids ((x.vKids.length : Int) - 1)).vSort = 1
                · simp only [if_pos a8, decide_eq_true a8, Bool.true_or]; exact Ev.now _
                · simp only [if_neg a8, decide_eq_false a8, Bool.false_or]; exact Ev.now _
              · simp (disch := omega) only [if_neg, decide_eq_false (show ¬ 2 ≤ (x.vKids.length : Int) by omega), Bool.false_and]; exact Ev.now _
            · intro i y r h0 h1 hx hm _ _ _ ihr
              have hy := wids_mem hm
              refine Ev.shift ?_
              simp (disch := omega) only [spec_l1Ok.l14, if_pos, hx, eTExpForm_eq, w64, okfs]
              refine Ev.bind (ih y hm (deep + 1) (by omega) (by omega) (by omega)) ?_
              cases okf y (deep + 1) with
              | false => simp only [Bool.false_eq_true, not_false_eq_true, if_true, Bool.false_and]; exact Ev.now _
              | true => simp only [not_true_eq_false, if_false, Bool.true_and]; exact ihr
          · simp (disch := omega) only [if_pos, decide_eq_false a5, Bool.false_and]; exact Ev.now _
        · simp only [if_pos a4, decide_eq_false a4, Bool.false_and]; exact Ev.now _
      · simp only [if_pos a3, decide_eq_false a3, Bool.false_and]; exact Ev.now _
  by_cases a3 : x.vSort = 3
  · simp only [if_pos a3]
    exact list true (by rw [decide_eq_true a3, Bool.true_or])
  · simp only [if_neg a3]
    exact list _ (by rw [decide_eq_false a3, Bool.false_or])
theorem size_spec : ∀ (x : TExpForm), wid x ≤ 1000000000 → Ev (fun k => spec_l1Size.f k x) (cnt x) := by
  refine indForm fun x ih hw => ?_
  have hp := wid_parts x
  rw [cnt_mk]
  refine Ev.shift ?_
  simp only [spec_l1Size.f]
  refine goList x.vKids (P := fun i suf => ∀ n : Int, 1 ≤ n → n + cnts suf ≤ 1000000000 → Ev (fun k => spec_l1Size.l3 k n i x.vKids) (n + cnts suf)) ?_ ?_ 1 (by omega) (by have := cnts_le x.vKids; omega)
  · intro n h1 h2
    refine Ev.shift ?_
    simp (disch := omega) only [spec_l1Size.l3, if_neg, cnts, Int.add_zero]
    exact Ev.now _
  · intro i y r h0 h1 hx hm _ _ _ ihr n hn hs
    have hy := wids_mem hm
    have hc := cnt_pos y
    have hr := cnts_le r
    simp only [cnts] at hs ⊢
    refine Ev.shift ?_
    simp (disch := omega) only [spec_l1Size.l3, if_pos, hx, eTExpForm_eq]
    refine Ev.bind (ih y hm (by omega)) ?_
    simp (disch := omega) only [w64]
    rw [← Int.add_assoc]
    exact ihr _ (by omega) (by omega)
theorem formOk_spec (x : TExpForm) (hw : wid x ≤ 1000000000) : Ev (fun k => spec_ExpFormOk.f k x) (okb x) := by
  simp only [spec_ExpFormOk.f, eTExpForm_eq, okb, leB]
  refine Ev.bind (ok_spec x 0 hw (by omega) (by omega)) ?_
  cases okf x 0 with
  | false => simp only [Bool.false_eq_true, if_false, Bool.false_and]; exact Ev.now _
  | true =>
    simp only [if_true, Bool.true_and]
    exact Ev.bind (size_spec x hw) (Ev.now _)
/-- What the program's count comes to. -/
def counted (x : TExpForm) (deep : Int) : Int := if okf x deep && leB (cnt x) 1500 then cnt x else -1
theorem count_impl : ∀ (x : TExpForm) (deep : Int), wid x ≤ 1000000000 → 0 ≤ deep → deep ≤ 1000000000 → Ev (fun k => impl_expCount.f k x deep) (counted x deep) := by
  refine indForm fun x ih deep hw h0 hd => ?_
  have hp := wid_parts x
  have hcx := cnt_mk x
  unfold counted
  rw [okf_mk]
  refine Ev.shift ?_
  simp only [impl_expCount.f]
  by_cases a0 : 60 < deep
  · simp (disch := omega) only [if_pos, decide_eq_false, Bool.false_and, Bool.false_eq_true, if_false]; exact Ev.now _
  simp (disch := omega) only [if_neg a0, decide_eq_true (show deep ≤ 60 by omega), Bool.true_and]
  by_cases a1 : x.vSort = 1
  · simp only [if_pos a1]
    refine Ev.bind (id_impl _ (by omega)) ?_
    cases idB x.vText with
    | false => simp only [Bool.false_eq_true, not_false_eq_true, if_true, if_false, Bool.false_and]; exact Ev.now _
    | true =>
      simp only [not_true_eq_false, if_false, Bool.true_and]
      by_cases a2 : (x.vText.size : Int) ≤ 40
      · simp (disch := omega) only [if_neg, decide_eq_true a2, Bool.true_and]
        by_cases a3 : 0 ≤ x.vFrom
        · simp (disch := omega) only [if_neg, decide_eq_true a3, Bool.true_and]
          by_cases a4 : (x.vKids.length : Int) = 0
          · have hk : cnt x = 1 := by rw [hcx, List.eq_nil_of_length_eq_zero (by omega : x.vKids.length = 0)]; rfl
            simp (disch := omega) only [if_neg, decide_eq_true a4, Bool.and_true, hk, leB_t (show (1 : Int) ≤ 1500 by decide)]
            exact scopes_impl 1 _ (by omega)
          · simp (disch := omega) only [if_pos, decide_eq_false a4, Bool.and_false, Bool.false_and, Bool.false_eq_true, if_false]; exact Ev.now _
        · simp (disch := omega) only [if_pos, decide_eq_false a3, Bool.false_and, Bool.false_eq_true, if_false]; exact Ev.now _
      · simp (disch := omega) only [if_pos, decide_eq_false a2, Bool.false_and, Bool.false_eq_true, if_false]; exact Ev.now _
  simp only [if_neg a1]
  by_cases a2 : x.vSort = 2
  · simp only [if_pos a2]
    refine Ev.bind (atom_impl _ (by omega)) ?_
    cases atomB x.vText with
    | false => simp only [Bool.false_eq_true, not_false_eq_true, if_true, if_false, Bool.false_and]; exact Ev.now _
    | true =>
      simp only [not_true_eq_false, if_false, Bool.true_and]
      by_cases a2 : (x.vText.size : Int) ≤ 40
      · simp (disch := omega) only [if_neg, decide_eq_true a2, Bool.true_and]
        by_cases a3 : x.vFrom = 0
        · simp only [if_neg (decide_not_ne a3), decide_eq_true a3, Bool.true_and]
          by_cases a5 : (x.vScopes.length : Int) = 0
          · simp (disch := omega) only [if_neg, decide_eq_true a5, Bool.true_and]
            by_cases a4 : (x.vKids.length : Int) = 0
            · have hk : cnt x = 1 := by rw [hcx, List.eq_nil_of_length_eq_zero (by omega : x.vKids.length = 0)]; rfl
              simp (disch := omega) only [if_neg, decide_eq_true a4, Bool.and_true, hk, leB_t (show (1 : Int) ≤ 1500 by decide), if_true]
              exact Ev.now _
            · simp (disch := omega) only [if_pos, decide_eq_false a4, Bool.and_false, Bool.false_and, Bool.false_eq_true, if_false]; exact Ev.now _
          · simp (disch := omega) only [if_pos, decide_eq_false a5, Bool.false_and, Bool.false_eq_true, if_false]; exact Ev.now _
        · simp only [if_pos a3, decide_eq_false a3, Bool.false_and, Bool.false_eq_true, if_false]; exact Ev.now _
      · simp (disch := omega) only [if_pos, decide_eq_false a2, Bool.false_and, Bool.false_eq_true, if_false]; exact Ev.now _
  simp only [if_neg a2]
  have kids : (decide (x.vSort = 3) || lastOk x.vKids) = true → Ev (fun k => impl_expCount.l27 k deep 1 x.vKids (x.vKids.length : Int) 0) (if okfs x.vKids (deep + 1) && leB (cnt x) 1500 then cnt x else -1) := by
    intro _
    rw [hcx]
    refine goList x.vKids (P := fun i suf => ∀ n : Int, 1 ≤ n → n ≤ 1500 → Ev (fun k => impl_expCount.l27 k deep n x.vKids (x.vKids.length : Int) i) (if okfs suf (deep + 1) && leB (n + cnts suf) 1500 then n + cnts suf else -1)) ?_ ?_ 1 (by omega) (by omega)
    · intro n h1 h2
      refine Ev.shift ?_
      simp (disch := omega) only [impl_expCount.l27, if_neg, cnts, Int.add_zero, okfs, Bool.true_and, leB_t h2, if_true]
      exact Ev.now _
    · intro i y r h0 h1 hx hm _ _ _ ihr n hn hs
      have hy := wids_mem hm
      have hc := cnt_pos y
      have hr := cnts_le r
      refine Ev.shift ?_
      simp (disch := omega) only [impl_expCount.l27, if_pos, hx, eTExpForm_eq, w64, okfs, cnts]
      refine Ev.bind (ih y hm (deep + 1) (by omega) (by omega) (by omega)) ?_
      unfold counted
      by_cases b1 : okf y (deep + 1) = true
      · by_cases b2 : cnt y ≤ 1500
        · simp (disch := omega) only [b1, leB_t b2, Bool.and_self, if_true, if_neg, w64, Bool.true_and]
          by_cases b3 : 1500 < n + cnt y
          · have : ¬ n + (cnt y + cnts r) ≤ 1500 := by omega
            simp only [if_pos b3, leB_f this, Bool.and_false, Bool.false_eq_true, if_false]; exact Ev.now _
          · simp only [if_neg b3]
            rw [← Int.add_assoc]
            exact ihr _ (by omega) (by omega)
        · have : ¬ n + (cnt y + cnts r) ≤ 1500 := by omega
          simp (disch := decide) only [leB_f b2, leB_f this, Bool.and_false, Bool.false_eq_true, if_false, if_pos]; exact Ev.now _
      · simp (disch := decide) only [Bool.eq_false_iff.2 b1, Bool.false_and, Bool.false_eq_true, if_false, if_pos]; exact Ev.now _
  have list : ∀ b : Bool, b = (decide (x.vSort = 3) || decide (x.vSort = 4)) → Ev (fun k => impl_expCount.j20b k (impl_expCount.f k) (impl_expCount.l27 k) deep 1 b x.vSort x.vText x.vScopes x.vFrom x.vKids)
      (if (decide (x.vSort = 3) || decide (x.vSort = 4)) && (decide (bytesOf x.vText = []) && (decide (x.vFrom = 0) && (decide ((x.vScopes.length : Int) = 0) && (okfs x.vKids (deep + 1) && (decide (x.vSort = 3) || lastOk x.vKids))))) && leB (cnt x) 1500 then cnt x else -1) := by
    intro b hb
    rw [← hb]
    simp only [impl_expCount.j20b, impl_expCount.j22b, impl_expCount.j26b, lit_eq #[] [] rfl]
    cases b with
    | false => simp only [Bool.false_eq_true, if_false, Bool.false_and]; exact Ev.now _
    | true =>
      simp only [if_true, Bool.true_and]
      by_cases a3 : bytesOf x.vText = []
      · simp only [if_neg (decide_not_ne a3), decide_eq_true a3, Bool.true_and]
        by_cases a4 : x.vFrom = 0
        · simp only [if_neg (decide_not_ne a4), decide_eq_true a4, Bool.true_and]
          by_cases a5 : (x.vScopes.length : Int) = 0
          · simp (disch := omega) only [if_neg, decide_eq_true a5, Bool.true_and]
            by_cases a6 : x.vSort = 4
            · have a7 : ¬ x.vSort = 3 := by omega
              simp only [if_pos a6, decide_eq_false a7, Bool.false_or]
              by_cases a8 : (x.vKids.length : Int) < 2
              · have : lastOk x.vKids = false := by unfold lastOk; rw [decide_eq_false (by omega)]; rfl
                simp only [if_pos a8, this, Bool.and_false, Bool.false_and, Bool.false_eq_true, if_false]; exact Ev.now _
              · have a8' : 2 ≤ (x.vKids.length : Int) := by omega
                simp (disch := omega) only [if_neg a8, if_pos, w64]
                by_cases a9 : (rdAt zTExpForm x.vKids ((x.vKids.length : Int) - 1)).vSort = 1
                · have : lastOk x.vKids = true := by unfold lastOk; rw [decide_eq_true a8', decide_eq_true a9]; rfl
                  simp only [if_neg (decide_not_ne a9), this, Bool.and_true]
                  exact kids (by rw [this, Bool.or_true])
                · simp only [if_pos a9]
                  by_cases a10 : (rdAt zTExpForm x.vKids ((x.vKids.length : Int) - 1)).vSort = 2
                  · have : lastOk x.vKids = true := by unfold lastOk; rw [decide_eq_true a8', decide_eq_true a10, Bool.or_true]; rfl
                    simp only [if_neg (decide_not_ne a10), this, Bool.and_true]
                    exact kids (by rw [this, Bool.or_true])
                  · have : lastOk x.vKids = false := by unfold lastOk; rw [decide_eq_false a9, decide_eq_false a10, Bool.and_comm]; rfl
                    simp only [if_pos a10, this, Bool.and_false, Bool.false_and, Bool.false_eq_true, if_false]; exact Ev.now _
            · have a7 : x.vSort = 3 := by
                simp only [Bool.true_eq, Bool.or_eq_true, decide_eq_true_eq] at hb; omega
              simp only [if_neg a6, decide_eq_true a7, Bool.true_or, Bool.and_true]
              exact kids (by rw [decide_eq_true a7, Bool.true_or])
          · simp (disch := omega) only [if_pos, decide_eq_false a5, Bool.false_and, Bool.false_eq_true, if_false]; exact Ev.now _
        · simp only [if_pos a4, decide_eq_false a4, Bool.false_and, Bool.false_eq_true, if_false]; exact Ev.now _
      · simp only [if_pos a3, decide_eq_false a3, Bool.false_and, Bool.false_eq_true, if_false]; exact Ev.now _
  by_cases a3 : x.vSort = 3
  · simp only [if_pos a3]
    exact list true (by rw [decide_eq_true a3, Bool.true_or])
  · simp only [if_neg a3]
    exact list _ (by rw [decide_eq_false a3, Bool.false_or])
theorem formOk_impl (x : TExpForm) (hw : wid x ≤ 1000000000) : Ev (fun k => impl_ExpFormOk.f k x) (okb x) := by
  simp only [impl_ExpFormOk.f, eTExpForm_eq]
  refine Ev.bind (count_impl x 0 hw (by omega) (by omega)) ?_
  have := cnt_pos x
  unfold counted okb
  by_cases h : (okf x 0 && leB (cnt x) 1500) = true
  · rw [if_pos h, h, decide_eq_true (by omega)]; exact Ev.now _
  · rw [if_neg h, Bool.eq_false_iff.2 h]; exact Ev.now _
end Go.Proofs.YtmcbhnbemhfifaaDoor.RX
namespace Go.Proofs.YtmcbhnbemhfifaaDoor.RX
open Go K
set_option autoImplicit false
set_option linter.unusedVariables false
set_option linter.unusedSimpArgs false
/-- Ascending numbers and one more. -/
def put (n : Int) : List Int → List Int
  | [] => [n]
  | x :: l => if x < n then x :: put n l else if x = n then x :: l else n :: x :: l
theorem put_length (n : Int) (l : List Int) : (put n l).length ≤ l.length + 1 := by
  induction l with
  | nil => simp [put]
  | cons x l ih =>
    simp only [put]
    split
    · simp only [List.length_cons]; omega
    · split <;> simp only [List.length_cons] <;> omega
theorem add_impl (l : List Int) (n : Int) (hl : (l.length : Int) ≤ 1000000000) : Ev (fun k => impl_expAdd.f k l n) (put n l) := by
  simp only [impl_expAdd.f]
  have done : ∀ out : List Int, ∀ m : Nat, m ≤ l.length → (out.length : Int) ≤ (m : Int) + 1 → Ev (fun k => impl_expAdd.l4 k n true l (l.length : Int) (m : Int) out) (out ++ l.drop m) := by
    intro out m hm ho
    refine goFrom l (P := fun i suf => ∀ out : List Int, (out.length : Int) ≤ i + 1 → Ev (fun k => impl_expAdd.l4 k n true l (l.length : Int) i out) (out ++ suf)) ?_ ?_ m hm out ho
    · intro out ho
      refine Ev.shift ?_
      simp (disch := omega) only [impl_expAdd.l4, if_neg, not_true_eq_false, if_false, List.append_nil]
      exact Ev.now _
    · intro i x r h0 h1 hx hm _ _ _ ih out ho
      refine Ev.shift ?_
      simp (disch := first | omega | (simp; omega)) only [impl_expAdd.l4, if_pos, hx, w64, not_true_eq_false, if_false, impl_expAdd.j10b]
      exact Ev.eq (ih (out ++ [x]) (by simp; omega)) (by simp)
  refine goList l (P := fun i suf => ∀ out : List Int, (out.length : Int) ≤ i → Ev (fun k => impl_expAdd.l4 k n false l (l.length : Int) i out) (out ++ put n suf)) ?_ ?_ [] (by simp)
  · intro out ho
    refine Ev.shift ?_
    simp (disch := first | omega | (simp; omega)) only [impl_expAdd.l4, if_neg, Bool.false_eq_true, not_false_eq_true, if_true, if_pos, put]
    exact Ev.now _
  · intro i x r h0 h1 hx hm _ hdr _ ih out ho
    have e : (i.toNat : Int) = i := by omega
    have d1 := fun o (h : (o.length : Int) ≤ (((i.toNat + 1 : Nat)) : Int) + 1) => done o (i.toNat + 1) (by omega) h
    have e1 : l.drop (i.toNat + 1) = r := by rw [← List.drop_drop, hdr]; rfl
    rw [e1] at d1
    refine Ev.shift ?_
    simp (disch := omega) only [impl_expAdd.l4, if_pos, hx, w64, Bool.false_eq_true, not_false_eq_true, if_true, put]
    have e2 : ((i.toNat + 1 : Nat) : Int) = i + 1 := by omega
    rw [e2] at d1
    by_cases h1 : x < n
    · simp (disch := first | omega | (simp; omega)) only [if_neg, if_pos, impl_expAdd.j10b, w64]
      exact Ev.eq (ih (out ++ [x]) (by simp; omega)) (by simp)
    by_cases h2 : x = n
    · simp (disch := first | omega | (simp; omega)) only [if_neg, if_pos, impl_expAdd.j10b, w64]
      exact Ev.eq (d1 (out ++ [x]) (by simp; omega)) (by simp)
    · simp (disch := first | omega | (simp; omega)) only [if_neg, if_pos, impl_expAdd.j10b, w64]
      exact Ev.eq (d1 (out ++ [n] ++ [x]) (by simp; omega)) (by simp)
theorem put_spec (l : List Int) (n : Int) (hl : (l.length : Int) ≤ 1000000000) : Ev (fun k => spec_l2Put.f k l n) (put n l) := by
  simp only [spec_l2Put.f]
  have d6 : ∀ i : Int, 0 ≤ i → i ≤ (l.length : Int) → Ev (fun k => spec_l2Put.d6 k l n i) (l.take i.toNat ++ n :: l.drop i.toNat) := by
    intro i h0 h1
    simp (disch := first | omega | (simp; omega)) only [spec_l2Put.d6, if_pos]
    refine Ev.eq (Ev.now _) ?_
    simp
  refine Ev.eq (goList l (P := fun i suf => 0 ≤ i → i ≤ (l.length : Int) → suf = l.drop i.toNat → Ev (fun k => spec_l2Put.l2 k l n i) (l.take i.toNat ++ put n suf)) ?_ ?_ (by omega) (by omega) rfl) (by simp)
  · intro h0 h1 hs
    refine Ev.shift ?_
    simp (disch := omega) only [spec_l2Put.l2, if_neg, put]
    refine Ev.eq (d6 _ h0 h1) ?_
    simp
  · intro i x r h0 h1 hx hm _ hdr htk ih _ _ hs
    have e1 : l.drop (i + 1).toNat = r := by
      rw [show (i + 1).toNat = i.toNat + 1 by omega, ← List.drop_drop, hdr]; rfl
    refine Ev.shift ?_
    simp (disch := omega) only [spec_l2Put.l2, if_pos, hx, w64, put]
    by_cases h1 : x < n
    · simp (disch := omega) only [if_pos]
      refine Ev.eq (ih (by omega) (by omega) e1.symm) ?_
      rw [show (i + 1).toNat = i.toNat + 1 by omega, htk]; simp
    by_cases h2 : x = n
    · simp (disch := first | omega | (simp; omega)) only [if_neg, if_pos]
      refine Ev.eq (Ev.now _) ?_
      rw [← hdr]; simp
    · simp (disch := omega) only [if_neg]
      refine Ev.eq (d6 i h0 (by omega)) ?_
      rw [hdr]
-- ------------------------------------------------------------ forms with other scopes
mutual
/-- A form, each identifier's scopes turned. -/
def wf (g : List Int → List Int) : TExpForm → TExpForm
  | ⟨a, t, s, d, ks⟩ => if a = 1 then ⟨a, t, g s, d, ks⟩ else ⟨a, t, s, d, wfs g ks⟩
def wfs (g : List Int → List Int) : List TExpForm → List TExpForm
  | [] => []
  | x :: l => wf g x :: wfs g l
end
theorem wf_mk (g : List Int → List Int) (x : TExpForm) : wf g x = if x.vSort = 1 then ⟨x.vSort, x.vText, g x.vScopes, x.vFrom, x.vKids⟩ else ⟨x.vSort, x.vText, x.vScopes, x.vFrom, wfs g x.vKids⟩ := by cases x; simp only [wf]
theorem wf_one (g : List Int → List Int) {x : TExpForm} (h : x.vSort = 1) : wf g x = ⟨x.vSort, x.vText, g x.vScopes, x.vFrom, x.vKids⟩ := by rw [wf_mk, if_pos h]
theorem wf_not (g : List Int → List Int) {x : TExpForm} (h : ¬ x.vSort = 1) : wf g x = ⟨x.vSort, x.vText, x.vScopes, x.vFrom, wfs g x.vKids⟩ := by rw [wf_mk, if_neg h]
theorem wf_sort (g : List Int → List Int) (x : TExpForm) : (wf g x).vSort = x.vSort := by rw [wf_mk]; split <;> rfl
theorem wfs_length (g : List Int → List Int) (l : List TExpForm) : (wfs g l).length = l.length := by
  induction l with
  | nil => rfl
  | cons x l ih => simp only [wfs, List.length_cons, ih]
theorem wfs_map (g : List Int → List Int) (l : List TExpForm) : wfs g l = l.map (wf g) := by
  induction l with
  | nil => rfl
  | cons x l ih => simp only [wfs, List.map_cons, ih]
end Go.Proofs.YtmcbhnbemhfifaaDoor.RX
namespace Go.Proofs.YtmcbhnbemhfifaaDoor.RX
open Go K
set_option autoImplicit false
set_option linter.unusedVariables false
set_option linter.unusedSimpArgs false
theorem okfs_mem {l : List TExpForm} {d : Int} (h : okfs l d = true) : ∀ x ∈ l, okf x d = true := by
  induction l with
  | nil => intro x hx; cases hx
  | cons y l ih =>
    simp only [okfs, Bool.and_eq_true] at h
    intro x hx
    rcases List.mem_cons.1 hx with rfl | hx
    · exact h.1
    · exact ih h.2 x hx
theorem okf_idk {x : TExpForm} {d : Int} (h : okf x d = true) (h1 : x.vSort = 1) : x.vKids = [] := by
  rw [okf_mk, if_pos h1] at h
  simp only [Bool.and_eq_true, decide_eq_true_eq] at h
  exact List.eq_nil_of_length_eq_zero (by omega)
theorem okf_atk {x : TExpForm} {d : Int} (h : okf x d = true) (h2 : x.vSort = 2) : x.vKids = [] := by
  rw [okf_mk, if_neg (by omega), if_pos h2] at h
  simp only [Bool.and_eq_true, decide_eq_true_eq] at h
  exact List.eq_nil_of_length_eq_zero (by omega)
theorem okf_sc {x : TExpForm} {d : Int} (h : okf x d = true) (h1 : ¬ x.vSort = 1) : x.vScopes = [] := by
  rw [okf_mk, if_neg h1] at h
  simp only [Bool.and_eq_true] at h
  have h := h.2
  by_cases h2 : x.vSort = 2
  · rw [if_pos h2] at h
    simp only [Bool.and_eq_true, decide_eq_true_eq] at h
    exact List.eq_nil_of_length_eq_zero (by omega)
  · rw [if_neg h2] at h
    simp only [Bool.and_eq_true, decide_eq_true_eq] at h
    exact List.eq_nil_of_length_eq_zero (by omega)
theorem okf_kid {x : TExpForm} {d : Int} (h : okf x d = true) (h1 : ¬ x.vSort = 1) : ∀ y ∈ x.vKids, okf y (d + 1) = true := by
  by_cases h2 : x.vSort = 2
  · rw [okf_atk h h2]; intro y hy; cases hy
  · rw [okf_mk, if_neg h1, if_neg h2] at h
    simp only [Bool.and_eq_true] at h
    exact okfs_mem h.2.2.2.2.2.1
/-- Scopes turned: a form is at most twice as large. -/
theorem wid_wf {g : List Int → List Int} (hg : ∀ l, (g l).length ≤ l.length + 1) : ∀ x, wid (wf g x) ≤ 2 * wid x := by
  refine indForm fun x ih => ?_
  have hp := wid_mk x
  have hq := (wids_len x.vKids).1
  by_cases h : x.vSort = 1
  · rw [wf_one g h, wid_c]
    have := hg x.vScopes
    omega
  · rw [wf_not g h, wid_c]
    have key : ∀ l : List TExpForm, (∀ y ∈ l, wid (wf g y) ≤ 2 * wid y) → wids (wfs g l) ≤ 2 * wids l := by
      intro l
      induction l with
      | nil => intro _; simp [wfs, wids]
      | cons y l ihl =>
        intro h
        have h1 := h y (by simp)
        have h2 := ihl fun z hz => h z (List.mem_cons_of_mem _ hz)
        simp only [wfs, wids]; omega
    have := key _ ih
    omega
end Go.Proofs.YtmcbhnbemhfifaaDoor.RX
namespace Go.Proofs.YtmcbhnbemhfifaaDoor.RX
open Go K
set_option autoImplicit false
set_option linter.unusedVariables false
set_option linter.unusedSimpArgs false
/-- Numbers without one. -/
def less (n : Int) : List Int → List Int
  | [] => []
  | x :: l => if x = n then less n l else x :: less n l
def flip (n : Int) (l : List Int) : List Int := if l.contains n = true then less n l else put n l
theorem less_length (n : Int) (l : List Int) : (less n l).length ≤ l.length := by
  induction l with
  | nil => simp [less]
  | cons x l ih => simp only [less]; split <;> simp only [List.length_cons] <;> omega
theorem flip_length (n : Int) (l : List Int) : (flip n l).length ≤ l.length + 1 := by
  unfold flip
  split
  · have := less_length n l; omega
  · exact put_length n l
theorem has_impl (l : List Int) (n : Int) (hl : (l.length : Int) ≤ 1000000000) : Ev (fun k => impl_expHas.f k l n) (l.contains n) := by
  simp only [impl_expHas.f]
  refine goList l (P := fun i suf => Ev (fun k => impl_expHas.l2 k n l (l.length : Int) i) (suf.contains n)) ?_ ?_
  · refine Ev.shift ?_
    simp (disch := omega) only [impl_expHas.l2, if_neg, List.contains_nil]
    exact Ev.now _
  · intro i x r h0 h1 hx hm _ _ _ ih
    refine Ev.shift ?_
    simp (disch := omega) only [impl_expHas.l2, if_pos, hx, w64, List.contains_cons]
    by_cases h : x = n
    · subst h; simp only [if_true, beq_self_eq_true, Bool.true_or]; exact Ev.now _
    · have h' : (n == x) = false := by simpa using fun e => h e.symm
      simp only [if_neg h, h', Bool.false_or]; exact ih
theorem has_spec (l : List Int) (n : Int) (hl : (l.length : Int) ≤ 1000000000) : Ev (fun k => spec_l2Has.f k l n) (l.contains n) := by
  simp only [spec_l2Has.f]
  refine goList l (P := fun i suf => Ev (fun k => spec_l2Has.l2 k l n i) (suf.contains n)) ?_ ?_
  · refine Ev.shift ?_
    simp (disch := omega) only [spec_l2Has.l2, if_neg, List.contains_nil]
    exact Ev.now _
  · intro i x r h0 h1 hx hm _ _ _ ih
    refine Ev.shift ?_
    simp (disch := omega) only [spec_l2Has.l2, if_pos, hx, w64, List.contains_cons]
    by_cases h : x = n
    · subst h; simp only [if_true, beq_self_eq_true, Bool.true_or]; exact Ev.now _
    · have h' : (n == x) = false := by simpa using fun e => h e.symm
      simp only [if_neg h, h', Bool.false_or]; exact ih
theorem drop_impl (l : List Int) (n : Int) (hl : (l.length : Int) ≤ 1000000000) : Ev (fun k => impl_expDrop.f k l n) (less n l) := by
  simp only [impl_expDrop.f]
  refine goList l (P := fun i suf => ∀ out : List Int, (out.length : Int) ≤ i → Ev (fun k => impl_expDrop.l3 k n l (l.length : Int) i out) (out ++ less n suf)) ?_ ?_ [] (by simp)
  · intro out ho
    refine Ev.shift ?_
    simp (disch := omega) only [impl_expDrop.l3, if_neg, less, List.append_nil]
    exact Ev.now _
  · intro i x r h0 h1 hx hm _ _ _ ih out ho
    refine Ev.shift ?_
    simp (disch := omega) only [impl_expDrop.l3, if_pos, hx, w64, less]
    by_cases h : x = n
    · simp only [if_neg (decide_not_ne h), if_pos h]; exact ih out (by omega)
    · simp (disch := (simp; omega)) only [if_neg h, if_pos h, if_pos]
      exact Ev.eq (ih (out ++ [x]) (by simp; omega)) (by simp)
theorem take_spec (l : List Int) (n : Int) (hl : (l.length : Int) ≤ 1000000000) : Ev (fun k => spec_l2Take.f k l n) (less n l) := by
  simp only [spec_l2Take.f]
  refine goList l (P := fun i suf => ∀ out : List Int, (out.length : Int) ≤ i → Ev (fun k => spec_l2Take.l3 k l n i out) (out ++ less n suf)) ?_ ?_ [] (by simp)
  · intro out ho
    refine Ev.shift ?_
    simp (disch := omega) only [spec_l2Take.l3, if_neg, less, List.append_nil]
    exact Ev.now _
  · intro i x r h0 h1 hx hm _ _ _ ih out ho
    refine Ev.shift ?_
    simp (disch := omega) only [spec_l2Take.l3, if_pos, hx, w64, less]
    by_cases h : x = n
    · simp only [if_neg (decide_not_ne h), if_pos h]; exact ih out (by omega)
    · simp (disch := (simp; omega)) only [if_neg h, if_pos h, if_pos]
      exact Ev.eq (ih (out ++ [x]) (by simp; omega)) (by simp)
end Go.Proofs.YtmcbhnbemhfifaaDoor.RX
namespace Go.Proofs.YtmcbhnbemhfifaaDoor.RX
open Go K
set_option autoImplicit false
set_option linter.unusedVariables false
set_option linter.unusedSimpArgs false
theorem flip_own : ∀ (n : Int) (x : TExpForm) (d : Int), okf x d = true → wid x ≤ 1000000000 → Ev (fun k => impl_expMap.f k x n) ((wf (flip n) x).vSort, (wf (flip n) x).vText, (wf (flip n) x).vFrom, n, (wf (flip n) x).vScopes, (wf (flip n) x).vKids) := by
  intro n
  refine indForm fun x ih d hx hw => ?_
  have hp := wid_parts x
  refine Ev.shift ?_
  simp only [impl_expMap.f, impl_expFlip_1.f]
  by_cases h : x.vSort = 1
  · have hk := okf_idk hx h
    simp only [if_pos h, wf_one _ h]
    refine Ev.bind (r := (n, flip n x.vScopes)) (Ev.bind (has_impl x.vScopes n (by omega)) ?_) ?_
    · by_cases hc : x.vScopes.contains n = true
      · simp only [flip, if_pos hc]; exact Ev.bind (drop_impl x.vScopes n (by omega)) (Ev.now _)
      · simp only [flip, if_neg hc]; exact Ev.bind (add_impl x.vScopes n (by omega)) (Ev.now _)
    simp only [hk, List.length_nil, if_true]
    exact Ev.now _
  · have hs := okf_sc hx h
    have hk := okf_kid hx h
    simp only [if_neg h, wf_not _ h, hs]
    refine goList x.vKids (P := fun i suf => ∀ out : List TExpForm, (out.length : Int) = i → Ev (fun k => impl_expMap.l6 k x.vKids (x.vKids.length : Int) i n x.vSort x.vText [] x.vFrom out) (x.vSort, x.vText, x.vFrom, n, [], out ++ wfs (flip n) suf)) ?_ ?_ [] rfl
    · intro out ho
      refine Ev.shift ?_
      simp (disch := omega) only [impl_expMap.l6, if_neg, wfs, List.append_nil, List.length_nil, if_true]
      exact Ev.now _
    · intro i y r h0 h1 hx hm _ _ _ ihr out ho
      have hy := wids_mem hm
      refine Ev.shift ?_
      simp (disch := omega) only [impl_expMap.l6, if_pos, hx, w64, wfs, eTExpForm_eq]
      refine Ev.bind (ih y hm (d + 1) (hk y hm) (by omega)) ?_
      simp (disch := first | omega | (simp; omega)) only [if_pos, mTExpForm]
      exact Ev.eq (ihr (out ++ [wf (flip n) y]) (by simp; omega)) (by simp)
theorem flip_spec : ∀ (n : Int) (x : TExpForm), wid x ≤ 1000000000 → Ev (fun k => spec_l2Flip.f k x n) (wf (flip n) x) := by
  intro n
  refine indForm fun x ih hw => ?_
  have hp := wid_parts x
  refine Ev.shift ?_
  simp only [spec_l2Flip.f, eTExpForm_eq]
  refine Ev.bind (copy_all x (by omega)) ?_
  by_cases h : x.vSort = 1
  · simp only [if_pos h, wf_one _ h, flip]
    refine Ev.bind (has_spec x.vScopes n (by omega)) ?_
    by_cases hc : x.vScopes.contains n = true
    · simp only [if_pos hc]; exact Ev.bind (take_spec x.vScopes n (by omega)) (Ev.now _)
    · simp only [if_neg hc]; exact Ev.bind (put_spec x.vScopes n (by omega)) (Ev.now _)
  · simp only [if_neg h, wf_not _ h]
    refine goList x.vKids (P := fun i suf => ∀ out : List TExpForm, (out.length : Int) = i → Ev (fun k => spec_l2Flip.l8 k n i x.vSort x.vText x.vFrom x.vScopes (out ++ suf)) (⟨x.vSort, x.vText, x.vScopes, x.vFrom, out ++ wfs (flip n) suf⟩)) ?_ ?_ [] rfl
    · intro out ho
      refine Ev.shift ?_
      simp (disch := first | omega | (simp; omega)) only [spec_l2Flip.l8, if_neg, wfs, List.append_nil]
      exact Ev.now _
    · intro i y r h0 h1 hx hm hl _ _ ihr out ho
      have hy := wids_mem hm
      refine Ev.shift ?_
      simp (disch := first | omega | (simp; omega)) only [spec_l2Flip.l8, if_pos, w64, wfs, eTExpForm_eq, spec_l2Flip.d10b, mid_getD ho, mid_set ho]
      refine Ev.bind (ih y hm (by omega)) ?_
      exact Ev.eq (ihr (out ++ [wf (flip n) y]) (by simp; omega)) (by simp)
end Go.Proofs.YtmcbhnbemhfifaaDoor.RX
namespace Go.Proofs.YtmcbhnbemhfifaaDoor.RX
open Go K
set_option autoImplicit false
set_option linter.unusedVariables false
set_option linter.unusedSimpArgs false
theorem indLForm {P : Tlaws_ExpForm → Prop} (h : ∀ x : Tlaws_ExpForm, (∀ y ∈ x.vKids, P y) → P x) : ∀ x, P x := by
  have key : ∀ n (x : Tlaws_ExpForm), SizeOf.sizeOf x < n → P x := by
    intro n
    induction n with
    | zero => intro x hx; omega
    | succ n ih =>
      intro x hx
      refine h x (fun y hy => ih y ?_)
      have h1 := List.sizeOf_lt_of_mem hy
      cases x
      simp at h1 hx ⊢
      omega
  exact fun x => key _ x (Nat.lt_succ_self _)
mutual
/-- Sizes that a machine may hold. -/
def lokF : Tlaws_ExpForm → Prop
  | ⟨_, t, sc, _, ks⟩ => t.size ≤ 9223372036854775807 ∧ sc.length ≤ 9223372036854775807 ∧ ks.length ≤ 9223372036854775807 ∧ lokFs ks
def lokFs : List Tlaws_ExpForm → Prop
  | [] => True
  | x :: l => lokF x ∧ lokFs l
end
theorem lokF_mk (x : Tlaws_ExpForm) : lokF x ↔ x.vText.size ≤ 9223372036854775807 ∧ x.vScopes.length ≤ 9223372036854775807 ∧ x.vKids.length ≤ 9223372036854775807 ∧ lokFs x.vKids := by cases x; simp only [lokF]
theorem lokFs_mem {l : List Tlaws_ExpForm} (h : lokFs l) : ∀ x ∈ l, lokF x := by
  induction l with
  | nil => intro x hx; cases hx
  | cons y l ih =>
    intro x hx
    rcases List.mem_cons.1 hx with rfl | hx
    · exact h.1
    · exact ih h.2 x hx
theorem lokFs_all {l : List Tlaws_ExpForm} (h : ∀ x ∈ l, lokF x) : lokFs l := by
  induction l with
  | nil => trivial
  | cons y l ih => exact ⟨h y (by simp), ih fun x hx => h x (List.mem_cons_of_mem _ hx)⟩
mutual
/-- What the law counts. -/
def lwid : Tlaws_ExpForm → Int
  | ⟨_, t, sc, _, ks⟩ => (t.size : Int) + (sc.length : Int) + ((ks.length : Int) + lwids ks)
def lwids : List Tlaws_ExpForm → Int
  | [] => 0
  | x :: l => lwid x + lwids l
end
theorem lwid_mk (x : Tlaws_ExpForm) : lwid x = (x.vText.size : Int) + (x.vScopes.length : Int) + ((x.vKids.length : Int) + lwids x.vKids) := by cases x; simp only [lwid]
mutual
/-- The form of the program that is one of the law. -/
def cv : Tlaws_ExpForm → TExpForm
  | ⟨a, t, sc, d, ks⟩ => ⟨a, t, sc, d, cvs ks⟩
def cvs : List Tlaws_ExpForm → List TExpForm
  | [] => []
  | x :: l => cv x :: cvs l
end
theorem cv_mk (x : Tlaws_ExpForm) : cv x = ⟨x.vSort, x.vText, x.vScopes, x.vFrom, cvs x.vKids⟩ := by cases x; simp only [cv]
theorem cvs_length (l : List Tlaws_ExpForm) : (cvs l).length = l.length := by
  induction l with
  | nil => rfl
  | cons x l ih => simp only [cvs, List.length_cons, ih]
theorem wid_cv : ∀ x, wid (cv x) = 1 + lwid x := by
  refine indLForm fun x ih => ?_
  have key : ∀ l : List Tlaws_ExpForm, (∀ y ∈ l, wid (cv y) = 1 + lwid y) → wids (cvs l) = (l.length : Int) + lwids l := by
    intro l
    induction l with
    | nil => intro _; rfl
    | cons y l ihl =>
      intro h
      have h1 := h y (by simp)
      have h2 := ihl fun z hz => h z (List.mem_cons_of_mem _ hz)
      simp only [cvs, wids, lwids, List.length_cons]; omega
  rw [cv_mk, wid_c, key _ ih, lwid_mk]
  omega
theorem wids_cvs (l : List Tlaws_ExpForm) : wids (cvs l) = (l.length : Int) + lwids l := by
  induction l with
  | nil => rfl
  | cons y l ih => have := wid_cv y; simp only [cvs, wids, lwids, List.length_cons]; omega
theorem lwid_pos (x : Tlaws_ExpForm) : 0 ≤ lwid x := by have := wid_cv x; have := wid_pos (cv x); omega
theorem lwids_pos (l : List Tlaws_ExpForm) : 0 ≤ lwids l := by
  induction l with
  | nil => simp [lwids]
  | cons x l ih => have := lwid_pos x; simp only [lwids]; omega
theorem lwids_mem {l : List Tlaws_ExpForm} {x : Tlaws_ExpForm} (h : x ∈ l) : lwid x ≤ lwids l := by
  induction l with
  | nil => cases h
  | cons y l ih =>
    have h1 := lwid_pos y
    have h2 := lwids_pos l
    simp only [lwids]
    rcases List.mem_cons.1 h with rfl | h
    · omega
    · have := ih h; omega
/-- What is left. -/
def leftI (n left : Int) : Int := if n ≤ left then left - n else -1
theorem leftI_in {n left : Int} (h : n ≤ left) : leftI n left = left - n := if_pos h
theorem leftI_out {n left : Int} (h : ¬ n ≤ left) : leftI n left = -1 := if_neg h
theorem szInts (l : List Int) (n : Int) (h0 : 0 ≤ n) (h1 : n ≤ 1048576) (hl : l.length ≤ 9223372036854775807) : Ev (fun k => laws_szIntS.f k l n) (leftI (l.length : Int) n) := by
  simp (disch := omega) only [laws_szIntS.f, w64]
  by_cases h : (l.length : Int) ≤ n
  · simp (disch := omega) only [if_neg, leftI_in h]; exact Ev.now _
  · simp (disch := omega) only [if_pos, leftI_out h]; exact Ev.now _
theorem szForms_of (l : List Tlaws_ExpForm) (n : Int) (h0 : 0 ≤ n) (h1 : n ≤ 1048576) (hl : l.length ≤ 9223372036854775807) (hP : ∀ y ∈ l, ∀ n : Int, 0 ≤ n → n ≤ 1048576 → Ev (fun k => laws_szExpForm.f k y n) (leftI (lwid y) n)) :
    Ev (fun k => laws_szExpFormS.f k l n) (leftI ((l.length : Int) + lwids l) n) := by
  have hp := lwids_pos l
  refine Ev.shift ?_
  simp (disch := omega) only [laws_szExpFormS.f, w64]
  by_cases h : (l.length : Int) ≤ n
  · simp (disch := omega) only [if_neg]
    have key := goList l (P := fun i suf => ∀ m : Int, 0 ≤ m → m ≤ 1048576 → Ev (fun k => laws_szExpFormS.l5 k l m i) (leftI (lwids suf) m)) ?_ ?_ (n - (l.length : Int)) (by omega) (by omega)
    · refine Ev.eq key ?_
      by_cases h2 : lwids l ≤ n - (l.length : Int)
      · rw [leftI_in h2, leftI_in (by omega)]; omega
      · rw [leftI_out h2, leftI_out (by omega)]
    · intro m m0 m1
      refine Ev.shift ?_
      simp (disch := omega) only [laws_szExpFormS.l5, if_neg, lwids, leftI_in m0, Int.sub_zero]
      exact Ev.now _
    · intro i y r i0 i1 hx hm hlen _ _ ih m m0 m1
      have hy := lwid_pos y
      have hr := lwids_pos r
      refine Ev.shift ?_
      simp (disch := omega) only [laws_szExpFormS.l5, if_pos, hx, eTlaws_ExpForm_eq, w64, lwids]
      refine Ev.bind (hP y hm m m0 m1) ?_
      by_cases h3 : lwid y ≤ m
      · rw [leftI_in h3]
        simp (disch := omega) only [if_neg]
        refine Ev.eq (ih (m - lwid y) (by omega) (by omega)) ?_
        by_cases h4 : lwids r ≤ m - lwid y
        · rw [leftI_in h4, leftI_in (by omega)]; omega
        · rw [leftI_out h4, leftI_out (by omega)]
      · rw [leftI_out h3, leftI_out (show ¬ lwid y + lwids r ≤ m by omega)]
        simp (disch := decide) only [if_pos]; exact Ev.now _
  · simp (disch := omega) only [if_pos, leftI_out (show ¬ (l.length : Int) + lwids l ≤ n by omega)]; exact Ev.now _
theorem szForm : ∀ (x : Tlaws_ExpForm), lokF x → ∀ (n : Int), 0 ≤ n → n ≤ 1048576 → Ev (fun k => laws_szExpForm.f k x n) (leftI (lwid x) n) := by
  refine indLForm fun x ih hx n h0 h1 => ?_
  obtain ⟨k1, k2, k3, k4⟩ := (lokF_mk x).1 hx
  have hp := lwids_pos x.vKids
  rw [lwid_mk]
  refine Ev.shift ?_
  simp (disch := omega) only [laws_szExpForm.f, w64]
  by_cases h : (x.vText.size : Int) ≤ n
  · simp (disch := omega) only [if_neg]
    refine Ev.bind (szInts _ _ (by omega) (by omega) k2) ?_
    by_cases h2 : (x.vScopes.length : Int) ≤ n - (x.vText.size : Int)
    · rw [leftI_in h2]
      simp (disch := omega) only [if_neg]
      refine Ev.bind (szForms_of _ _ (by omega) (by omega) k3 (fun y hy => ih y hy (lokFs_mem k4 y hy))) ?_
      by_cases h3 : (x.vKids.length : Int) + lwids x.vKids ≤ n - (x.vText.size : Int) - (x.vScopes.length : Int)
      · rw [leftI_in h3, leftI_in (by omega)]
        simp (disch := omega) only [if_neg]
        exact Ev.eq (Ev.now _) (by omega)
      · rw [leftI_out h3, leftI_out (by omega)]
        simp (disch := decide) only [if_pos]; exact Ev.now _
    · rw [leftI_out h2, leftI_out (by omega)]
      simp (disch := decide) only [if_pos]; exact Ev.now _
  · simp (disch := omega) only [if_pos, leftI_out (show ¬ (x.vText.size : Int) + (x.vScopes.length : Int) + ((x.vKids.length : Int) + lwids x.vKids) ≤ n by omega)]; exact Ev.now _
theorem szForms (l : List Tlaws_ExpForm) (hl : l.length ≤ 9223372036854775807) (h : lokFs l) (n : Int) (h0 : 0 ≤ n) (h1 : n ≤ 1048576) : Ev (fun k => laws_szExpFormS.f k l n) (leftI ((l.length : Int) + lwids l) n) :=
  szForms_of l n h0 h1 hl fun y hy => szForm y (lokFs_mem h y hy)
-- ------------------------------------------------------------ copies
theorem replicate_drop {α : Type} (z : α) (n i : Nat) : (List.replicate n z).drop i = List.replicate (n - i) z := by simp
/-- A row made with a length, filled place by place. -/
theorem goFill {α β : Type} (l : List α) (z : β) (f : α → β) {R : Type} {res : List β → R} {G : Nat → Int → List β → Option R}
    (h0 : ∀ a : List β, a.length = l.length → Ev (fun k => G k (l.length : Int) a) (res a))
    (hs : ∀ (i : Int) (x : α) (d : List β) (m : Nat), 0 ≤ i → i < (l.length : Int) → (d.length : Int) = i → (∀ z, rdAt z l i = x) → x ∈ l → (d.length + (m + 1) = l.length) → (∀ r, Ev (fun k => G k (i + 1) ((d ++ [f x]) ++ List.replicate m z)) r → Ev (fun k => G k i (d ++ z :: List.replicate m z)) r)) :
    Ev (fun k => G k 0 (List.replicate l.length z)) (res (l.map f)) := by
  refine goList l (P := fun i suf => ∀ d : List β, (d.length : Int) = i → Ev (fun k => G k i (d ++ List.replicate suf.length z)) (res (d ++ suf.map f))) ?_ ?_ [] rfl
  · intro d hd
    simp only [List.length_nil, List.replicate_zero, List.append_nil, List.map_nil]
    exact h0 d (by omega)
  · intro i x r i0 i1 hx hm hl _ _ ih d hd
    rw [List.length_cons, List.replicate_succ]
    refine hs i x d r.length i0 i1 hd hx hm (by omega) _ ?_
    have := ih (d ++ [f x]) (by simp; omega)
    simpa using this
theorem toInts (l : List Int) (hl : (l.length : Int) ≤ 1000000000) : Ev (fun k => laws_toIntS.f k l) l := by
  simp (disch := omega) only [laws_toIntS.f, if_pos, Int.toNat_natCast]
  refine Ev.eq (goFill l (0 : Int) id (res := id) (G := fun k i a => laws_toIntS.l3 k l i a) ?_ ?_) (by simp)
  · intro a ha
    refine Ev.shift ?_
    simp (disch := omega) only [laws_toIntS.l3, if_neg]
    exact Ev.now _
  · intro i x d m i0 i1 hd hx hm hl r h
    refine Ev.shift ?_
    simp (disch := first | omega | (simp; omega)) only [laws_toIntS.l3, if_pos, hx, w64, mid_set hd]
    exact h
-- ------------------------------------------------------------ compared with itself
theorem eqInts_same (l : List Int) (hl : (l.length : Int) ≤ 1000000000) : Ev (fun k => laws_eqIntS.f k l l) true := by
  simp (disch := omega) only [laws_eqIntS.f, if_neg]
  refine goList l (P := fun i suf => Ev (fun k => laws_eqIntS.l4 k l l i) true) ?_ ?_
  · refine Ev.shift ?_
    simp (disch := omega) only [laws_eqIntS.l4, if_neg]; exact Ev.now _
  · intro i x r h0 h1 hx hm _ _ _ ih
    refine Ev.shift ?_
    simp (disch := omega) only [laws_eqIntS.l4, if_pos, not_true_eq_false, if_false, w64]; exact ih
theorem eqForms_of (l : List TExpForm) (hl : (l.length : Int) ≤ 1000000000) (hP : ∀ y ∈ l, Ev (fun k => laws_eqExpForm.f k y y) true) : Ev (fun k => laws_eqExpFormS.f k l l) true := by
  refine Ev.shift ?_
  simp (disch := omega) only [laws_eqExpFormS.f, if_neg]
  refine goList l (P := fun i suf => Ev (fun k => laws_eqExpFormS.l4 k l l i) true) ?_ ?_
  · refine Ev.shift ?_
    simp (disch := omega) only [laws_eqExpFormS.l4, if_neg]; exact Ev.now _
  · intro i y r h0 h1 hx hm _ _ _ ihr
    refine Ev.shift ?_
    simp (disch := omega) only [laws_eqExpFormS.l4, if_pos, hx, eTExpForm_eq, w64]
    refine Ev.bind (hP y hm) ?_
    simp only [not_true_eq_false, if_false]; exact ihr
theorem eqForm_same : ∀ x : TExpForm, wid x ≤ 1000000000 → Ev (fun k => laws_eqExpForm.f k x x) true := by
  refine indForm fun x ih hw => ?_
  have hp := wid_parts x
  refine Ev.shift ?_
  simp only [laws_eqExpForm.f, not_true_eq_false, if_false]
  refine Ev.bind (eqInts_same _ (by omega)) ?_
  simp only [not_true_eq_false, if_false]
  refine Ev.bind (eqForms_of x.vKids (by omega) fun y hy => ih y hy (by have := wids_mem hy; omega)) ?_
  simp only [not_true_eq_false, if_false]; exact Ev.now _
theorem eqForms_same (l : List TExpForm) (hw : wids l ≤ 1000000000) : Ev (fun k => laws_eqExpFormS.f k l l) true := by
  have := wids_len l
  exact eqForms_of l (by omega) fun y hy => eqForm_same y (by have := wids_mem hy; omega)
end Go.Proofs.YtmcbhnbemhfifaaDoor.RX
namespace Go.Proofs.YtmcbhnbemhfifaaDoor.RX
open Go K
set_option autoImplicit false
set_option linter.unusedVariables false
set_option linter.unusedSimpArgs false
/-- A form, its rows last. -/
def ow (x : TExpForm) : Int × ByteArray × Int × List Int × List TExpForm := (x.vSort, x.vText, x.vFrom, x.vScopes, x.vKids)
theorem ow_mk (x : TExpForm) : TExpForm.mk (ow x).1 (ow x).2.1 (ow x).2.2.2.1 (ow x).2.2.1 (ow x).2.2.2.2 = x := by cases x; rfl
theorem toForms_of (l : List Tlaws_ExpForm) (hl : (l.length : Int) ≤ 1000000000) (hP : ∀ y ∈ l, Ev (fun k => laws_toExpForm.f k y) (ow (cv y))) : Ev (fun k => laws_toExpFormS.f k l) (cvs l) := by
  refine Ev.shift ?_
  simp (disch := omega) only [laws_toExpFormS.f, if_pos, Int.toNat_natCast]
  refine Ev.eq (goFill l (⟨0, ByteArray.empty, [], 0, []⟩ : TExpForm) cv (res := id) (G := fun k i a => laws_toExpFormS.l3 k l i a) ?_ ?_) ?_
  · intro a ha
    refine Ev.shift ?_
    simp (disch := omega) only [laws_toExpFormS.l3, if_neg]
    exact Ev.now _
  · intro i x d m i0 i1 hd hx hm hl r h
    refine Ev.shift ?_
    simp (disch := first | omega | (simp; omega)) only [laws_toExpFormS.l3, if_pos, hx, w64, eTlaws_ExpForm_eq]
    refine Ev.bind (hP x hm) ?_
    simp (disch := first | omega | (simp; omega)) only [if_pos, mid_set hd, ow_mk]
    exact h
  · have : ∀ l : List Tlaws_ExpForm, l.map cv = cvs l := by
      intro l
      induction l with
      | nil => rfl
      | cons x l ih => simp only [List.map_cons, cvs, ih]
    exact this l
theorem toForm : ∀ x : Tlaws_ExpForm, lwid x ≤ 1000000000 → Ev (fun k => laws_toExpForm.f k x) (ow (cv x)) := by
  refine indLForm fun x ih hw => ?_
  rw [lwid_mk] at hw
  have hp := lwids_pos x.vKids
  refine Ev.shift ?_
  simp only [laws_toExpForm.f]
  refine Ev.bind (toInts _ (by omega)) (Ev.bind (toForms_of _ (by omega) fun y hy => ih y hy (by have := lwids_mem hy; omega)) ?_)
  rw [cv_mk]; exact Ev.now _
theorem toForms (l : List Tlaws_ExpForm) (hl : (l.length : Int) + lwids l ≤ 1000000000) : Ev (fun k => laws_toExpFormS.f k l) (cvs l) := by
  have hp := lwids_pos l
  exact toForms_of l (by omega) fun y hy => toForm y (by have := lwids_mem hy; omega)
end Go.Proofs.YtmcbhnbemhfifaaDoor.RX
namespace Go.Proofs.YtmcbhnbemhfifaaDoor.RX
open Go K
set_option autoImplicit false
set_option linter.unusedVariables false
set_option linter.unusedSimpArgs false
/-- Numbers from one on. -/
def upFrom : Int → List Int → List Int
  | _, [] => []
  | n, _ :: l => n :: upFrom (n + 1) l
theorem upFrom_length : ∀ (l : List Int) (n : Int), (upFrom n l).length = l.length
  | [], _ => rfl
  | _ :: l, n => by simp only [upFrom, List.length_cons, upFrom_length l]
theorem markInts_go (l : List Int) (hl : (l.length : Int) ≤ 1000000000) : ∀ (s d : List Int) (n i : Int), i = (d.length : Int) → (d.length : Int) + (s.length : Int) ≤ 1000000000 → 0 ≤ n → n + (s.length : Int) ≤ 4000000000000000000 → Ev (fun k => laws_markIntS.l2 k n i (d ++ s)) (n + (s.length : Int), d ++ upFrom n s) := by
  intro s
  induction s with
  | nil =>
    intro d n i hi hd h0 h1
    refine Ev.shift ?_
    rw [List.append_nil]
    simp (disch := omega) only [laws_markIntS.l2, if_neg, upFrom, List.append_nil, laws_markIntS.j6]
    exact Ev.eq (Ev.now _) (by simp)
  | cons x s ih =>
    intro d n i hi hd h0 h1
    rw [List.length_cons] at hd h1
    have hlen : ((d ++ x :: s).length : Int) = (d.length : Int) + (s.length : Int) + 1 := by rw [List.length_append, List.length_cons]; omega
    have hlen2 : (((d ++ x :: s).set i.toNat n).length : Int) = (d.length : Int) + (s.length : Int) + 1 := by rw [List.length_set]; exact hlen
    refine Ev.shift ?_
    simp (disch := omega) only [laws_markIntS.l2, if_pos, laws_markIntS.j4b, laws_markIntS.j5b, laws_markIntS.j3b, w64]
    have hset : (d ++ x :: s).set i.toNat n = (d ++ [n]) ++ s := by
      have := mid_set (l := d) (r := s) (x := x) (y := n) (i := i) hi.symm
      simpa using this
    rw [hset]
    refine Ev.eq (ih (d ++ [n]) (n + 1) (i + 1) (by simp; omega) (by simp; omega) (by omega) (by omega)) ?_
    simp only [upFrom, List.length_cons, List.append_assoc, List.singleton_append]
    congr 1
    omega
theorem markInts (l : List Int) (n : Int) (hl : (l.length : Int) ≤ 1000000000) (h0 : 0 ≤ n) (h1 : n + (l.length : Int) ≤ 4000000000000000000) : Ev (fun k => laws_markIntS.f k n l) (n + (l.length : Int), upFrom n l) := by
  simp only [laws_markIntS.f, laws_markIntS.j1, laws_markIntS.j2]
  exact markInts_go l hl l [] n 0 rfl (by simpa using hl) h0 h1
theorem strOf_one (x : Int) : (strOf [x]).size = 1 := rfl
theorem markText_go : ∀ (m : Nat) (n : Int) (s : ByteArray), n.toNat ≤ m → 0 ≤ n → (s.size : Int) + n ≤ 8000000000000000000 → ∃ r, Ev (fun k => laws_markText.l4 k n s) r := by
  intro m
  induction m with
  | zero =>
    intro n s hm h0 hs
    refine ⟨_, Ev.shift (r := ByteArray.mk #[109] ++ s) ?_⟩
    have h1 : (ByteArray.mk #[109]).size + s.size ≤ 9223372036854775807 := by
      have : (ByteArray.mk #[109]).size = 1 := rfl
      omega
    simp (disch := omega) only [laws_markText.l4, if_neg, if_pos h1]
    exact Ev.now _
  | succ m ih =>
    intro n s hm h0 hs
    by_cases hp : 0 < n
    · have hd : n.tdiv 10 = n / 10 := Int.tdiv_eq_ediv_of_nonneg h0
      obtain ⟨r, hr⟩ := ih (n / 10) (strOf [IntKind.u8.wrap (IntKind.i64.wrap ((48 : Int) + (n.tmod (10 : Int))))] ++ s) (by omega) (by omega) (by rw [ByteArray.size_append, strOf_one]; omega)
      refine ⟨r, Ev.shift ?_⟩
      have h1 : (strOf [IntKind.u8.wrap (IntKind.i64.wrap ((48 : Int) + (n.tmod (10 : Int))))]).size + s.size ≤ 9223372036854775807 := by rw [strOf_one]; omega
      simp (disch := omega) only [laws_markText.l4, if_pos hp, if_pos h1, hd, w64]
      exact hr
    · refine ⟨_, Ev.shift (r := ByteArray.mk #[109] ++ s) ?_⟩
      have h1 : (ByteArray.mk #[109]).size + s.size ≤ 9223372036854775807 := by
        have : (ByteArray.mk #[109]).size = 1 := rfl
        omega
      simp (disch := omega) only [laws_markText.l4, if_neg, if_pos h1]
      exact Ev.now _
theorem markText_ex (n : Int) (h0 : 0 ≤ n) (h1 : n ≤ 4000000000000000000) : ∃ r, Ev (fun k => laws_markText.f k n) r := by
  by_cases h : n ≤ 0
  · refine ⟨ByteArray.mk #[109, 48], ?_⟩
    simp only [laws_markText.f, if_pos h]
    exact Ev.now _
  · obtain ⟨r, hr⟩ := markText_go n.toNat n (ByteArray.mk #[]) (Nat.le_refl _) h0 (by have : (ByteArray.mk #[]).size = 0 := rfl; omega)
    refine ⟨r, ?_⟩
    simp only [laws_markText.f, if_neg h]
    exact hr
open Classical in
/-- The text that marks with a number. -/
noncomputable def mtxt (n : Int) : ByteArray := if h : ∃ r, Ev (fun k => laws_markText.f k n) r then Classical.choose h else ByteArray.empty
theorem markText_ok (n : Int) (h0 : 0 ≤ n) (h1 : n ≤ 4000000000000000000) : Ev (fun k => laws_markText.f k n) (mtxt n) := by
  have h := markText_ex n h0 h1
  unfold mtxt
  rw [dif_pos h]
  exact Classical.choose_spec h
mutual
/-- A form marked, and the number behind. -/
noncomputable def mkF : TExpForm → Int → Int × TExpForm
  | ⟨_, _, sc, _, ks⟩, n => ((mkFs ks (n + 2 + (sc.length : Int) + 1)).1, ⟨n, mtxt (n + 1), upFrom (n + 2) sc, n + 2 + (sc.length : Int), (mkFs ks (n + 2 + (sc.length : Int) + 1)).2⟩)
noncomputable def mkFs : List TExpForm → Int → Int × List TExpForm
  | [], n => (n, [])
  | x :: l, n => ((mkFs l (mkF x n).1).1, (mkF x n).2 :: (mkFs l (mkF x n).1).2)
end
theorem mkF_mk (x : TExpForm) (n : Int) : mkF x n = ((mkFs x.vKids (n + 2 + (x.vScopes.length : Int) + 1)).1, ⟨n, mtxt (n + 1), upFrom (n + 2) x.vScopes, n + 2 + (x.vScopes.length : Int), (mkFs x.vKids (n + 2 + (x.vScopes.length : Int) + 1)).2⟩) := by cases x; simp only [mkF]
theorem mkFs_of (l : List TExpForm) (h : ∀ x ∈ l, ∀ n, n ≤ (mkF x n).1 ∧ (mkF x n).1 ≤ n + 3 * wid x) : ∀ n, n ≤ (mkFs l n).1 ∧ (mkFs l n).1 ≤ n + 3 * wids l ∧ (mkFs l n).2.length = l.length := by
  induction l with
  | nil => intro n; simp [mkFs, wids]
  | cons x l ih =>
    intro n
    have h1 := h x (by simp) n
    have h2 := ih (fun y hy => h y (List.mem_cons_of_mem _ hy)) (mkF x n).1
    simp only [mkFs, wids, List.length_cons]
    omega
theorem mkF_num : ∀ (x : TExpForm) (n : Int), n ≤ (mkF x n).1 ∧ (mkF x n).1 ≤ n + 3 * wid x := by
  refine indForm fun x ih n => ?_
  have h := mkFs_of x.vKids ih (n + 2 + (x.vScopes.length : Int) + 1)
  rw [mkF_mk]
  have hp := wid_mk x
  simp only
  omega
theorem mkFs_num (l : List TExpForm) (n : Int) : n ≤ (mkFs l n).1 ∧ (mkFs l n).1 ≤ n + 3 * wids l ∧ (mkFs l n).2.length = l.length := mkFs_of l (fun x _ => mkF_num x) n
theorem getD_mid {d s : List TExpForm} {x z : TExpForm} {i : Int} (h : i = (d.length : Int)) : (d ++ x :: s).getD i.toNat z = x := by subst h; simp
theorem set_mid {d s : List TExpForm} {x y : TExpForm} {i : Int} (h : i = (d.length : Int)) : (d ++ x :: s).set i.toNat y = d ++ y :: s := by subst h; simp
theorem markForms_of (l : List TExpForm) (hP : ∀ y ∈ l, ∀ n, 0 ≤ n → n + 3 * wids y.vKids ≤ 1000000000 → Ev (fun k => laws_markExpFormS.f k n y.vKids) ((mkFs y.vKids n).1, (mkFs y.vKids n).2)) :
    ∀ (s d : List TExpForm) (n i : Int), (∀ y ∈ s, y ∈ l) → i = (d.length : Int) → (d.length : Int) + (s.length : Int) ≤ 1000000000 → 0 ≤ n → n + 3 * wids s ≤ 1000000000 → Ev (fun k => laws_markExpFormS.l2 k n i (d ++ s)) ((mkFs s n).1, d ++ (mkFs s n).2) := by
  intro s
  induction s with
  | nil =>
    intro d n i _ hi hd h0 h1
    refine Ev.shift ?_
    rw [List.append_nil]
    simp (disch := omega) only [laws_markExpFormS.l2, if_neg, laws_markExpFormS.j12, mkFs, List.append_nil]
    exact Ev.now _
  | cons x s ih =>
    intro d n i hm hi hd h0 h1
    rw [List.length_cons] at hd
    simp only [wids] at h1
    have hw := wid_mk x
    have hp := wid_parts x
    have hq := (wids_len s).1
    have hl : ∀ y : TExpForm, ((d ++ y :: s).length : Int) = (d.length : Int) + (s.length : Int) + 1 := fun y => by rw [List.length_append, List.length_cons]; omega
    have hk := mkFs_num x.vKids (n + 2 + (x.vScopes.length : Int) + 1)
    refine Ev.shift ?_
    simp (disch := first | omega | (rw [hl]; omega)) only [laws_markExpFormS.l2, if_pos, laws_markExpFormS.j4b, getD_mid hi, set_mid hi, laws_markExpFormS.j5b, laws_markExpFormS.j6b, w64]
    refine Ev.bind (markText_ok (n + 1) (by omega) (by omega)) ?_
    simp (disch := first | omega | (rw [hl]; omega)) only [if_pos, getD_mid hi, set_mid hi, laws_markExpFormS.j7b, laws_markExpFormS.j8b, w64]
    refine Ev.bind (markInts x.vScopes (n + 1 + 1) (by omega) (by omega) (by omega)) ?_
    simp (disch := first | omega | (rw [hl]; omega)) only [if_pos, getD_mid hi, set_mid hi, laws_markExpFormS.j9b, laws_markExpFormS.j10b, laws_markExpFormS.j11b, w64]
    have e : n + 1 + 1 + (x.vScopes.length : Int) + 1 = n + 2 + (x.vScopes.length : Int) + 1 := by omega
    rw [e]
    refine Ev.bind (hP x (hm x (by simp)) _ (by omega) (by omega)) ?_
    simp (disch := first | omega | (rw [hl]; omega)) only [if_pos, getD_mid hi, set_mid hi, laws_markExpFormS.j3b, w64]
    have := ih (d ++ [(mkF x n).2]) (mkF x n).1 (i + 1) (fun y hy => hm y (List.mem_cons_of_mem _ hy)) (by simp; omega) (by simp; omega) (by have := mkF_num x n; omega) (by have := mkF_num x n; omega)
    rw [List.append_assoc, List.singleton_append] at this
    rw [mkF_mk] at this
    simp only at this
    refine Ev.eq ?_ (show _ = ((mkFs (x :: s) n).1, d ++ (mkFs (x :: s) n).2) from rfl)
    simp only [mkFs, mkF_mk]
    rw [List.append_assoc, List.singleton_append] at this
    have e2 : n + 1 + 1 + (x.vScopes.length : Int) = n + 2 + (x.vScopes.length : Int) := by omega
    have e3 : n + 1 + 1 = n + 2 := by omega
    rw [e2, e3]
    exact this
theorem markForms : ∀ (l : List TExpForm) (n : Int), 0 ≤ n → n + 3 * wids l ≤ 1000000000 → Ev (fun k => laws_markExpFormS.f k n l) ((mkFs l n).1, (mkFs l n).2) := by
  have key : ∀ (l : List TExpForm), (∀ y ∈ l, ∀ n, 0 ≤ n → n + 3 * wids y.vKids ≤ 1000000000 → Ev (fun k => laws_markExpFormS.f k n y.vKids) ((mkFs y.vKids n).1, (mkFs y.vKids n).2)) → ∀ (n : Int), 0 ≤ n → n + 3 * wids l ≤ 1000000000 → Ev (fun k => laws_markExpFormS.f k n l) ((mkFs l n).1, (mkFs l n).2) := by
    intro l hP n h0 h1
    have hw := wids_len l
    refine Ev.shift ?_
    simp only [laws_markExpFormS.f, laws_markExpFormS.j1b, laws_markExpFormS.j2b]
    exact markForms_of l hP l [] n 0 (fun _ h => h) rfl (by simp; omega) h0 h1
  have all : ∀ x : TExpForm, ∀ n, 0 ≤ n → n + 3 * wids x.vKids ≤ 1000000000 → Ev (fun k => laws_markExpFormS.f k n x.vKids) ((mkFs x.vKids n).1, (mkFs x.vKids n).2) := by
    refine indForm fun x ih => ?_
    exact key x.vKids ih
  exact fun l => key l fun y _ => all y
theorem rd_mid {α : Type} {d s : List α} {x z : α} {i : Int} (h : i = (d.length : Int)) : rdAt z (d ++ x :: s) i = x := by subst h; simp [rdAt]
theorem heldInts_go : ∀ (t d : List Int) (m i : Int), i = (d.length : Int) → (d.length : Int) + (t.length : Int) ≤ 1000000000 → 0 ≤ m → m + (t.length : Int) ≤ 4000000000000000000 → Ev (fun k => laws_heldIntS.l2 k (d ++ upFrom m t) m i) (m + (t.length : Int)) := by
  intro t
  induction t with
  | nil =>
    intro d m i hi hd h0 h1
    refine Ev.shift ?_
    simp (disch := (simp [upFrom]; omega)) only [laws_heldIntS.l2, if_neg]
    exact Ev.eq (Ev.now _) (by simp)
  | cons x t ih =>
    intro d m i hi hd h0 h1
    rw [List.length_cons] at hd h1
    have hl : ((d ++ m :: upFrom (m + 1) t).length : Int) = (d.length : Int) + (t.length : Int) + 1 := by rw [List.length_append, List.length_cons, upFrom_length]; omega
    refine Ev.shift ?_
    simp (disch := first | omega | (rw [hl]; omega)) only [upFrom, laws_heldIntS.l2, if_pos, rd_mid hi, not_true_eq_false, if_false, w64]
    have := ih (d ++ [m]) (m + 1) (i + 1) (by simp; omega) (by simp; omega) (by omega) (by omega)
    rw [List.append_assoc, List.singleton_append] at this
    refine Ev.eq this ?_
    rw [List.length_cons]; omega
theorem heldInts (l : List Int) (n : Int) (hl : (l.length : Int) ≤ 1000000000) (h0 : 0 ≤ n) (h1 : n + (l.length : Int) ≤ 4000000000000000000) : Ev (fun k => laws_heldIntS.f k (upFrom n l) n) (n + (l.length : Int)) := by
  simp only [laws_heldIntS.f]
  exact heldInts_go l [] n 0 rfl (by simpa using hl) h0 h1
theorem heldForms_of (l : List TExpForm) (hP : ∀ y ∈ l, ∀ n, 0 ≤ n → n + 3 * wids y.vKids ≤ 1000000000 → Ev (fun k => laws_heldExpFormS.f k (mkFs y.vKids n).2 n) (mkFs y.vKids n).1) :
    ∀ (s d : List TExpForm) (n i : Int), (∀ y ∈ s, y ∈ l) → i = (d.length : Int) → (d.length : Int) + (s.length : Int) ≤ 1000000000 → 0 ≤ n → n + 3 * wids s ≤ 1000000000 → Ev (fun k => laws_heldExpFormS.l2 k (d ++ (mkFs s n).2) n i) (mkFs s n).1 := by
  intro s
  induction s with
  | nil =>
    intro d n i _ hi hd h0 h1
    refine Ev.shift ?_
    simp (disch := omega) only [mkFs, List.append_nil, laws_heldExpFormS.l2, if_neg]
    exact Ev.now _
  | cons x s ih =>
    intro d n i hm hi hd h0 h1
    rw [List.length_cons] at hd
    simp only [wids] at h1
    have hw := wid_mk x
    have hp := wid_parts x
    have hq := (wids_len s).1
    have hn := mkF_num x n
    have hr := mkFs_num s (mkF x n).1
    have hk := mkFs_num x.vKids (n + 2 + (x.vScopes.length : Int) + 1)
    have hl : ∀ y : TExpForm, ((d ++ y :: (mkFs s (mkF x n).1).2).length : Int) = (d.length : Int) + (s.length : Int) + 1 := fun y => by rw [List.length_append, List.length_cons, hr.2.2]; omega
    have e3 : n + 1 + 1 = n + 2 := by omega
    refine Ev.shift ?_
    rw [show (mkFs (x :: s) n) = ((mkFs s (mkF x n).1).1, (mkF x n).2 :: (mkFs s (mkF x n).1).2) from rfl]
    simp only
    have hx := mkF_mk x n
    have a1 : (mkF x n).2.vSort = n := by rw [hx]
    have a2 : (mkF x n).2.vText = mtxt (n + 1) := by rw [hx]
    have a3 : (mkF x n).2.vScopes = upFrom (n + 2) x.vScopes := by rw [hx]
    have a4 : (mkF x n).2.vFrom = n + 2 + (x.vScopes.length : Int) := by rw [hx]
    have a5 : (mkF x n).2.vKids = (mkFs x.vKids (n + 2 + (x.vScopes.length : Int) + 1)).2 := by rw [hx]
    have a6 : (mkF x n).1 = (mkFs x.vKids (n + 2 + (x.vScopes.length : Int) + 1)).1 := by rw [hx]
    simp (disch := first | omega | (rw [hl]; omega)) only [laws_heldExpFormS.l2, if_pos, rd_mid hi, a1, not_true_eq_false, if_false, laws_heldExpFormS.d7b, w64]
    refine Ev.bind (markText_ok (n + 1) (by omega) (by omega)) ?_
    simp (disch := first | omega | (rw [hl]; omega)) only [if_pos, rd_mid hi, a2, a3, not_true_eq_false, if_false, w64, e3]
    refine Ev.bind (heldInts x.vScopes (n + 2) (by omega) (by omega) (by omega)) ?_
    simp (disch := first | omega | (rw [hl]; omega)) only [if_pos, if_neg, rd_mid hi, a4, a5, not_true_eq_false, if_false, w64]
    refine Ev.bind (hP x (hm x (by simp)) _ (by omega) (by omega)) ?_
    rw [← a6]
    simp (disch := first | omega | (rw [hl]; omega)) only [if_neg, w64]
    have := ih (d ++ [(mkF x n).2]) (mkF x n).1 (i + 1) (fun y hy => hm y (List.mem_cons_of_mem _ hy)) (by simp; omega) (by simp; omega) (by omega) (by omega)
    rw [List.append_assoc, List.singleton_append] at this
    exact this
theorem heldForms : ∀ (l : List TExpForm) (n : Int), 0 ≤ n → n + 3 * wids l ≤ 1000000000 → Ev (fun k => laws_heldExpFormS.f k (mkFs l n).2 n) (mkFs l n).1 := by
  have key : ∀ (l : List TExpForm), (∀ y ∈ l, ∀ n, 0 ≤ n → n + 3 * wids y.vKids ≤ 1000000000 → Ev (fun k => laws_heldExpFormS.f k (mkFs y.vKids n).2 n) (mkFs y.vKids n).1) → ∀ (n : Int), 0 ≤ n → n + 3 * wids l ≤ 1000000000 → Ev (fun k => laws_heldExpFormS.f k (mkFs l n).2 n) (mkFs l n).1 := by
    intro l hP n h0 h1
    have hw := wids_len l
    refine Ev.shift ?_
    simp only [laws_heldExpFormS.f]
    exact heldForms_of l hP l [] n 0 (fun _ h => h) rfl (by simp; omega) h0 h1
  have all : ∀ x : TExpForm, ∀ n, 0 ≤ n → n + 3 * wids x.vKids ≤ 1000000000 → Ev (fun k => laws_heldExpFormS.f k (mkFs x.vKids n).2 n) (mkFs x.vKids n).1 := by
    refine indForm fun x ih => ?_
    exact key x.vKids ih
  exact fun l => key l fun y _ => all y
end Go.Proofs.YtmcbhnbemhfifaaDoor.RX
namespace Go.Proofs.YtmcbhnbemhfifaaDoor.RX
open Go K
set_option autoImplicit false
set_option linter.unusedVariables false
set_option linter.unusedSimpArgs false
/-- No form. -/
def noF : TExpForm := ⟨0, ByteArray.empty, [], 0, []⟩
/-- What is to come. -/
def ans (x : TExpForm) (n : Int) : TExpForm := if okb x = true then if n < 0 then noF else wf (flip n) x else noF
theorem ans_wid (x : TExpForm) (n : Int) : wid (ans x n) ≤ 2 * wid x := by
  have hp := wid_pos x
  have h0 : wid noF = 1 := by unfold noF; rw [wid_c]; simp [wids]
  unfold ans
  split
  · split
    · omega
    · exact wid_wf (flip_length n) x
  · omega
theorem flip_ref (x : TExpForm) (n : Int) (hw : wid x ≤ 500000000) : Ev (fun k => spec_ExpFlip.f k x n) (ans x n) := by
  simp only [spec_ExpFlip.f, eTExpForm_eq]
  refine Ev.bind (formOk_spec x (by omega)) ?_
  unfold ans
  by_cases h : okb x = true
  · simp only [h, not_true_eq_false, if_false, if_true]
    by_cases h1 : n < 0
    · simp only [if_pos h1]; exact Ev.now _
    · simp only [if_neg h1]
      exact Ev.bind (flip_spec n x (by omega)) (Ev.now _)
  · simp only [h, not_false_eq_true, if_true]; exact Ev.now _
theorem flip_got (x : TExpForm) (n : Int) (hw : wid x ≤ 500000000) : Ev (fun k => impl_ExpFlip.f k x n) (ow (ans x n)) := by
  simp only [impl_ExpFlip.f, eTExpForm_eq]
  refine Ev.bind (formOk_impl x (by omega)) ?_
  unfold ans
  by_cases h : okb x = true
  · simp only [h, not_true_eq_false, if_false, if_true]
    by_cases h1 : n < 0
    · simp only [if_pos h1]; exact Ev.now _
    · simp only [if_neg h1]
      have h2 : okf x 0 = true := by unfold okb at h; rw [Bool.and_eq_true] at h; exact h.1
      simp only [impl_expFlip.f, eTExpForm_eq]
      exact Ev.bind (Ev.bind (flip_own n x 0 h2 (by omega)) (Ev.now _)) (Ev.now _)
  · simp only [h, not_false_eq_true, if_true]; exact Ev.now _
theorem markTop (x : TExpForm) (n : Int) (h0 : 0 ≤ n) (h1 : n + 3 * wid x ≤ 900000000) (a c : Int) (b : ByteArray) :
    Ev (fun k => laws_markExpForm.f k a b c n x.vScopes x.vKids) ((mkFs x.vKids (n + (x.vScopes.length : Int))).1, upFrom n x.vScopes, (mkFs x.vKids (n + (x.vScopes.length : Int))).2) := by
  have hp := wid_parts x
  have hm := wid_mk x
  simp only [laws_markExpForm.f, laws_markExpForm.j1, laws_markExpForm.j2, laws_markExpForm.j3]
  refine Ev.bind (markInts x.vScopes n (by omega) h0 (by omega)) ?_
  exact Ev.bind (markForms x.vKids _ (by omega) (by omega)) (Ev.now _)
theorem heldTop (x : TExpForm) (n : Int) (h0 : 0 ≤ n) (h1 : n + 3 * wid x ≤ 900000000) (a c : Int) (b : ByteArray) :
    Ev (fun k => laws_heldExpForm.f k ⟨a, b, upFrom n x.vScopes, c, (mkFs x.vKids (n + (x.vScopes.length : Int))).2⟩ n) (mkFs x.vKids (n + (x.vScopes.length : Int))).1 := by
  have hp := wid_parts x
  have hm := wid_mk x
  have hk := mkFs_num x.vKids (n + (x.vScopes.length : Int))
  simp only [laws_heldExpForm.f]
  refine Ev.bind (heldInts x.vScopes n (by omega) h0 (by omega)) ?_
  simp (disch := omega) only [if_neg]
  refine Ev.bind (heldForms x.vKids _ (by omega) (by omega)) ?_
  simp (disch := omega) only [if_neg]
  exact Ev.now _
theorem law_pure (x : Tlaws_ExpForm) (n : Int) (hx : lokF x) (hn : True) : ∃ k, laws_FnExactExpFlip.f k x n = some true := by
  refine Ev.some ?_
  simp only [laws_FnExactExpFlip.f, eTlaws_ExpForm_eq, eTExpForm_eq]
  have hp := lwid_pos x
  refine Ev.bind (szForm x hx 1048576 (by omega) (by omega)) ?_
  by_cases h1 : lwid x ≤ 1048576
  · rw [leftI_in h1]
    simp (disch := omega) only [if_neg]
    have w1 := wid_cv x
    have w2 := ans_wid (cv x) n
    have w0 := wid_pos (cv x)
    have w3 := wid_pos (ans (cv x) n)
    have c := toForm x (by omega)
    have g := flip_got (cv x) n (by omega)
    have m1 := mkFs_num (cv x).vKids (1 + ((cv x).vScopes.length : Int))
    have m2 := mkFs_num (ans (cv x) n).vKids (1 + ((ans (cv x) n).vScopes.length : Int))
    have t1 := markTop (cv x) 1 (by omega) (by omega)
    have t2 := markTop (ans (cv x) n) 1 (by omega) (by omega)
    have u2 := heldTop (ans (cv x) n) 1 (by omega) (by omega)
    refine Ev.bind c ?_
    simp only [ow_mk]
    refine Ev.bind (flip_ref _ n (by omega)) (Ev.bind c ?_)
    simp only [ow_mk]
    refine Ev.bind g ?_
    simp only [ow_mk]
    refine Ev.bind (eqForm_same _ (by omega)) ?_
    simp only [not_true_eq_false, if_false, laws_FnExactExpFlip.d10, laws_FnExactExpFlip.j16, mTlaws_ExpForm, mTExpForm]
    refine Ev.bind c ?_
    simp only [ow_mk, ow, mTExpForm]
    refine Ev.bind (eqForm_same _ (by omega)) ?_
    simp only [not_true_eq_false, if_false]
    refine Ev.bind (t1 _ _ _) ?_
    simp (disch := omega) only [if_neg]
    refine Ev.bind (eqForm_same _ (by omega)) ?_
    simp only [not_true_eq_false, if_false]
    refine Ev.bind (t2 _ _ _) (Ev.bind (u2 _ _ _) ?_)
    simp (disch := omega) only [if_neg, not_true_eq_false, if_false]
    refine Ev.bind c ?_
    simp only [ow_mk]
    refine Ev.bind g ?_
    simp only [ow_mk]
    refine Ev.bind (eqForm_same _ (by omega)) ?_
    simp only [not_true_eq_false, if_false]
    refine Ev.bind (u2 _ _ _) ?_
    simp (disch := omega) only [if_neg, not_true_eq_false, if_false]
    exact Ev.now _
  · rw [leftI_out h1]
    simp only [show (-1 : Int) < 0 by decide, if_true]; exact Ev.now _
end Go.Proofs.YtmcbhnbemhfifaaDoor.RX
