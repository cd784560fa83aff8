/- Which texts are atoms, and which identifiers: the program's answer and the reference's. Condition: the text is not very long. -/
import Derived.Test.YtmcbhnbemhfifaaDoorPoRxPz
namespace Go.Proofs.YtmcbhnbemhfifaaDoor.RX
open Go K
set_option autoImplicit false
set_option linter.unusedVariables false
set_option linter.unusedSimpArgs false
def isDig (c : Int) : Bool := decide (48 ≤ c) && decide (c ≤ 57)
def inStr (c : Int) : Bool := decide (32 ≤ c) && decide (c ≤ 126) && !decide (c = 34)
def digs (l : List Int) : Bool := !l.isEmpty && l.all isDig
def quoted (l : List Int) : Bool := decide (2 ≤ l.length) && decide (rdAt 0 l 0 = 34) && decide (rdAt 0 l ((l.length : Int) - 1) = 34) && ((l.take (l.length - 1)).drop 1).all inStr
def atomL (l : List Int) : Bool := decide (l = [35, 116]) || (decide (l = [35, 102]) || (digs l || ((decide (1 < l.length) && decide (rdAt 0 l 0 = 45) && digs (l.drop 1)) || quoted l)))
def atomB (s : ByteArray) : Bool := atomL (bytesOf s)
def inId (c : Int) : Bool := decide (33 ≤ c) && decide (c < 126) && !decide (c = 40) && !decide (c = 41) && !decide (c = 34) && !decide (c = 39)
def idB (s : ByteArray) : Bool := (bytesOf s).all inId && !(bytesOf s).isEmpty && !decide (bytesOf s = [46]) && !decide (rdAt 0 (bytesOf s) 0 = 35) && !atomB s
theorem lit_eq {s : ByteArray} (a : Array UInt8) (l : List Int) (h : bytesOf (ByteArray.mk a) = l) : (s.toList = (ByteArray.mk a).toList) ↔ bytesOf s = l := by
  rw [toList_inj, ← bytesOf_inj, h]
theorem decide_not_ne {p : Prop} [Decidable p] (h : p) : ¬ ¬ p := fun k => k h
theorem bsize (s : ByteArray) : (s.size : Int) = ((bytesOf s).length : Int) := by rw [bytesOf_length]
/-- All letters of a text from a place on are of a kind: a walk that ends at the first that is not. -/
theorem digits_ok (s : ByteArray) (hs : s.size ≤ 1000000000) : Ev (fun k => spec_l1Digits.f k s) (digs (bytesOf s)) := by
  have hb := bsize s
  simp only [spec_l1Digits.f]
  have key : Ev (fun k => spec_l1Digits.l2 k s 0) ((bytesOf s).all isDig && decide (0 < (s.size : Int))) := by
    refine goList (bytesOf s) (P := fun i suf => Ev (fun k => spec_l1Digits.l2 k s i) (suf.all isDig && decide (0 < (s.size : Int)))) ?_ ?_
    · refine Ev.shift ?_
      simp (disch := omega) only [spec_l1Digits.l2, if_neg, List.all_nil, Bool.true_and]
      exact Ev.now _
    · intro i c r h0 h1 hx hm _ _ _ ih
      have h2 := byte_ok s c hm
      refine Ev.shift ?_
      simp (disch := omega) only [spec_l1Digits.l2, if_pos, bt_rd, hx, List.all_cons, w64]
      by_cases a1 : c < 48
      · simp (disch := omega) only [if_pos, isDig, decide_eq_false, Bool.false_and]; exact Ev.now _
      by_cases a2 : 57 < c
      · simp (disch := omega) only [if_pos, if_neg, isDig, decide_eq_false, Bool.and_false, Bool.false_and]; exact Ev.now _
      simp (disch := omega) only [if_neg, isDig, decide_eq_true (show 48 ≤ c by omega), decide_eq_true (show c ≤ 57 by omega), Bool.and_self, Bool.true_and]
      exact ih
  refine Ev.eq key ?_
  unfold digs
  rw [hb, Bool.and_comm]
  cases bytesOf s <;> simp
theorem quoted_ok (s : ByteArray) (hs : s.size ≤ 1000000000) : Ev (fun k => spec_l1AtomOk.j3 k s) (quoted (bytesOf s)) := by
  have hb := bsize s
  unfold quoted
  by_cases h2 : (s.size : Int) < 2
  · simp (disch := omega) only [spec_l1AtomOk.j3, if_pos]
    rw [decide_eq_false (by omega)]; simp only [Bool.false_and]; exact Ev.now _
  simp (disch := omega) only [spec_l1AtomOk.j3, if_pos, if_neg, bt_rd, w64]
  rw [decide_eq_true (show 2 ≤ (bytesOf s).length by omega), Bool.true_and]
  by_cases h3 : rdAt 0 (bytesOf s) 0 = 34
  · simp only [if_neg (decide_not_ne h3), decide_eq_true h3, Bool.true_and, ← hb]
    by_cases h4 : rdAt 0 (bytesOf s) ((s.size : Int) - 1) = 34
    · simp only [decide_eq_true h4, Bool.true_and, if_neg (decide_not_ne h4), spec_l1AtomOk.j5]
      have hl : (bytesOf s).length - 1 = (s.size : Int).toNat - 1 := by omega
      have key := goFrom ((bytesOf s).take ((bytesOf s).length - 1)) (P := fun i suf => Ev (fun k => spec_l1AtomOk.l6 k s i) (suf.all inStr)) ?_ ?_ 1 (by rw [List.length_take]; omega)
      · exact key
      · refine Ev.shift ?_
        rw [List.length_take]
        simp (disch := omega) only [spec_l1AtomOk.l6, if_neg, w64, List.all_nil]
        exact Ev.now _
      · intro i c r h0 h1 hx hm _ _ _ ih
        rw [List.length_take] at h1
        have hc : rdAt 0 (bytesOf s) i = c := by
          rw [← hx 0]
          unfold rdAt
          rw [List.getD_eq_getElem?_getD, List.getD_eq_getElem?_getD, List.getElem?_take, if_pos (by omega)]
        refine Ev.shift ?_
        simp (disch := omega) only [spec_l1AtomOk.l6, if_pos, bt_rd, hc, List.all_cons, w64]
        by_cases a0 : c = 34
        · simp (disch := omega) only [if_pos, inStr, decide_eq_true, Bool.not_true, Bool.and_false, Bool.false_and]; exact Ev.now _
        by_cases a1 : c < 32
        · simp (disch := omega) only [if_pos, if_neg, inStr, decide_eq_false, Bool.false_and]; exact Ev.now _
        by_cases a2 : 126 < c
        · simp (disch := omega) only [if_pos, if_neg, inStr, decide_eq_false, Bool.and_false, Bool.false_and]; exact Ev.now _
        simp (disch := omega) only [if_neg, inStr, decide_eq_true, decide_eq_false, Bool.not_false, Bool.and_self, Bool.true_and]
        exact ih
    · simp only [decide_eq_false h4, Bool.false_and, if_pos h4]; exact Ev.now _
  · simp only [if_pos h3, decide_eq_false h3, Bool.false_and]; exact Ev.now _
theorem atom_spec (s : ByteArray) (hs : s.size ≤ 1000000000) : Ev (fun k => spec_l1AtomOk.f k s) (atomB s) := by
  have hb := bsize s
  simp only [spec_l1AtomOk.f, lit_eq #[35, 116] [35, 116] rfl, lit_eq #[35, 102] [35, 102] rfl, atomB, atomL]
  by_cases a1 : bytesOf s = [35, 116]
  · simp only [if_pos a1, decide_eq_true a1, Bool.true_or]; exact Ev.now _
  simp only [if_neg a1, decide_eq_false a1, Bool.false_or]
  by_cases a2 : bytesOf s = [35, 102]
  · simp only [if_pos a2, decide_eq_true a2, Bool.true_or]; exact Ev.now _
  simp only [if_neg a2, decide_eq_false a2, Bool.false_or]
  refine Ev.bind (digits_ok s hs) ?_
  by_cases a3 : digs (bytesOf s) = true
  · rw [a3]; simp only [if_true, Bool.true_or]; exact Ev.now _
  simp only [if_neg a3, Bool.eq_false_iff.2 a3, Bool.false_or]
  by_cases a4 : 1 < (s.size : Int)
  · simp (disch := omega) only [if_pos, decide_eq_true (show 1 < (bytesOf s).length by omega), Bool.true_and, bt_rd]
    by_cases a5 : rdAt 0 (bytesOf s) 0 = 45
    · rw [decide_eq_true a5]
      simp only [if_pos a5, Bool.true_and]
      refine Ev.bind (digits_ok _ (by rw [ByteArray.size_extract]; omega)) ?_
      have e : bytesOf (s.extract 1 (s.size : Int).toNat) = (bytesOf s).drop 1 := by
        rw [bytesOf_extract, List.take_of_length_le (by omega)]
      rw [e]
      by_cases a6 : digs ((bytesOf s).drop 1) = true
      · rw [a6]; simp only [if_true, Bool.true_or]; exact Ev.now _
      · simp only [if_neg a6, Bool.eq_false_iff.2 a6, Bool.false_or]
        exact quoted_ok s hs
    · rw [decide_eq_false a5]
      simp only [if_neg a5, Bool.false_and, Bool.false_or]
      exact quoted_ok s hs
  · simp (disch := omega) only [if_neg, decide_eq_false (show ¬ 1 < (bytesOf s).length by omega), Bool.false_and, Bool.false_or]
    exact quoted_ok s hs
theorem dropWhile_nil {α : Type} (p : α → Bool) : ∀ l : List α, l.dropWhile p = [] ↔ l.all p = true := by
  intro l
  induction l with
  | nil => simp
  | cons x l ih =>
    by_cases h : p x = true
    · simp [List.dropWhile_cons, h, ih]
    · simp [List.dropWhile_cons, h]
theorem trim_nil (l cs : List UInt8) : Go.Lib.trimS l cs = [] ↔ l.all (cs.contains ·) = true := by
  unfold Go.Lib.trimS Go.Lib.trimLeftS Go.Lib.trimRightS
  rw [dropWhile_nil]
  constructor
  · intro h
    have h0 : (l.reverse.dropWhile (cs.contains ·)) = [] := by
      cases hd : l.reverse.dropWhile (cs.contains ·) with
      | nil => rfl
      | cons y m =>
        have hy : cs.contains y = false := by
          have := List.head?_dropWhile_not (cs.contains ·) l.reverse
          rw [hd] at this
          simpa using this
        rw [hd] at h
        simp at h
        have h1 := h.2
        rw [List.contains_eq_mem] at hy
        simp at hy
        exact absurd h1 hy
    rw [dropWhile_nil] at h0
    simpa using h0
  · intro h
    have h0 : (l.reverse.dropWhile (cs.contains ·)) = [] := by
      rw [dropWhile_nil]
      simpa using h
    rw [h0]
    rfl
theorem dig_iff : ∀ b : UInt8, ([48, 49, 50, 51, 52, 53, 54, 55, 56, 57] : List UInt8).contains b = isDig (b.toNat : Int) := by
  intro b
  have : ∀ n : Fin 256, ([48, 49, 50, 51, 52, 53, 54, 55, 56, 57] : List UInt8).contains (UInt8.ofNat n.val) = isDig (n.val : Int) := by decide +kernel
  have := this ⟨b.toNat, b.toNat_lt⟩
  simpa using this
theorem trim_ok (d : ByteArray) (hd : d.size ≤ 1000000000) : ∃ r, LTrim d (ByteArray.mk #[48, 49, 50, 51, 52, 53, 54, 55, 56, 57]) = some r ∧ decide (r.toList = (ByteArray.mk #[]).toList) = (bytesOf d).all isDig := by
  refine ⟨⟨(Go.Lib.trimS d.data.toList [48, 49, 50, 51, 52, 53, 54, 55, 56, 57]).toArray⟩, ?_, ?_⟩
  · unfold LTrim
    rw [if_pos (by decide), if_pos (by omega), if_pos (by decide)]
  · have e : (bytesOf d).all isDig = d.data.toList.all (([48, 49, 50, 51, 52, 53, 54, 55, 56, 57] : List UInt8).contains ·) := by
      unfold bytesOf
      rw [List.all_map]
      congr 1
      funext b
      exact (dig_iff b).symm
    rw [e, Bool.eq_iff_iff, ← trim_nil, decide_eq_true_eq, toList_data]
    simp [toList_data]
theorem prefix_ok (s : ByteArray) : Ev (fun k => strings_TrimPrefix.f k s (ByteArray.mk #[45])) (if 1 ≤ (s.size : Int) ∧ rdAt 0 (bytesOf s) 0 = 45 then s.extract 1 s.size else s) := by
  have hb := bsize s
  have e1 : (ByteArray.mk #[45]).size = 1 := rfl
  simp only [strings_TrimPrefix.f, internal_stringslite_TrimPrefix.f, internal_stringslite_HasPrefix.f, e1]
  by_cases h : 1 ≤ (s.size : Int)
  · have e : ((s.extract 0 ((1 : Nat) : Int).toNat).toList = (ByteArray.mk #[45]).toList) ↔ rdAt 0 (bytesOf s) 0 = 45 := by
      rw [lit_eq #[45] [45] rfl, bytesOf_extract]
      generalize bytesOf s = l at hb ⊢
      cases l with
      | nil => simp only [List.length_nil] at hb; omega
      | cons c l => simp [rdAt]
    simp (disch := omega) only [if_pos, e, Option.bind_some, decide_eq_true_eq, h, true_and]
    by_cases h5 : rdAt 0 (bytesOf s) 0 = 45
    · simp only [h5, if_true, Option.bind_some]; exact Ev.now _
    · simp only [h5, if_false, Option.bind_some]; exact Ev.now _
  · simp (disch := omega) only [if_neg, Option.bind_some, Bool.false_eq_true, if_false]
    exact Ev.now _
theorem atom_impl (s : ByteArray) (hs : s.size ≤ 1000000000) : Ev (fun k => impl_expAtom.f k s) (atomB s) := by
  have hb := bsize s
  simp only [impl_expAtom.f, lit_eq #[35, 116] [35, 116] rfl, lit_eq #[35, 102] [35, 102] rfl, atomB, atomL]
  by_cases a1 : bytesOf s = [35, 116]
  · simp only [if_pos a1, decide_eq_true a1, Bool.true_or]; exact Ev.now _
  simp only [if_neg a1, decide_eq_false a1, Bool.false_or]
  by_cases a2 : bytesOf s = [35, 102]
  · simp only [if_pos a2, decide_eq_true a2, Bool.true_or]; exact Ev.now _
  simp only [if_neg a2, decide_eq_false a2, Bool.false_or]
  have other : quoted (bytesOf s) = false → Ev (fun k => impl_expAtom.j5 k s (s.size : Int) false) (digs (bytesOf s) || (decide (1 < (bytesOf s).length) && decide (rdAt 0 (bytesOf s) 0 = 45) && digs ((bytesOf s).drop 1) || quoted (bytesOf s))) := by
    intro hq
    rw [hq, Bool.or_false]
    simp only [impl_expAtom.j5, Bool.false_eq_true, if_false]
    refine Ev.bind (prefix_ok s) ?_
    have fin : ∀ d : ByteArray, d.size ≤ 1000000000 → Ev (fun k : Nat => if ¬ d.toList = (ByteArray.mk #[]).toList then ((LTrim d (ByteArray.mk #[48, 49, 50, 51, 52, 53, 54, 55, 56, 57])).bind fun r2 => some (decide (r2.toList = (ByteArray.mk #[]).toList))) else some false) (digs (bytesOf d)) := by
      intro d hd
      obtain ⟨r, e1, e2⟩ := trim_ok d hd
      rw [e1]
      simp only [Option.bind_some, e2]
      simp only [lit_eq #[] [] rfl, digs]
      cases h : bytesOf d with
      | nil => simp; exact Ev.now _
      | cons c l => simp only [List.isEmpty_cons, Bool.not_false, Bool.true_and, reduceCtorEq, not_false_eq_true, if_true]; exact Ev.now _
    have edge : ∀ c ∈ bytesOf s, 0 ≤ c ∧ c ≤ 255 := byte_ok s
    by_cases h : 1 ≤ (s.size : Int) ∧ rdAt 0 (bytesOf s) 0 = 45
    · rw [if_pos h]
      have hd : digs (bytesOf s) = false := by
        have h1 := h.1; have h2 := h.2
        generalize bytesOf s = l at h1 h2 hb ⊢
        cases l with
        | nil => rfl
        | cons c l => simp [rdAt] at h2; subst h2; simp [digs, isDig]
      rw [hd, Bool.false_or, decide_eq_true h.2, Bool.and_true]
      refine Ev.eq (fin _ (by rw [ByteArray.size_extract]; omega)) ?_
      have e : bytesOf (s.extract 1 s.size) = (bytesOf s).drop 1 := by rw [bytesOf_extract, List.take_of_length_le (by omega)]
      rw [e]
      by_cases h1 : 1 < (bytesOf s).length
      · rw [decide_eq_true h1, Bool.true_and]
      · rw [decide_eq_false h1, Bool.false_and, List.drop_eq_nil_of_le (by omega)]; rfl
    · rw [if_neg h]
      refine Ev.eq (fin _ hs) ?_
      have : (decide (1 < (bytesOf s).length) && decide (rdAt 0 (bytesOf s) 0 = 45)) = false := by
        rw [Bool.and_eq_false_iff, decide_eq_false_iff_not, decide_eq_false_iff_not]
        by_cases h1 : 1 < (bytesOf s).length
        · exact .inr fun e => h ⟨by omega, e⟩
        · exact .inl h1
      rw [this, Bool.false_and, Bool.or_false]
  by_cases h2 : 2 ≤ (s.size : Int)
  · simp (disch := omega) only [impl_expAtom.j3, if_pos, bt_rd, w64]
    by_cases h3 : rdAt 0 (bytesOf s) 0 = 34
    · simp only [if_pos h3]
      by_cases h4 : rdAt 0 (bytesOf s) ((s.size : Int) - 1) = 34
      · have hd : digs (bytesOf s) = false := by
          generalize bytesOf s = l at h3 hb ⊢
          cases l with
          | nil => rfl
          | cons c l => simp [rdAt] at h3; subst h3; simp [digs, isDig]
        rw [hd, h3, decide_eq_false (show ¬ (34 : Int) = 45 by decide), Bool.and_false, Bool.false_and, Bool.false_or, Bool.false_or, decide_eq_true h4]
        simp (disch := omega) only [impl_expAtom.j5, if_true, w64, if_pos]
        have e : bytesOf (s.extract 1 ((s.size : Int) - 1).toNat) = ((bytesOf s).take ((bytesOf s).length - 1)).drop 1 := by
          rw [bytesOf_extract, show ((s.size : Int) - 1).toNat = (bytesOf s).length - 1 by omega]
        rw [e]
        have hq : quoted (bytesOf s) = (((bytesOf s).take ((bytesOf s).length - 1)).drop 1).all inStr := by
          unfold quoted
          rw [decide_eq_true (show 2 ≤ (bytesOf s).length by omega), decide_eq_true h3, ← hb, decide_eq_true h4]
          simp only [Bool.true_and]
        rw [hq]
        have hlen : (((bytesOf s).take ((bytesOf s).length - 1)).drop 1).length ≤ 1000000000 := by rw [List.length_drop, List.length_take]; omega
        generalize (((bytesOf s).take ((bytesOf s).length - 1)).drop 1) = m at hlen ⊢
        refine goList m (P := fun i suf => Ev (fun k => impl_expAtom.l6 k m (m.length : Int) i) (suf.all inStr)) ?_ ?_
        · refine Ev.shift ?_
          simp (disch := omega) only [impl_expAtom.l6, if_neg, List.all_nil]
          exact Ev.now _
        · intro i c r h0 h1 hx hm _ _ _ ih
          refine Ev.shift ?_
          simp (disch := omega) only [impl_expAtom.l6, if_pos, hx, List.all_cons, w64]
          by_cases a1 : c < 32
          · simp (disch := omega) only [if_pos, if_neg, inStr, decide_eq_false, Bool.false_and]; exact Ev.now _
          by_cases a2 : 126 < c
          · simp (disch := omega) only [if_pos, if_neg, inStr, decide_eq_false, Bool.and_false, Bool.false_and]; exact Ev.now _
          by_cases a0 : c = 34
          · simp (disch := omega) only [if_pos, if_neg, inStr, decide_eq_true, Bool.not_true, Bool.and_false, Bool.false_and]; exact Ev.now _
          simp (disch := omega) only [if_neg, inStr, decide_eq_true, decide_eq_false, Bool.not_false, Bool.and_self, Bool.true_and]
          exact ih
      · simp only [decide_eq_false h4]
        refine other ?_
        unfold quoted
        rw [← hb, decide_eq_false h4, Bool.and_false, Bool.false_and]
    · simp only [if_neg h3]
      refine other ?_
      unfold quoted
      rw [decide_eq_false h3, Bool.and_false, Bool.false_and, Bool.false_and]
  · simp (disch := omega) only [impl_expAtom.j3, if_neg]
    refine other ?_
    unfold quoted
    rw [decide_eq_false (show ¬ 2 ≤ (bytesOf s).length by omega)]
    simp only [Bool.false_and]
theorem ends_ok (c : Int) : Ev (fun k => spec_l1Ends.f k c) (decide (c = 32) || decide (c = 10) || decide (c = 40) || decide (c = 41) || decide (c = 34) || decide (c = 39)) := by
  simp only [spec_l1Ends.f, spec_l1Blank.f]
  by_cases a0 : c = 32
  · simp [a0]; exact Ev.now _
  by_cases a1 : c = 10
  · simp [a1]; exact Ev.now _
  by_cases a2 : c = 40
  · simp [a2]; exact Ev.now _
  by_cases a3 : c = 41
  · simp [a3]; exact Ev.now _
  by_cases a4 : c = 34
  · simp [a4]; exact Ev.now _
  simp [a0, a1, a2, a3, a4]; exact Ev.now _
theorem idB_false {s : ByteArray} (h : idB s = false → False) : idB s = true := by
  cases e : idB s with
  | true => rfl
  | false => exact (h e).elim
theorem id_spec (s : ByteArray) (hs : s.size ≤ 1000000000) : Ev (fun k => spec_l1IdOk.f k s) (idB s) := by
  have hb := bsize s
  simp only [spec_l1IdOk.f, lit_eq #[] [] rfl, lit_eq #[46] [46] rfl, bt_rd]
  by_cases a0 : bytesOf s = []
  · have : idB s = false := by unfold idB; rw [a0]; rfl
    simp only [if_pos a0, this]; exact Ev.now _
  by_cases a1 : bytesOf s = [46]
  · have : idB s = false := by unfold idB; rw [decide_eq_true a1]; simp
    simp only [if_neg a0, if_pos a1, this]; exact Ev.now _
  simp only [if_neg a0, if_neg a1]
  refine Ev.bind (atom_spec s hs) ?_
  by_cases a2 : atomB s = true
  · have : idB s = false := by unfold idB; rw [a2]; simp
    simp only [a2, if_true, this]; exact Ev.now _
  have hp : 0 < (s.size : Int) := by
    have := List.length_pos_iff.2 a0; omega
  simp (disch := omega) only [if_neg a2, if_pos]
  by_cases a3 : rdAt 0 (bytesOf s) 0 = 35
  · have : idB s = false := by unfold idB; rw [decide_eq_true a3]; simp
    simp only [if_pos a3, this]; exact Ev.now _
  simp only [if_neg a3, spec_l1IdOk.j3]
  have e : idB s = (bytesOf s).all inId := by
    unfold idB
    rw [decide_eq_false a1, decide_eq_false a3, Bool.eq_false_iff.2 a2]
    have : (bytesOf s).isEmpty = false := by simpa using a0
    simp [this]
  rw [e]
  refine goList (bytesOf s) (P := fun i suf => Ev (fun k => spec_l1IdOk.l4 k s i) (suf.all inId)) ?_ ?_
  · refine Ev.shift ?_
    simp (disch := omega) only [spec_l1IdOk.l4, if_neg, List.all_nil]
    exact Ev.now _
  · intro i c r h0 h1 hx hm _ _ _ ih
    refine Ev.shift ?_
    simp (disch := omega) only [spec_l1IdOk.l4, if_pos, bt_rd, hx, List.all_cons, w64]
    refine Ev.bind (ends_ok c) ?_
    by_cases h : inId c = true
    · have h' := h
      simp only [inId, Bool.and_eq_true, Bool.not_eq_true', decide_eq_true_eq, decide_eq_false_iff_not] at h'
      simp (disch := omega) only [decide_eq_false, Bool.or_self, Bool.false_eq_true, if_false, if_neg, h, Bool.true_and]
      exact ih
    · have h' := h
      simp only [inId, Bool.and_eq_true, Bool.not_eq_true', decide_eq_true_eq, decide_eq_false_iff_not] at h'
      rw [Bool.eq_false_iff.2 h, Bool.false_and]
      by_cases b1 : (decide (c = 32) || decide (c = 10) || decide (c = 40) || decide (c = 41) || decide (c = 34) || decide (c = 39)) = true
      · simp only [b1, if_true]; exact Ev.now _
      · simp only [Bool.or_eq_true, decide_eq_true_eq] at b1
        simp (disch := omega) only [decide_eq_false, Bool.or_self, Bool.false_eq_true, if_false]
        by_cases b2 : c < 33
        · simp only [if_pos b2]; exact Ev.now _
        by_cases b3 : 126 < c
        · simp only [if_neg b2, if_pos b3]; exact Ev.now _
        · simp (disch := omega) only [if_neg b2, if_neg b3, if_pos]; exact Ev.now _
theorem index_id (c : Int) (h0 : 0 ≤ c) (h1 : c ≤ 255) : (0 ≤ LIndexByte (ByteArray.mk #[40, 41, 34, 39, 126]) c) ↔ (c = 40 ∨ c = 41 ∨ c = 34 ∨ c = 39 ∨ c = 126) := by
  obtain ⟨n, rfl⟩ := Int.eq_ofNat_of_zero_le h0
  have : ∀ n : Fin 256, (0 ≤ LIndexByte (ByteArray.mk #[40, 41, 34, 39, 126]) (n.val : Int)) ↔ ((n.val : Int) = 40 ∨ (n.val : Int) = 41 ∨ (n.val : Int) = 34 ∨ (n.val : Int) = 39 ∨ (n.val : Int) = 126) := by decide +kernel
  exact this ⟨n, by omega⟩
theorem id_impl (s : ByteArray) (hs : s.size ≤ 1000000000) : Ev (fun k => impl_expId.f k s) (idB s) := by
  have hb := bsize s
  simp only [impl_expId.f, bytesOf_length]
  have key : ∀ r : List Int, r = bytesOf s → Ev (fun k => impl_expId.l2 k s (bytesOf s) (s.size : Int) 0) (r.all inId && !(bytesOf s).isEmpty && !decide (bytesOf s = [46]) && !decide (rdAt 0 (bytesOf s) 0 = 35) && !atomB s) := by
    rintro r rfl
    refine goList (bytesOf s) (P := fun i suf => Ev (fun k => impl_expId.l2 k s (bytesOf s) (s.size : Int) i) (suf.all inId && !(bytesOf s).isEmpty && !decide (bytesOf s = [46]) && !decide (rdAt 0 (bytesOf s) 0 = 35) && !atomB s)) ?_ ?_
    · refine Ev.shift ?_
      simp (disch := omega) only [impl_expId.l2, if_neg, List.all_nil, Bool.true_and, lit_eq #[] [] rfl, lit_eq #[46] [46] rfl, bt_rd]
      by_cases a0 : bytesOf s = []
      · simp only [a0, if_neg (decide_not_ne (rfl : ([] : List Int) = [])), List.isEmpty_nil, Bool.not_true, Bool.false_and]; exact Ev.now _
      have a0' : (bytesOf s).isEmpty = false := by simpa using a0
      simp only [if_pos a0, a0', Bool.not_false, Bool.true_and]
      by_cases a1 : bytesOf s = [46]
      · simp only [if_neg (decide_not_ne a1), decide_eq_true a1, Bool.not_true, Bool.false_and]; exact Ev.now _
      have hp : 0 < (s.size : Int) := by have := List.length_pos_iff.2 a0; omega
      simp only [if_pos a1, decide_eq_false a1, Bool.not_false, Bool.true_and, if_pos hp]
      by_cases a3 : rdAt 0 (bytesOf s) 0 = 35
      · simp only [if_neg (decide_not_ne a3), decide_eq_true a3, Bool.not_true, Bool.false_and]; exact Ev.now _
      simp only [if_pos a3, decide_eq_false a3, Bool.not_false, Bool.true_and]
      refine Ev.bind (atom_impl s hs) ?_
      cases atomB s
      · exact Ev.now _
      · exact Ev.now _
    · intro i c r h0 h1 hx hm _ _ _ ih
      obtain ⟨c0, c1⟩ := byte_ok s c hm
      refine Ev.shift ?_
      simp (disch := omega) only [impl_expId.l2, if_pos, hx, List.all_cons, w64, index_id c c0 c1]
      by_cases h : inId c = true
      · have h' := h
        simp only [inId, Bool.and_eq_true, Bool.not_eq_true', decide_eq_true_eq, decide_eq_false_iff_not] at h'
        simp (disch := omega) only [if_neg, h, Bool.true_and]
        exact ih
      · have h' := h
        simp only [inId, Bool.and_eq_true, Bool.not_eq_true', decide_eq_true_eq, decide_eq_false_iff_not] at h'
        rw [Bool.eq_false_iff.2 h]
        simp only [Bool.false_and]
        by_cases b2 : c < 33
        · simp only [if_pos b2]; exact Ev.now _
        by_cases b3 : 126 < c
        · simp only [if_neg b2, if_pos b3]; exact Ev.now _
        · simp (disch := omega) only [if_neg b2, if_neg b3, if_pos]; exact Ev.now _
  exact key _ rfl
end Go.Proofs.YtmcbhnbemhfifaaDoor.RX
