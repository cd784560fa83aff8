/- FokFnExactExpShow of the seat's texts, cut down by prune.py to what the theorem comes to. -/
import Derived.Test.YtmdhanegafclmaaDoorZsFormFnExactExpShow
namespace Go.Proofs.YtmdhanegafclmaaDoor.Pure
open Go.RowKit Go.Proofs.YtmdhanegafclmaaDoor.PFnExactExpShow Go.Proofs.YtmdhanegafclmaaDoorW.PrintWords Go.Proofs.YtmdhanegafclmaaDoorW.PrintLast Go.Proofs.YtmdhanegafclmaaDoorW.Pk
set_option linter.unusedVariables false
set_option linter.unusedSimpArgs false
theorem bytesOf_size (s : ByteArray) : ((bytesOf s).length : Int) = (s.size : Int) := by rw [bytesOf_length]
theorem bt_mid {s : ByteArray} {pre suf : List Int} {c : Int} (h : pre ++ c :: suf = bytesOf s) : bt s (pre.length : Int) = c := by
 rw [← rd_bytesOf, ← h]
 exact rd_mid pre suf c
theorem lt_mid {s : ByteArray} {pre suf : List Int} {c : Int} (h : pre ++ c :: suf = bytesOf s) : (pre.length : Int) < (s.size : Int) := by
 rw [← bytesOf_size, ← h]
 exact mid_lt pre suf c
theorem toList_data (c : ByteArray) : c.toList = c.data.toList := by
 have hl : ∀ (i : Nat) (r : List UInt8), i ≤ c.size → ByteArray.toList.loop c i r = r.reverse ++ c.data.toList.drop i := by
  intro i r hi
  induction hd : c.size - i generalizing i r with
  | zero =>
   have : i = c.size := by omega
   subst this
   unfold ByteArray.toList.loop
   have hz : c.data.toList.drop c.size = [] := List.drop_eq_nil_of_le (by rw [Array.length_toList]; exact Nat.le_refl _)
   simp [hz]
  | succ d ih =>
   have hlt : i < c.size := by omega
   unfold ByteArray.toList.loop
   rw [if_pos hlt, ih (i + 1) (c.get! i :: r) (by omega) (by omega)]
   have hlt' : i < c.data.toList.length := by rw [Array.length_toList]; exact hlt
   rw [List.drop_eq_getElem_cons hlt']
   have : c.get! i = c.data.toList[i] := by
    show c.data[i]! = _
    rw [getElem!_pos c.data i hlt, Array.getElem_toList]
   simp [this]
 unfold ByteArray.toList
 rw [hl 0 [] (Nat.zero_le _)]
 simp
theorem bytesOf_toList (s : ByteArray) : bytesOf s = s.toList.map fun b => (b.toNat : Int) := by rw [toList_data]; rfl
theorem size_toList (s : ByteArray) : s.toList.length = s.size := by rw [toList_data]; exact data_length s
theorem bytesOf_extract (s : ByteArray) (a b : Nat) : bytesOf (s.extract a b) = ((bytesOf s).take b).drop a := by
 unfold bytesOf
 rw [← List.map_take, ← List.map_drop]
 congr 1
 rw [ByteArray.data_extract, Array.toList_extract]
 simp [List.extract, List.drop_take]
def isDig (c : Int) : Bool := !(decide (c < 48)) && !(decide (c > 57))
def digs (s : ByteArray) : Bool := (bytesOf s).all isDig && decide ((s.size : Int) > 0)
theorem digits_loop (s : ByteArray) (hs : s.size ≤ 1048576) (suf : List Int) : ∀ pre, pre ++ suf = bytesOf s → Ev (fun k => spec_l1Digits.l0 k s (pre.length : Int)) (suf.all isDig && decide ((s.size : Int) > 0)) := by
 induction suf with
 | nil =>
  intro pre h
  refine Ev.shift ?_
  have hl : (pre.length : Int) = (s.size : Int) := by rw [← bytesOf_size, ← h]; simp
  simp only [spec_l1Digits.l0, if_neg (show ¬ ((pre.length : Int) < (s.size : Int)) by omega), List.all_nil, Bool.true_and]
  exact Ev.now _
 | cons c suf ih =>
  intro pre h
  have hlt := lt_mid h
  refine Ev.shift ?_
  simp only [spec_l1Digits.l0, if_pos hlt, if_pos (Int.natCast_nonneg pre.length), bt_mid h]
  by_cases h1 : c < 48
  ·simp only [if_pos h1, List.all_cons, isDig, decide_eq_true h1, Bool.not_true, Bool.false_and]
   exact Ev.now _
  by_cases h2 : c > 57
  ·simp only [if_neg h1, if_pos h2, List.all_cons, isDig, decide_eq_true h2, Bool.not_true, Bool.and_false, Bool.false_and]
   exact Ev.now _
  have hi := ih (pre ++ [c]) (by simpa using h)
  have hw : wrap64 ((pre.length : Int) + 1) = ((pre ++ [c]).length : Int) := by rw [len_snoc, wrap64_eq (by omega) (by omega)]
  simp only [if_neg h1, if_neg h2, hw, List.all_cons, isDig, decide_eq_false h1, decide_eq_false h2, Bool.not_false, Bool.true_and]
  exact hi
theorem digits_ok (s : ByteArray) (hs : s.size ≤ 1048576) : Ev (fun k => spec_l1Digits.f k s) (digs s) := digits_loop s hs (bytesOf s) [] rfl
def tenDigits : ByteArray := ⟨#[48, 49, 50, 51, 52, 53, 54, 55, 56, 57]⟩
theorem isDig_iff (b : UInt8) : tenDigits.data.toList.contains b = isDig (b.toNat : Int) := by
 have e : ∀ n : Nat, n < 256 → ((b == UInt8.ofNat n) = decide (b.toNat = n)) := by
  intro n hn
  by_cases h : b.toNat = n
  ·have : b = UInt8.ofNat n := by rw [← h]; simp
   simp [this, hn]
  ·have : b ≠ UInt8.ofNat n := fun e => h (by rw [e]; simp; omega)
   simp [this, h]
 show (([48, 49, 50, 51, 52, 53, 54, 55, 56, 57] : List UInt8).contains b) = _
 simp only [List.contains_cons, List.contains_nil, Bool.or_false]
 have h48 := e 48 (by omega); have h49 := e 49 (by omega); have h50 := e 50 (by omega); have h51 := e 51 (by omega); have h52 := e 52 (by omega)
 have h53 := e 53 (by omega); have h54 := e 54 (by omega); have h55 := e 55 (by omega); have h56 := e 56 (by omega); have h57 := e 57 (by omega)
 simp only [show UInt8.ofNat 48 = 48 from rfl, show UInt8.ofNat 49 = 49 from rfl, show UInt8.ofNat 50 = 50 from rfl, show UInt8.ofNat 51 = 51 from rfl, show UInt8.ofNat 52 = 52 from rfl, show UInt8.ofNat 53 = 53 from rfl, show UInt8.ofNat 54 = 54 from rfl, show UInt8.ofNat 55 = 55 from rfl, show UInt8.ofNat 56 = 56 from rfl, show UInt8.ofNat 57 = 57 from rfl] at h48 h49 h50 h51 h52 h53 h54 h55 h56 h57
 rw [h48, h49, h50, h51, h52, h53, h54, h55, h56, h57]
 unfold isDig
 rw [Bool.eq_iff_iff]
 simp only [Bool.or_eq_true, decide_eq_true_eq, Bool.and_eq_true, Bool.not_eq_true', decide_eq_false_iff_not]
 omega
theorem dropWhile_nil {α : Type} (p : α → Bool) : ∀ l : List α, l.dropWhile p = [] ↔ l.all p = true := by
 intro l
 induction l with
 | nil => simp
 | cons x l ih =>
  by_cases h : p x = true
  ·simp [List.dropWhile_cons, h, ih]
  ·simp [List.dropWhile_cons, h]
theorem trim_nil (l cs : List UInt8) : Lib.trimS l cs = [] ↔ l.all (cs.contains ·) = true := by
 unfold Lib.trimS Lib.trimLeftS Lib.trimRightS
 rw [dropWhile_nil]
 constructor
 ·intro h
  have h0 : (l.reverse.dropWhile (cs.contains ·)) = [] := by
   cases hd : l.reverse.dropWhile (cs.contains ·) with
   | nil => rfl
   | cons y m =>
    have hy : cs.contains y = false := by
     have := List.head?_dropWhile_not (cs.contains ·) l.reverse
     rw [hd] at this
     simpa using this
    rw [hd] at h
    simp at h
    have h1 := h.2
    rw [List.contains_eq_mem] at hy
    simp at hy
    exact absurd h1 hy
  rw [dropWhile_nil] at h0
  simpa using h0
 ·intro h
  have h0 : (l.reverse.dropWhile (cs.contains ·)) = [] := by
   rw [dropWhile_nil]
   simpa using h
  rw [h0]
  rfl
theorem trim_ok (d : ByteArray) (hd : d.size ≤ 1048576) : ∃ r, strings_Trim.f d (⟨#[48, 49, 50, 51, 52, 53, 54, 55, 56, 57]⟩ : ByteArray) = some r ∧ (r.toList == ([] : List UInt8)) = (bytesOf d).all isDig := by
 refine ⟨⟨(Lib.trimS d.data.toList tenDigits.data.toList).toArray⟩, ?_, ?_⟩
 ·unfold strings_Trim.f
  rw [if_pos (by decide), if_pos (by omega), if_pos (by decide)]
  rfl
 ·rw [toList_data]
  have e : (bytesOf d).all isDig = d.data.toList.all (tenDigits.data.toList.contains ·) := by
   unfold bytesOf
   rw [List.all_map]
   congr 1
   funext b
   exact (isDig_iff b).symm
  rw [e]
  have h := trim_nil d.data.toList tenDigits.data.toList
  rw [Bool.eq_iff_iff, ← h]
  simp
def inStr (c : Int) : Bool := !(decide (c < 32)) && !(decide (c > 126)) && !(decide (c = 34))
theorem str_spec (s : ByteArray) (hs : s.size ≤ 1048576) (last : Int) (suf : List Int) : ∀ pre, pre ++ suf ++ [last] = bytesOf s → Ev (fun k => spec_l1AtomOk.l0 k s (pre.length : Int)) (suf.all inStr) := by
 induction suf with
 | nil =>
  intro pre h
  have hl : (s.size : Int) = (pre.length : Int) + 1 := by rw [← bytesOf_size, ← h]; simp
  have hw : wrap64 ((s.size : Int) - 1) = (pre.length : Int) := by rw [wrap64_eq (by omega) (by omega)]; omega
  refine Ev.shift ?_
  simp only [spec_l1AtomOk.l0, hw, if_neg (show ¬ ((pre.length : Int) < (pre.length : Int)) by omega), List.all_nil]
  exact Ev.now _
 | cons c suf ih =>
  intro pre h
  have h' : pre ++ c :: (suf ++ [last]) = bytesOf s := by rw [← h]; simp
  have hl : (s.size : Int) = (pre.length : Int) + (suf.length : Int) + 2 := by rw [← bytesOf_size, ← h]; simp; omega
  have hw : wrap64 ((s.size : Int) - 1) = (s.size : Int) - 1 := wrap64_eq (by omega) (by omega)
  refine Ev.shift ?_
  simp only [spec_l1AtomOk.l0, hw, if_pos (show (pre.length : Int) < (s.size : Int) - 1 by omega), if_pos (Int.natCast_nonneg pre.length), if_pos (lt_mid h'), bt_mid h']
  by_cases h3 : c = 34
  ·simp only [if_pos h3, List.all_cons, inStr, decide_eq_true h3, Bool.not_true, Bool.and_false, Bool.false_and]
   exact Ev.now _
  by_cases h1 : c < 32
  ·simp only [if_neg h3, if_pos h1, List.all_cons, inStr, decide_eq_true h1, Bool.not_true, Bool.false_and]
   exact Ev.now _
  by_cases h2 : c > 126
  ·simp only [if_neg h3, if_neg h1, if_pos h2, List.all_cons, inStr, decide_eq_true h2, Bool.not_true, Bool.and_false, Bool.false_and]
   exact Ev.now _
  have hi := ih (pre ++ [c]) (by rw [← h]; simp)
  have hn : wrap64 ((pre.length : Int) + 1) = ((pre ++ [c]).length : Int) := by rw [len_snoc, wrap64_eq (by omega) (by omega)]
  simp only [if_neg h3, if_neg h1, if_neg h2, hn, List.all_cons, inStr, decide_eq_false h1, decide_eq_false h2, decide_eq_false h3, Bool.not_false, Bool.true_and]
  exact hi
theorem str_impl (suf : List Int) : ∀ pre : List Int, (pre ++ suf).length ≤ 1048576 → Ev (fun k => impl_expAtom.l0 k (pre ++ suf) ((pre ++ suf).length : Int) (pre.length : Int)) (suf.all inStr) := by
 induction suf with
 | nil =>
  intro pre _
  refine Ev.shift ?_
  simp only [impl_expAtom.l0, if_neg (mid_not_lt pre)]
  exact Ev.now _
 | cons c suf ih =>
  intro pre hn
  refine Ev.shift ?_
  simp only [impl_expAtom.l0, if_pos (mid_lt pre suf c), if_pos (Int.natCast_nonneg pre.length), rd_mid, next_i pre suf c (by omega)]
  by_cases h1 : c < 32
  ·simp only [if_pos h1, List.all_cons, inStr, decide_eq_true h1, Bool.not_true, Bool.false_and]
   exact Ev.now _
  by_cases h2 : c > 126
  ·simp only [if_neg h1, if_pos h2, List.all_cons, inStr, decide_eq_true h2, Bool.not_true, Bool.and_false, Bool.false_and]
   exact Ev.now _
  by_cases h3 : c = 34
  ·simp only [if_neg h1, if_neg h2, if_pos h3, List.all_cons, inStr, decide_eq_true h3, Bool.not_true, Bool.and_false, Bool.false_and]
   exact Ev.now _
  simp only [if_neg h3, if_neg h1, if_neg h2, List.all_cons, inStr, decide_eq_false h1, decide_eq_false h2, decide_eq_false h3, Bool.not_false, Bool.true_and]
  rw [mid_assoc pre suf c]
  exact ih (pre ++ [c]) (by simpa using hn)
theorem toList_extract (s : ByteArray) (a b : Nat) : (s.extract a b).toList = (s.toList.take b).drop a := by
 rw [toList_data, toList_data, ByteArray.data_extract, Array.toList_extract]
 simp [List.extract, List.drop_take]
theorem bt_zero {s : ByteArray} {b : UInt8} {r : List UInt8} (h : s.toList = b :: r) : bt s 0 = (b.toNat : Int) := by
 rw [← rd_bytesOf, bytesOf_toList, h]
 rfl
theorem isize (s : ByteArray) : (s.size : Int) = (s.toList.length : Int) := by rw [size_toList]
def quoted (s : ByteArray) : Bool := decide ((s.size : Int) ≥ 2) && decide (bt s 0 = 34) && decide (bt s ((s.size : Int) - 1) = 34)
def inner (s : ByteArray) : List Int := ((bytesOf s).take (s.size - 1)).drop 1
def num (s : ByteArray) : Bool := digs s || (decide ((s.size : Int) > 1) && decide (bt s 0 = 45) && digs (s.extract 1 s.size))
def atom (s : ByteArray) : Bool := decide (s.toList = [35, 116]) || decide (s.toList = [35, 102]) || (if quoted s = true then (inner s).all inStr else num s)
theorem digs_first {s : ByteArray} {b : UInt8} {r : List UInt8} (h : s.toList = b :: r) (hb : isDig (b.toNat : Int) = false) : digs s = false := by
 unfold digs
 rw [bytesOf_toList, h]
 simp [hb]
theorem digs_nil {s : ByteArray} (h : s.toList = []) : digs s = false := by
 have : (s.size : Int) = 0 := by rw [isize, h]; rfl
 unfold digs
 simp [this]
theorem prefix_ok (s : ByteArray) : strings_TrimPrefix.f s (⟨#[45]⟩ : ByteArray) = some (if (s.size : Int) ≥ 1 ∧ bt s 0 = 45 then s.extract 1 s.size else s) := by
 unfold strings_TrimPrefix.f stringslite_TrimPrefix.f stringslite_HasPrefix.f
 have h1 : (((⟨#[45]⟩ : ByteArray).size : Nat) : Int) = 1 := rfl
 rw [h1]
 by_cases hs : (s.size : Int) ≥ 1
 ·simp only [if_pos hs, show (0 : Int) ≤ 1 from by decide, if_true, if_pos (show (1 : Int) ≤ (s.size : Int) from hs), Option.bind_some, Int.toNat_one]
  cases hl : s.toList with
  | nil => rw [isize, hl] at hs; exact absurd hs (by decide)
  | cons b r =>
   have e : (s.extract 0 1).toList = [b] := by rw [toList_extract, hl]; rfl
   have e2 : (⟨#[45]⟩ : ByteArray).toList = [45] := by rw [toList_data]
   rw [e, e2, bt_zero hl]
   by_cases hb : b = 45
   ·subst hb
    rw [if_pos (show (([45] : List UInt8) == [45]) = true from rfl), if_pos (show (s.size : Int) ≥ 1 ∧ (((45 : UInt8).toNat : Nat) : Int) = 45 from ⟨hs, rfl⟩)]
    rfl
   ·have hb2 : ¬ ((b.toNat : Int) = 45) := fun h => hb (by
     have h45 : (45 : UInt8).toNat = 45 := rfl
     have : b.toNat = (45 : UInt8).toNat := by omega
     exact UInt8.toNat_inj.1 this)
    have hb3 : ([b] == ([45] : List UInt8)) = false := by simpa using hb
    rw [hb3, if_neg (show ¬ ((false : Bool) = true) by decide), if_neg (show ¬ ((s.size : Int) ≥ 1 ∧ (b.toNat : Int) = 45) from fun h => hb2 h.2)]
    rfl
 ·simp only [if_neg hs, Option.bind_some, Bool.false_eq_true, if_false]
  rw [if_neg (fun h => hs h.1)]
theorem num_impl (k : Nat) (s : ByteArray) (hs : s.size ≤ 1048576) (x3 : Int) : impl_expAtom.j1 (k + 1) s x3 false = some (num s) := by
 have go : ∀ d : ByteArray, d.size ≤ 1048576 → (if d.toList = ([] : List UInt8) then some false else (strings_Trim.f d (⟨#[48, 49, 50, 51, 52, 53, 54, 55, 56, 57]⟩ : ByteArray)).bind fun t => some (t.toList == ([] : List UInt8))) = some (digs d) := by
  intro d hd
  cases hl : d.toList with
  | nil => rw [digs_nil hl]; rfl
  | cons b r =>
   obtain ⟨q, hq, hq2⟩ := trim_ok d hd
   have hz : (d.size : Int) > 0 := by rw [isize, hl]; simp
   rw [hq]
   simp only [Option.bind_some, hq2, digs, decide_eq_true hz, Bool.and_true, reduceCtorEq, if_false]
 simp only [impl_expAtom.j1, Bool.false_eq_true, if_false, prefix_ok, Option.bind_some]
 by_cases hp : (s.size : Int) ≥ 1 ∧ bt s 0 = 45
 ·have hes : (s.extract 1 s.size).size ≤ 1048576 := by
   have h9 := size_toList (s.extract 1 s.size)
   rw [toList_extract, List.length_drop, List.length_take] at h9
   have h2 := size_toList s
   omega
  rw [if_pos hp, go _ hes]
  congr 1
  have hd : digs s = false := by
   cases hl : s.toList with
   | nil => exact digs_nil hl
   | cons b r => exact digs_first hl (by rw [← bt_zero hl, hp.2]; rfl)
  unfold num
  rw [hd, hp.2]
  by_cases h1 : (s.size : Int) > 1
  ·simp [h1]
  ·have : (s.extract 1 s.size).toList = [] := by
    rw [toList_extract]
    apply List.drop_eq_nil_of_le
    rw [List.length_take]
    have h2 := size_toList s
    omega
   rw [digs_nil this]
   simp
 ·rw [if_neg hp, go s hs]
  congr 1
  unfold num
  by_cases h1 : (s.size : Int) > 1
  ·have : ¬ (bt s 0 = 45) := fun h => hp ⟨by omega, h⟩
   simp [this]
  ·simp [h1]
theorem quoted_shape {s : ByteArray} (h : quoted s = true) : ∃ a z, (bytesOf s) = a :: (inner s ++ [z]) := by
 unfold quoted at h
 simp only [Bool.and_eq_true, decide_eq_true_eq] at h
 have hlen := bytesOf_length s
 unfold inner
 cases hb : bytesOf s with
 | nil => rw [hb] at hlen; simp at hlen; omega
 | cons a m =>
  rw [hb] at hlen
  simp only [List.length_cons] at hlen
  have hm : m ≠ [] := by intro e; rw [e] at hlen; simp at hlen; omega
  refine ⟨a, m.getLast hm, ?_⟩
  have h1 : s.size - 1 = (m.length - 1) + 1 := by have := List.length_pos_iff.2 hm; omega
  rw [h1, List.take_succ_cons, List.drop_succ_cons, List.drop_zero, ← List.dropLast_eq_take, List.dropLast_concat_getLast hm]
theorem atom_spec (s : ByteArray) (hs : s.size ≤ 1048576) : Ev (fun k => spec_l1AtomOk.f k s) (atom s) := by
 unfold atom
 by_cases ht : s.toList = ([35, 116] : List UInt8)
 ·simp only [spec_l1AtomOk.f, if_pos ht, decide_eq_true ht, Bool.true_or]
  refine Ev.shift ?_
  simp only [spec_l1AtomOk.j0, if_true]
  exact Ev.now _
 by_cases hf : s.toList = ([35, 102] : List UInt8)
 ·simp only [spec_l1AtomOk.f, if_neg ht, if_pos hf, decide_eq_true hf, Bool.true_or, Bool.or_true]
  refine Ev.shift ?_
  simp only [spec_l1AtomOk.j0, if_true]
  exact Ev.now _
 simp only [spec_l1AtomOk.f, if_neg ht, if_neg hf, decide_eq_false ht, decide_eq_false hf, Bool.false_or]
 refine Ev.bind (digits_ok s hs) ?_
 cases hd : digs s with
 | true =>
  have hq : quoted s = false := by
   cases hl : s.toList with
   | nil => rw [digs_nil hl] at hd; cases hd
   | cons b r =>
    unfold quoted
    rw [bt_zero hl]
    by_cases hb : (b.toNat : Int) = 34
    ·rw [digs_first hl (by rw [hb]; rfl)] at hd; cases hd
    ·simp [hb]
  simp only [if_true, hq, Bool.false_eq_true, if_false, num, hd, Bool.true_or]
  refine Ev.shift ?_
  simp only [spec_l1AtomOk.j0, if_true]
  exact Ev.now _
 | false =>
  simp only [Bool.false_eq_true, if_false]
  by_cases h1 : (s.size : Int) > 1
  ·simp only [if_pos h1, if_pos (show 0 < (s.size : Int) by omega)]
   have hw : wrap64 ((s.size : Int) - 1) = (s.size : Int) - 1 := wrap64_eq (by omega) (by omega)
   by_cases h45 : bt s 0 = 45
   ·simp only [if_pos h45, if_pos (show 1 ≤ (s.size : Int) by omega)]
    have hes : (s.extract 1 s.size).size ≤ 1048576 := by
     have h9 := size_toList (s.extract 1 s.size)
     rw [toList_extract, List.length_drop, List.length_take] at h9
     have h2 := size_toList s
     omega
    refine Ev.bind (digits_ok _ hes) ?_
    have hq : quoted s = false := by unfold quoted; rw [h45]; simp
    have hn : num s = digs (s.extract 1 s.size) := by unfold num; simp [hd, h1, h45]
    simp only [hq, Bool.false_eq_true, if_false, hn]
    refine Ev.shift ?_
    cases digs (s.extract 1 s.size) with
    | true =>
     simp only [spec_l1AtomOk.j0, if_true]
     exact Ev.now _
    | false =>
     simp only [spec_l1AtomOk.j0, Bool.false_eq_true, if_false, if_neg (show ¬ ((s.size : Int) < 2) by omega), if_pos (show 0 < (s.size : Int) by omega), if_neg (show ¬ (bt s 0 = 34) by omega)]
     refine Ev.shift ?_
     simp only [spec_l1AtomOk.j1, if_true]
     exact Ev.now _
   ·have hn : num s = false := by unfold num; simp [hd, h45]
    simp only [if_neg h45]
    refine Ev.shift ?_
    simp only [spec_l1AtomOk.j0, Bool.false_eq_true, if_false, if_neg (show ¬ ((s.size : Int) < 2) by omega), if_pos (show 0 < (s.size : Int) by omega), hw, if_pos (show 0 ≤ (s.size : Int) - 1 by omega), if_pos (show (s.size : Int) - 1 < (s.size : Int) by omega)]
    by_cases h34 : bt s 0 = 34
    ·simp only [if_pos h34]
     by_cases hl34 : bt s ((s.size : Int) - 1) = 34
     ·have hq : quoted s = true := by unfold quoted; simp [h34, hl34]; omega
      obtain ⟨a, z, hsh⟩ := quoted_shape hq
      have h := str_spec s hs z (inner s) [a] (by rw [hsh]; simp)
      simp only [hq, if_true, hl34, bne_self_eq_false]
      refine Ev.shift ?_
      simp only [spec_l1AtomOk.j1, Bool.false_eq_true, if_false]
      exact h
     ·have hq : quoted s = false := by unfold quoted; simp [hl34]
      have hb : (bt s ((s.size : Int) - 1) != 34) = true := by simpa using hl34
      simp only [hq, Bool.false_eq_true, if_false, hn, hb]
      refine Ev.shift ?_
      simp only [spec_l1AtomOk.j1, if_true]
      exact Ev.now _
    ·have hq : quoted s = false := by unfold quoted; simp [h34]
     simp only [if_neg h34, hq, Bool.false_eq_true, if_false, hn]
     refine Ev.shift ?_
     simp only [spec_l1AtomOk.j1, if_true]
     exact Ev.now _
  ·have hq : quoted s = false := by unfold quoted; simp [show ¬ ((s.size : Int) ≥ 2) by omega]
   have hn : num s = false := by unfold num; simp [hd, h1]
   simp only [if_neg h1, hq, Bool.false_eq_true, if_false, hn]
   refine Ev.shift ?_
   simp only [spec_l1AtomOk.j0, Bool.false_eq_true, if_false, if_pos (show (s.size : Int) < 2 by omega)]
   refine Ev.shift ?_
   simp only [spec_l1AtomOk.j1, if_true]
   exact Ev.now _
theorem atom_impl (s : ByteArray) (hs : s.size ≤ 1048576) : Ev (fun k => impl_expAtom.f k s) (atom s) := by
 unfold atom
 by_cases ht : s.toList = ([35, 116] : List UInt8)
 ·simp only [impl_expAtom.f, if_pos ht, decide_eq_true ht, Bool.true_or]
  refine Ev.shift ?_
  simp only [impl_expAtom.j0, if_true]
  exact Ev.now _
 by_cases hf : s.toList = ([35, 102] : List UInt8)
 ·simp only [impl_expAtom.f, if_neg ht, decide_eq_true hf, Bool.true_or, Bool.or_true]
  refine Ev.shift ?_
  simp only [impl_expAtom.j0, show (s.toList == ([35, 102] : List UInt8)) = true from by simpa using hf, if_true]
  exact Ev.now _
 simp only [impl_expAtom.f, if_neg ht, decide_eq_false ht, decide_eq_false hf, Bool.false_or, show (s.toList == ([35, 102] : List UInt8)) = false from by simpa using hf]
 have hnum : ∀ x3 : Int, Ev (fun k => impl_expAtom.j1 k s x3 false) (num s) := fun x3 => Ev.shift (Ev.congr (fun k => num_impl k s hs x3) (Ev.now _))
 refine Ev.shift ?_
 simp only [impl_expAtom.j0, Bool.false_eq_true, if_false]
 by_cases h2 : (s.size : Int) ≥ 2
 ·have hw : wrap64 ((s.size : Int) - 1) = (s.size : Int) - 1 := wrap64_eq (by omega) (by omega)
  simp only [if_pos h2, if_pos (show 0 < (s.size : Int) by omega), hw, if_pos (show 0 ≤ (s.size : Int) - 1 by omega), if_pos (show (s.size : Int) - 1 < (s.size : Int) by omega)]
  by_cases h34 : bt s 0 = 34
  ·simp only [if_pos h34]
   by_cases hl34 : bt s ((s.size : Int) - 1) = 34
   ·have hq : quoted s = true := by unfold quoted; simp [h34, hl34]; omega
    simp only [hq, if_true, hl34, beq_self_eq_true]
    refine Ev.shift ?_
    have hex : bytesOf (s.extract 1 ((s.size : Int) - 1).toNat) = inner s := by
     rw [bytesOf_extract]
     unfold inner
     rw [show ((s.size : Int) - 1).toNat = s.size - 1 by omega]
    have hil : (inner s).length ≤ 1048576 := by
     unfold inner
     have := bytesOf_length s
     simp
     omega
    have hsz : (s.extract 1 ((s.size : Int) - 1).toNat).size ≤ 9223372036854775807 := by
     have := bytesOf_length (s.extract 1 ((s.size : Int) - 1).toNat)
     rw [hex] at this
     omega
    simp only [impl_expAtom.j1, if_true, hw, if_pos (show 1 ≤ (s.size : Int) - 1 by omega), if_pos (show (s.size : Int) - 1 ≤ (s.size : Int) by omega), bytesV.f, if_pos hsz, Option.bind_some, hex]
    exact str_impl (inner s) [] (by simpa using hil)
   ·have hq : quoted s = false := by unfold quoted; simp [hl34]
    have hb : (bt s ((s.size : Int) - 1) == 34) = false := by simpa using hl34
    simp only [hq, Bool.false_eq_true, if_false, hb]
    exact hnum _
  ·have hq : quoted s = false := by unfold quoted; simp [h34]
   simp only [if_neg h34, hq, Bool.false_eq_true, if_false]
   exact hnum _
 ·have hq : quoted s = false := by unfold quoted; simp [h2]
  simp only [if_neg h2, hq, Bool.false_eq_true, if_false]
  exact hnum _
def idLetter (c : Int) : Bool := !(decide (c < 33)) && !(decide (c > 126)) && !(decide (c = 40 ∨ c = 41 ∨ c = 34 ∨ c = 39 ∨ c = 126))
def ident (s : ByteArray) : Bool := (bytesOf s).all idLetter && !(decide (s.toList = [])) && !(decide (s.toList = [46])) && !(decide (bt s 0 = 35)) && !(atom s)
theorem ends_ok (c : Int) : spec_l1Ends.f c = some (decide (c = 32 ∨ c = 10 ∨ c = 40 ∨ c = 41 ∨ c = 34 ∨ c = 39)) := by
 unfold spec_l1Ends.f spec_l1Blank.f
 by_cases h1 : c = 32
 ·subst h1; rfl
 by_cases h2 : c = 10
 ·subst h2; rfl
 by_cases h3 : c = 40
 ·subst h3; rfl
 by_cases h4 : c = 41
 ·subst h4; rfl
 by_cases h5 : c = 34
 ·subst h5; rfl
 by_cases h6 : c = 39
 ·subst h6; rfl
 simp [h1, h2, h3, h4, h5, h6]
theorem id_spec (s : ByteArray) (hs : s.size ≤ 1048576) (suf : List Int) : ∀ pre, pre ++ suf = bytesOf s → Ev (fun k => spec_l1IdOk.l0 k s (pre.length : Int)) (suf.all idLetter) := by
 induction suf with
 | nil =>
  intro pre h
  have hl : (pre.length : Int) = (s.size : Int) := by rw [← bytesOf_size, ← h]; simp
  refine Ev.shift ?_
  simp only [spec_l1IdOk.l0, if_neg (show ¬ ((pre.length : Int) < (s.size : Int)) by omega), List.all_nil]
  exact Ev.now _
 | cons c suf ih =>
  intro pre h
  have hlt := lt_mid h
  refine Ev.shift ?_
  simp only [spec_l1IdOk.l0, if_pos hlt, if_pos (Int.natCast_nonneg pre.length), bt_mid h, ends_ok, Option.bind_some]
  have no : idLetter c = false → Ev (fun _ => some false) ((c :: suf).all idLetter) := fun e => by simp only [List.all_cons, e, Bool.false_and]; exact Ev.now _
  by_cases h1 : (c = 32 ∨ c = 10 ∨ c = 40 ∨ c = 41 ∨ c = 34 ∨ c = 39)
  ·simp only [decide_eq_true h1, if_true]
   refine no ?_
   unfold idLetter
   rcases h1 with rfl | rfl | rfl | rfl | rfl | rfl <;> rfl
  by_cases h2 : c < 33
  ·simp only [decide_eq_false h1, Bool.false_eq_true, if_false, if_pos h2]
   exact no (by unfold idLetter; simp [h2])
  by_cases h3 : c > 126
  ·simp only [decide_eq_false h1, Bool.false_eq_true, if_false, if_neg h2, if_pos h3]
   exact no (by unfold idLetter; simp [h3])
  by_cases h4 : c = 126
  ·simp only [decide_eq_false h1, Bool.false_eq_true, if_false, if_neg h2, if_neg h3, if_pos h4]
   exact no (by unfold idLetter; simp [h4])
  have hw : wrap64 ((pre.length : Int) + 1) = ((pre ++ [c]).length : Int) := by rw [len_snoc, wrap64_eq (by omega) (by omega)]
  have hi := ih (pre ++ [c]) (by simpa using h)
  have hc : idLetter c = true := by
   unfold idLetter
   simp only [Bool.and_eq_true, Bool.not_eq_true', decide_eq_false_iff_not]
   omega
  simp only [decide_eq_false h1, Bool.false_eq_true, if_false, if_neg h2, if_neg h3, if_neg h4, hw, List.all_cons, hc, Bool.true_and]
  exact hi
theorem index_ok (c : Int) (h0 : 0 ≤ c) (h1 : c ≤ 255) : ∃ r, strings_IndexByte.f (⟨#[40, 41, 34, 39, 126]⟩ : ByteArray) c = some r ∧ (r ≥ 0 ↔ (c = 40 ∨ c = 41 ∨ c = 34 ∨ c = 39 ∨ c = 126)) := by
 obtain ⟨n, rfl⟩ := Int.eq_ofNat_of_zero_le h0
 have hn : n < 256 := by omega
 refine ⟨_, rfl, ?_⟩
 show Lib.indexByte [40, 41, 34, 39, 126] (Int.ofNat n).toNat.toUInt8 ≥ 0 ↔ _
 have e : ∀ m : Nat, m < 256 → ((UInt8.ofNat m == (Int.ofNat n).toNat.toUInt8) = decide (n = m)) := by
  intro m hm
  have e1 : (Int.ofNat n).toNat.toUInt8 = UInt8.ofNat n := rfl
  rw [e1]
  by_cases h : n = m
  ·simp [h]
  ·have : UInt8.ofNat m ≠ UInt8.ofNat n := fun e => h (by
    have := congrArg UInt8.toNat e
    simp at this
    omega)
   simp [this, h]
 have h40 := e 40 (by omega); have h41 := e 41 (by omega); have h34 := e 34 (by omega); have h39 := e 39 (by omega); have h126 := e 126 (by omega)
 simp only [show UInt8.ofNat 40 = 40 from rfl, show UInt8.ofNat 41 = 41 from rfl, show UInt8.ofNat 34 = 34 from rfl, show UInt8.ofNat 39 = 39 from rfl, show UInt8.ofNat 126 = 126 from rfl] at h40 h41 h34 h39 h126
 simp only [Lib.indexByte, h40, h41, h34, h39, h126]
 by_cases a1 : n = 40
 ·simp [a1]
 by_cases a2 : n = 41
 ·simp [a2]
 by_cases a3 : n = 34
 ·simp [a3]
 by_cases a4 : n = 39
 ·simp [a4]
 by_cases a5 : n = 126
 ·simp [a5]
 simp [a1, a2, a3, a4, a5]
 omega
theorem bytes_range (s : ByteArray) : ∀ c ∈ bytesOf s, 0 ≤ c ∧ c ≤ 255 := by
 intro c hc
 unfold bytesOf at hc
 obtain ⟨b, _, rfl⟩ := List.mem_map.1 hc
 have := b.toNat_lt
 omega
theorem id_impl (s : ByteArray) (hs : s.size ≤ 1048576) (suf : List Int) : ∀ pre : List Int, pre ++ suf = bytesOf s →
  Ev (fun k => impl_expId.l0 k s (bytesOf s) ((bytesOf s).length : Int) (pre.length : Int)) (suf.all idLetter && !(decide (s.toList = [])) && !(decide (s.toList = [46])) && !(decide (bt s 0 = 35)) && !(atom s)) := by
 induction suf with
 | nil =>
  intro pre h
  have h : pre = bytesOf s := by simpa using h
  refine Ev.shift ?_
  rw [← h]
  simp only [impl_expId.l0, if_neg (show ¬ ((pre.length : Int) < (pre.length : Int)) by omega), List.all_nil, Bool.true_and]
  by_cases h1 : s.toList = ([] : List UInt8)
  ·simp only [if_pos h1, decide_eq_true h1, Bool.not_true, Bool.false_and]
   exact Ev.now _
  by_cases h2 : s.toList = ([46] : List UInt8)
  ·simp only [if_neg h1, if_pos h2, decide_eq_true h2, decide_eq_false h1, Bool.not_true, Bool.and_false, Bool.false_and]
   exact Ev.now _
  have hpos : 0 < (s.size : Int) := by
   rw [isize]
   have := List.length_pos_iff.2 h1
   omega
  simp only [if_neg h1, if_neg h2, if_pos hpos]
  by_cases h3 : bt s 0 = 35
  ·simp only [if_pos h3, decide_eq_true h3, Bool.not_true, Bool.and_false, Bool.false_and]
   exact Ev.now _
  simp only [if_neg h3, decide_eq_false h1, decide_eq_false h2, decide_eq_false h3, Bool.not_false, Bool.true_and]
  exact Ev.bind (atom_impl s hs) (Ev.now _)
 | cons c suf ih =>
  intro pre h
  have hlt : (pre.length : Int) < ((bytesOf s).length : Int) := by rw [← h]; exact mid_lt pre suf c
  have hrd : rd (bytesOf s) (pre.length : Int) = c := by rw [← h]; exact rd_mid pre suf c
  have hc := bytes_range s c (by rw [← h]; simp)
  have hlen := bytesOf_length s
  have hw : wrap64 ((pre.length : Int) + 1) = ((pre ++ [c]).length : Int) := by rw [len_snoc, wrap64_eq (by omega) (by omega)]
  refine Ev.shift ?_
  simp only [impl_expId.l0, if_pos hlt, if_pos (Int.natCast_nonneg pre.length), hrd]
  have no : idLetter c = false → Ev (fun _ => some false) ((c :: suf).all idLetter && !(decide (s.toList = [])) && !(decide (s.toList = [46])) && !(decide (bt s 0 = 35)) && !(atom s)) := fun e => by simp only [List.all_cons, e, Bool.false_and]; exact Ev.now _
  by_cases h2 : c < 33
  ·simp only [if_pos h2]
   exact no (by unfold idLetter; simp [h2])
  by_cases h3 : c > 126
  ·simp only [if_neg h2, if_pos h3]
   exact no (by unfold idLetter; simp [h3])
  obtain ⟨r, hr, hr2⟩ := index_ok c hc.1 hc.2
  simp only [if_neg h2, if_neg h3, hr, Option.bind_some]
  by_cases h4 : r ≥ 0
  ·simp only [if_pos h4]
   exact no (by unfold idLetter; simp [hr2.1 h4])
  ·have h5 : ¬ (c = 40 ∨ c = 41 ∨ c = 34 ∨ c = 39 ∨ c = 126) := fun e => h4 (hr2.2 e)
   have hcc : idLetter c = true := by
    unfold idLetter
    simp only [Bool.and_eq_true, Bool.not_eq_true', decide_eq_false_iff_not]
    omega
   simp only [if_neg h4, hw, List.all_cons, hcc, Bool.true_and]
   exact ih (pre ++ [c]) (by simpa using h)
theorem ident_impl (s : ByteArray) (hs : s.size ≤ 1048576) : Ev (fun k => impl_expId.f k s) (ident s) := by
 simp only [impl_expId.f, bytesV.f, if_pos (show s.size ≤ 9223372036854775807 by omega), Option.bind_some]
 exact id_impl s hs (bytesOf s) [] rfl
theorem ident_spec (s : ByteArray) (hs : s.size ≤ 1048576) : Ev (fun k => spec_l1IdOk.f k s) (ident s) := by
 unfold ident
 by_cases h1 : s.toList = ([] : List UInt8)
 ·simp only [spec_l1IdOk.f, if_pos h1, decide_eq_true h1, Bool.not_true, Bool.and_false, Bool.false_and]
  refine Ev.shift ?_
  simp only [spec_l1IdOk.j0, if_true]
  exact Ev.now _
 by_cases h2 : s.toList = ([46] : List UInt8)
 ·simp only [spec_l1IdOk.f, if_neg h1, if_pos h2, decide_eq_true h2, Bool.not_true, Bool.and_false, Bool.false_and]
  refine Ev.shift ?_
  simp only [spec_l1IdOk.j0, if_true]
  exact Ev.now _
 have hpos : 0 < (s.size : Int) := by
  rw [isize]
  have := List.length_pos_iff.2 h1
  omega
 simp only [spec_l1IdOk.f, if_neg h1, if_neg h2, if_pos hpos]
 refine Ev.bind (atom_spec s hs) ?_
 cases ha : atom s with
 | true =>
  simp only [if_true, Bool.not_true, Bool.and_false]
  refine Ev.shift ?_
  simp only [spec_l1IdOk.j0, if_true]
  exact Ev.now _
 | false =>
  simp only [Bool.false_eq_true, if_false, decide_eq_false h1, decide_eq_false h2, Bool.not_false, Bool.and_true]
  refine Ev.shift ?_
  by_cases h3 : bt s 0 = 35
  ·simp only [spec_l1IdOk.j0, h3, beq_self_eq_true, if_true, decide_true, Bool.not_true, Bool.and_false]
   exact Ev.now _
  ·have hb : (bt s 0 == 35) = false := by simpa using h3
   simp only [spec_l1IdOk.j0, hb, Bool.false_eq_true, if_false, decide_eq_false h3, Bool.not_false, Bool.and_true]
   exact id_spec s hs (bytesOf s) [] rfl
def ascFrom : Option Int → List Int → Bool
 | _, [] => true
 | prev, a :: l => !(decide (a < 0)) && (match prev with | none => true | some p => !(decide (p ≥ a))) && ascFrom (some a) l
def scopesOk (l : List Int) : Bool := ascFrom none l
theorem rd_last (pre suf : List Int) (p : Int) (x : Int) : rd (pre ++ [p] ++ x :: suf) (((pre ++ [p]).length : Int) - 1) = p := by
 have : ((pre ++ [p]).length : Int) - 1 = (pre.length : Int) := by simp
 rw [this, List.append_assoc]
 exact rd_mid pre (x :: suf) p
theorem scopes_spec (suf : List Int) : ∀ (pre : List Int) (prev : Option Int), (match prev with | none => pre = [] | some p => ∃ q, pre = q ++ [p]) → (pre ++ suf).length ≤ 1048576 →
  Ev (fun k => spec_l1ScopesOk.l0 k (pre ++ suf) (pre.length : Int)) (ascFrom prev suf) := by
 induction suf with
 | nil =>
  intro pre prev _ _
  refine Ev.shift ?_
  simp only [spec_l1ScopesOk.l0, if_neg (mid_not_lt pre), ascFrom]
  exact Ev.now _
 | cons x suf ih =>
  intro pre prev hp hn
  have hnx := next_i pre suf x (by omega)
  refine Ev.shift ?_
  simp only [spec_l1ScopesOk.l0, if_pos (mid_lt pre suf x), if_pos (Int.natCast_nonneg pre.length), rd_mid, hnx]
  by_cases h0 : x < 0
  ·simp only [if_pos h0, ascFrom, decide_eq_true h0, Bool.not_true, Bool.false_and]
   exact Ev.now _
  have hi := ih (pre ++ [x]) (some x) ⟨pre, rfl⟩ (by simpa using hn)
  cases prev with
  | none =>
   have hp : pre = [] := hp
   subst hp
   simp only [if_neg h0, List.length_nil, show ¬ (((0 : Nat) : Int) > 0) from by decide, if_false, ascFrom, decide_eq_false h0, Bool.not_false, Bool.true_and]
   exact hi
  | some p =>
   obtain ⟨q, rfl⟩ : ∃ q, pre = q ++ [p] := hp
   have hpos : (((q ++ [p]).length : Nat) : Int) > 0 := by simp
   have hw : wrap64 (((q ++ [p]).length : Int) - 1) = ((q ++ [p]).length : Int) - 1 := wrap64_eq (by omega) (by simp at hn ⊢; omega)
   have hlt := mid_lt (q ++ [p]) suf x
   simp only [if_neg h0, if_pos hpos, hw, if_pos (show 0 ≤ ((q ++ [p]).length : Int) - 1 by omega), if_pos (show ((q ++ [p]).length : Int) - 1 < ((q ++ [p] ++ x :: suf).length : Int) by omega), rd_last]
   by_cases h1 : p ≥ x
   ·simp only [if_pos h1, ascFrom, decide_eq_false h0, decide_eq_true h1, Bool.not_true, Bool.and_false, Bool.false_and]
    exact Ev.now _
   ·simp only [if_neg h1, ascFrom, decide_eq_false h0, decide_eq_false h1, Bool.not_false, Bool.true_and]
    rw [mid_assoc (q ++ [p]) suf x]
    exact hi
theorem scopes_impl (n a0 : Int) (t : ByteArray) (d : Int) (ks : List S35) (suf : List Int) : ∀ (pre : List Int) (prev : Option Int), (match prev with | none => pre = [] | some p => ∃ q, pre = q ++ [p]) → (pre ++ suf).length ≤ 1048576 →
  Ev (fun k => impl_expCount.l0 k n (pre ++ suf) ((pre ++ suf).length : Int) (pre.length : Int) a0 t (pre ++ suf) d ks) (if ascFrom prev suf = true then n else -1) := by
 induction suf with
 | nil =>
  intro pre prev _ _
  refine Ev.shift ?_
  simp only [impl_expCount.l0, if_neg (mid_not_lt pre), ascFrom, if_true]
  exact Ev.now _
 | cons x suf ih =>
  intro pre prev hp hn
  have hnx := next_i pre suf x (by omega)
  refine Ev.shift ?_
  simp only [impl_expCount.l0, if_pos (mid_lt pre suf x), if_pos (Int.natCast_nonneg pre.length), rd_mid, hnx]
  by_cases h0 : x < 0
  ·simp only [if_pos h0, ascFrom, decide_eq_true h0, Bool.not_true, Bool.false_and, Bool.false_eq_true, if_false]
   exact Ev.now _
  have hi := ih (pre ++ [x]) (some x) ⟨pre, rfl⟩ (by simpa using hn)
  cases prev with
  | none =>
   have hp : pre = [] := hp
   subst hp
   simp only [if_neg h0, List.length_nil, show ¬ (((0 : Nat) : Int) > 0) from by decide, if_false, ascFrom, decide_eq_false h0, Bool.not_false, Bool.true_and]
   exact hi
  | some p =>
   obtain ⟨q, rfl⟩ : ∃ q, pre = q ++ [p] := hp
   have hpos : (((q ++ [p]).length : Nat) : Int) > 0 := by simp
   have hw : wrap64 (((q ++ [p]).length : Int) - 1) = ((q ++ [p]).length : Int) - 1 := wrap64_eq (by omega) (by simp at hn ⊢; omega)
   have hlt := mid_lt (q ++ [p]) suf x
   simp only [if_neg h0, if_pos hpos, hw, if_pos (show 0 ≤ ((q ++ [p]).length : Int) - 1 by omega), if_pos (show ((q ++ [p]).length : Int) - 1 < ((q ++ [p] ++ x :: suf).length : Int) by omega), rd_last]
   by_cases h1 : p ≥ x
   ·simp only [if_pos h1, ascFrom, decide_eq_false h0, decide_eq_true h1, Bool.not_true, Bool.and_false, Bool.false_and, Bool.false_eq_true, if_false]
    exact Ev.now _
   ·simp only [if_neg h1, ascFrom, decide_eq_false h0, decide_eq_false h1, Bool.not_false, Bool.true_and]
    rw [mid_assoc (q ++ [p]) suf x]
    exact hi
mutual
def cnt : S35 → Nat
 | ⟨_, _, _, _, ks⟩ => 1 + cnts ks
def cnts : List S35 → Nat
 | [] => 0
 | x :: l => cnt x + cnts l
end
theorem cnt_mk (x : S35) : cnt x = 1 + cnts x.f4 := by cases x; rfl
theorem cnt_pos (x : S35) : 1 ≤ cnt x := by rw [cnt_mk]; omega
theorem cnts_wid (l : List S35) (h : ∀ x ∈ l, cnt x ≤ 1 + wid x) : cnts l ≤ l.length + wids l := by
 induction l with
 | nil => simp [cnts]
 | cons x l ih =>
  have h1 := h x (by simp)
  have h2 := ih (fun y hy => h y (List.mem_cons_of_mem _ hy))
  simp only [cnts, wids, List.length_cons]
  omega
theorem cnt_wid : ∀ x, cnt x ≤ 1 + wid x := by
 refine ind35 (fun x ih => ?_)
 have := cnts_wid x.f4 ih
 rw [cnt_mk, wid_mk]
 omega
def SizeOk (x : S35) : Prop := wid x ≤ 1048576 → Ev (fun k => spec_l1Size.f k x.f0 x.f1 x.f2 x.f3 x.f4) (cnt x : Int)
theorem size_loop (a : Int) (t : ByteArray) (sc : List Int) (d : Int) (suf : List S35) (hP : ∀ y ∈ suf, SizeOk y) : ∀ (pre : List S35) (n : Nat), n + suf.length + wids suf ≤ 4194304 → (∀ y ∈ suf, wid y ≤ 1048576) → (pre ++ suf).length ≤ 1048576 →
  Ev (fun k => spec_l1Size.l0 k (n : Int) (pre.length : Int) a t sc d (pre ++ suf)) ((n + cnts suf : Nat) : Int) := by
 induction suf with
 | nil =>
  intro pre n _ _ _
  refine Ev.shift ?_
  simp only [spec_l1Size.l0, if_neg (mid_not_lt pre), cnts, Nat.add_zero]
  exact Ev.now _
 | cons s suf ih =>
  intro pre n hn hb hl
  simp only [wids, List.length_cons] at hn
  have hcw := cnt_wid s
  refine Ev.shift ?_
  simp only [spec_l1Size.l0, if_pos (mid_lt pre suf s), if_pos (Int.natCast_nonneg pre.length), rd35, next_i pre suf s (by omega)]
  refine Ev.bind (hP s (by simp) (hb s (by simp))) ?_
  have hw : wrap64 ((n : Int) + (cnt s : Int)) = ((n + cnt s : Nat) : Int) := by rw [wrap64_eq (by omega) (by omega)]; omega
  have h := ih (fun y hy => hP y (List.mem_cons_of_mem _ hy)) (pre ++ [s]) (n + cnt s) (by omega) (fun y hy => hb y (List.mem_cons_of_mem _ hy)) (by simpa using hl)
  simp only [hw]
  rw [mid_assoc pre suf s]
  simpa [cnts, Nat.add_assoc] using h
theorem size_ok : ∀ x, SizeOk x := by
 refine ind35 (fun x ih hb => ?_)
 rw [wid_mk] at hb
 refine Ev.shift ?_
 simp only [spec_l1Size.f]
 have h := size_loop x.f0 x.f1 x.f2 x.f3 x.f4 ih [] 1 (by omega) (fun y hy => by have := wids_mem hy; omega) (by simp; omega)
 rw [cnt_mk]
 exact h
def lastOk (ks : List S35) : Bool := decide ((ks.length : Int) > 1) && (decide ((rd_T35 ks ((ks.length : Int) - 1)).f0 = 1) || decide ((rd_T35 ks ((ks.length : Int) - 1)).f0 = 2))
mutual
def okf : S35 → Int → Bool
 | ⟨s, t, sc, d, ks⟩, deep => if deep > 60 then false else if s = 1 then ident t && decide ((t.size : Int) ≤ 40) && decide (d ≥ 0) && scopesOk sc && decide ((ks.length : Int) = 0)
  else if s = 2 then atom t && decide ((t.size : Int) ≤ 40) && decide (d = 0) && decide ((sc.length : Int) = 0) && decide ((ks.length : Int) = 0)
  else if s = 3 ∨ s = 4 then decide (t.toList = []) && decide (d = 0) && decide ((sc.length : Int) = 0) && okfs ks (deep + 1) && (if s = 3 then true else lastOk ks)
  else false
def okfs : List S35 → Int → Bool
 | [], _ => true
 | x :: l, deep => okf x deep && okfs l deep
end
theorem okf_mk (x : S35) (deep : Int) : okf x deep = if deep > 60 then false else if x.f0 = 1 then ident x.f1 && decide ((x.f1.size : Int) ≤ 40) && decide (x.f3 ≥ 0) && scopesOk x.f2 && decide ((x.f4.length : Int) = 0)
  else if x.f0 = 2 then atom x.f1 && decide ((x.f1.size : Int) ≤ 40) && decide (x.f3 = 0) && decide ((x.f2.length : Int) = 0) && decide ((x.f4.length : Int) = 0)
  else if x.f0 = 3 ∨ x.f0 = 4 then decide (x.f1.toList = []) && decide (x.f3 = 0) && decide ((x.f2.length : Int) = 0) && okfs x.f4 (deep + 1) && (if x.f0 = 3 then true else lastOk x.f4)
  else false := by cases x; simp only [okf]
def SpecOk (x : S35) : Prop := wid x ≤ 1048576 → ∀ deep : Int, 0 ≤ deep → deep ≤ 100 → Ev (fun k => spec_l1Ok.f k x.f0 x.f1 x.f2 x.f3 x.f4 deep) (okf x deep)
theorem ok_loop (s : Int) (t : ByteArray) (sc : List Int) (d : Int) (deep : Int) (hd0 : 0 ≤ deep) (hd1 : deep ≤ 60) (suf : List S35) (hP : ∀ y ∈ suf, SpecOk y) : ∀ (pre : List S35), (∀ y ∈ suf, wid y ≤ 1048576) → (pre ++ suf).length ≤ 1048576 →
  Ev (fun k => spec_l1Ok.l0 k deep (pre.length : Int) s t sc d (pre ++ suf)) (okfs suf (deep + 1) && (if s = 3 then true else lastOk (pre ++ suf))) := by
 induction suf with
 | nil =>
  intro pre _ hl
  have hw : wrap64 (((pre ++ []).length : Int) - 1) = ((pre ++ []).length : Int) - 1 := wrap64_eq (by omega) (by omega)
  refine Ev.shift ?_
  simp only [spec_l1Ok.l0, if_neg (mid_not_lt pre), okfs, Bool.true_and, hw]
  by_cases h3 : s = 3
  ·simp only [if_pos h3]
   exact Ev.now _
  simp only [if_neg h3]
  unfold lastOk
  by_cases h1 : ((pre ++ []).length : Int) > 1
  ·simp only [if_pos h1, if_pos (show 0 ≤ ((pre ++ []).length : Int) - 1 by omega), if_pos (show ((pre ++ []).length : Int) - 1 < ((pre ++ []).length : Int) by omega), decide_eq_true h1, Bool.true_and]
   by_cases h2 : (rd_T35 (pre ++ []) (((pre ++ []).length : Int) - 1)).f0 = 1
   ·simp only [if_pos h2, decide_eq_true h2, Bool.true_or]
    exact Ev.now _
   ·simp only [if_neg h2, decide_eq_false h2, Bool.false_or]
    exact Ev.now _
  ·simp only [if_neg h1, decide_eq_false h1, Bool.false_and]
   exact Ev.now _
 | cons x suf ih =>
  intro pre hb hl
  have hw : wrap64 (deep + 1) = deep + 1 := wrap64_eq (by omega) (by omega)
  refine Ev.shift ?_
  simp only [spec_l1Ok.l0, if_pos (mid_lt pre suf x), if_pos (Int.natCast_nonneg pre.length), rd35, hw, next_i pre suf x (by omega)]
  refine Ev.bind (hP x (by simp) (hb x (by simp)) (deep + 1) (by omega) (by omega)) ?_
  cases ho : okf x (deep + 1) with
  | true =>
   simp only [if_true, okfs, ho, Bool.true_and]
   rw [mid_assoc pre suf x]
   exact ih (fun y hy => hP y (List.mem_cons_of_mem _ hy)) (pre ++ [x]) (fun y hy => hb y (List.mem_cons_of_mem _ hy)) (by simpa using hl)
  | false =>
   simp only [Bool.false_eq_true, if_false, okfs, ho, Bool.false_and]
   exact Ev.now _
theorem spec_ok : ∀ x, SpecOk x := by
 refine ind35 (fun x ih hb deep hd0 hd1 => ?_)
 have hb' := hb
 rw [wid_mk] at hb
 refine Ev.shift ?_
 rw [okf_mk]
 by_cases hd : deep > 60
 ·simp only [spec_l1Ok.f, if_pos hd]
  exact Ev.now _
 simp only [spec_l1Ok.f, if_neg hd]
 by_cases h1 : x.f0 = 1
 ·simp only [if_pos h1]
  refine Ev.bind (ident_spec x.f1 (by omega)) ?_
  cases ident x.f1 with
  | false => simp only [Bool.false_eq_true, if_false, Bool.false_and]; exact Ev.now _
  | true =>
   simp only [if_true, Bool.true_and]
   by_cases h40 : (x.f1.size : Int) ≤ 40
   ·simp only [if_pos h40, decide_eq_true h40, Bool.true_and]
    by_cases hf : x.f3 ≥ 0
    ·simp only [if_pos hf, decide_eq_true hf, Bool.true_and]
     refine Ev.bind (a := scopesOk x.f2) ?_ ?_
     ·exact scopes_spec x.f2 [] none rfl (by simp; omega)
     ·cases scopesOk x.f2 with
      | true => simp only [if_true, Bool.true_and]; exact Ev.now _
      | false => simp only [Bool.false_eq_true, if_false, Bool.false_and]; exact Ev.now _
    ·simp only [if_neg hf, decide_eq_false hf, Bool.false_and]
     exact Ev.now _
   ·simp only [if_neg h40, decide_eq_false h40, Bool.false_and]
    exact Ev.now _
 by_cases h2 : x.f0 = 2
 ·simp only [if_neg h1, if_pos h2]
  refine Ev.bind (atom_spec x.f1 (by omega)) ?_
  cases atom x.f1 with
  | false => simp only [Bool.false_eq_true, if_false, Bool.false_and]; exact Ev.now _
  | true =>
   simp only [if_true, Bool.true_and]
   by_cases h40 : (x.f1.size : Int) ≤ 40
   ·simp only [if_pos h40, decide_eq_true h40, Bool.true_and]
    by_cases hf : x.f3 = 0
    ·simp only [if_pos hf, decide_eq_true hf, Bool.true_and]
     have hw : wrap64 ((x.f2.length : Int) + (x.f4.length : Int)) = (x.f2.length : Int) + (x.f4.length : Int) := wrap64_eq (by omega) (by omega)
     rw [hw]
     have e : (((x.f2.length : Int) + (x.f4.length : Int)) == 0) = (decide ((x.f2.length : Int) = 0) && decide ((x.f4.length : Int) = 0)) := by
      rw [Bool.eq_iff_iff]
      simp only [beq_iff_eq, Bool.and_eq_true, decide_eq_true_eq]
      omega
     rw [e]
     exact Ev.now _
    ·simp only [if_neg hf, decide_eq_false hf, Bool.false_and]
     exact Ev.now _
   ·simp only [if_neg h40, decide_eq_false h40, Bool.false_and]
    exact Ev.now _
 simp only [if_neg h1, if_neg h2]
 have body : (x.f0 = 3 ∨ x.f0 = 4) → Ev (fun k => spec_l1Ok.j0 k deep true x.f0 x.f1 x.f2 x.f3 x.f4) (decide (x.f1.toList = []) && decide (x.f3 = 0) && decide ((x.f2.length : Int) = 0) && okfs x.f4 (deep + 1) && (if x.f0 = 3 then true else lastOk x.f4)) := by
  intro _
  refine Ev.shift ?_
  simp only [spec_l1Ok.j0, if_true]
  by_cases ht : x.f1.toList = ([] : List UInt8)
  ·simp only [if_pos ht, decide_eq_true ht, Bool.true_and]
   by_cases hf : x.f3 = 0
   ·simp only [if_pos hf, decide_eq_true hf, Bool.true_and]
    by_cases hs : (x.f2.length : Int) > 0
    ·simp only [if_pos hs, decide_eq_false (show ¬ ((x.f2.length : Int) = 0) by omega), Bool.false_and]
     exact Ev.now _
    ·simp only [if_neg hs, decide_eq_true (show (x.f2.length : Int) = 0 by omega), Bool.true_and]
     exact ok_loop x.f0 x.f1 x.f2 x.f3 deep hd0 (by omega) x.f4 ih [] (fun y hy => by have := wids_mem hy; omega) (by simp; omega)
   ·simp only [if_neg hf, decide_eq_false hf, Bool.false_and]
    exact Ev.now _
  ·simp only [if_neg ht, decide_eq_false ht, Bool.false_and]
   exact Ev.now _
 by_cases h3 : x.f0 = 3
 ·simp only [if_pos h3, if_pos (show x.f0 = 3 ∨ x.f0 = 4 from .inl h3), show (x.f0 == 3) = true from by simpa using h3]
  have hbody := body (.inl h3)
  simp only [if_pos h3] at hbody
  exact hbody
 by_cases h4 : x.f0 = 4
 ·simp only [if_neg h3, if_pos (show x.f0 = 3 ∨ x.f0 = 4 from .inr h4), show (x.f0 == 4) = true from by simpa using h4]
  have hbody := body (.inr h4)
  simp only [if_neg h3] at hbody
  exact hbody
 ·simp only [if_neg h3, if_neg (show ¬ (x.f0 = 3 ∨ x.f0 = 4) by omega), show (x.f0 == 4) = false from by simpa using h4]
  refine Ev.shift ?_
  simp only [spec_l1Ok.j0, Bool.false_eq_true, if_false]
  exact Ev.now _
def val (x : S35) (deep : Int) : Int := if (okf x deep && decide (cnt x ≤ 1500)) = true then (cnt x : Int) else -1
def ImplOk (x : S35) : Prop := wid x ≤ 1048576 → ∀ deep : Int, 0 ≤ deep → deep ≤ 100 → Ev (fun k => impl_expCount.f k x.f0 x.f1 x.f2 x.f3 x.f4 deep) (val x deep)
theorem count_loop (deep : Int) (hd0 : 0 ≤ deep) (hd1 : deep ≤ 60) (suf : List S35) (hP : ∀ y ∈ suf, ImplOk y) : ∀ (pre : List S35) (n : Nat), n ≤ 1500 → (∀ y ∈ suf, wid y ≤ 1048576) → (pre ++ suf).length ≤ 1048576 →
  Ev (fun k => impl_expCount.l1 k deep (n : Int) (pre ++ suf) ((pre ++ suf).length : Int) (pre.length : Int)) (if (okfs suf (deep + 1) && decide (n + cnts suf ≤ 1500)) = true then ((n + cnts suf : Nat) : Int) else -1) := by
 induction suf with
 | nil =>
  intro pre n hn _ _
  refine Ev.shift ?_
  have e : (okfs [] (deep + 1) && decide (n + cnts [] ≤ 1500)) = true := by simp [okfs, cnts, hn]
  rw [if_pos e]
  simp only [impl_expCount.l1, if_neg (mid_not_lt pre), cnts, Nat.add_zero]
  exact Ev.now _
 | cons x suf ih =>
  intro pre n hn hb hl
  have hw : wrap64 (deep + 1) = deep + 1 := wrap64_eq (by omega) (by omega)
  have hc := cnt_pos x
  refine Ev.shift ?_
  simp only [impl_expCount.l1, if_pos (mid_lt pre suf x), if_pos (Int.natCast_nonneg pre.length), rd35, hw, next_i pre suf x (by omega)]
  refine Ev.bind (hP x (by simp) (hb x (by simp)) (deep + 1) (by omega) (by omega)) ?_
  unfold val
  by_cases ho : (okf x (deep + 1) && decide (cnt x ≤ 1500)) = true
  ·have ho1 : okf x (deep + 1) = true := (Bool.and_eq_true_iff.1 ho).1
   have ho2 : cnt x ≤ 1500 := of_decide_eq_true (Bool.and_eq_true_iff.1 ho).2
   have hw2 : wrap64 ((n : Int) + (cnt x : Int)) = ((n + cnt x : Nat) : Int) := by rw [wrap64_eq (by omega) (by omega)]; omega
   simp only [if_pos ho, if_neg (show ¬ ((cnt x : Int) < 0) by omega), hw2]
   by_cases h15 : ((n + cnt x : Nat) : Int) > 1500
   ·have e : (okfs (x :: suf) (deep + 1) && decide (n + cnts (x :: suf) ≤ 1500)) = false := by
     rw [decide_eq_false (show ¬ (n + cnts (x :: suf) ≤ 1500) by simp only [cnts]; omega), Bool.and_false]
    rw [e]
    simp only [if_pos h15, Bool.false_eq_true, if_false]
    exact Ev.now _
   ·have h := ih (fun y hy => hP y (List.mem_cons_of_mem _ hy)) (pre ++ [x]) (n + cnt x) (by omega) (fun y hy => hb y (List.mem_cons_of_mem _ hy)) (by simpa using hl)
    have e : n + cnts (x :: suf) = n + cnt x + cnts suf := by simp only [cnts]; omega
    have e2 : okfs (x :: suf) (deep + 1) = okfs suf (deep + 1) := by simp only [okfs, ho1, Bool.true_and]
    rw [e, e2]
    simp only [if_neg h15]
    rw [mid_assoc pre suf x]
    exact h
  ·have e : (okfs (x :: suf) (deep + 1) && decide (n + cnts (x :: suf) ≤ 1500)) = false := by
    rw [Bool.eq_false_iff]
    intro h
    apply ho
    have h2 := of_decide_eq_true (Bool.and_eq_true_iff.1 h).2
    have h1 := (Bool.and_eq_true_iff.1 h).1
    simp only [cnts] at h2
    simp only [okfs, Bool.and_eq_true] at h1
    rw [h1.1, decide_eq_true (show cnt x ≤ 1500 by omega)]
    rfl
   simp only [if_neg ho, show ((-1 : Int) < 0) from by decide, if_true, e, Bool.false_eq_true, if_false]
   exact Ev.now _
theorem impl_ok : ∀ x, ImplOk x := by
 refine ind35 (fun x ih hb deep hd0 hd1 => ?_)
 rw [wid_mk] at hb
 refine Ev.shift ?_
 have hcnt := cnt_mk x
 have no : okf x deep = false → Ev (fun _ => some (-1 : Int)) (val x deep) := fun e => by unfold val; simp only [e, Bool.false_and, Bool.false_eq_true, if_false]; exact Ev.now _
 have yes : okf x deep = true → x.f4 = [] → Ev (fun _ => some (1 : Int)) (val x deep) := fun e e4 => by
  unfold val
  rw [hcnt, e4, e]
  exact Ev.now _
 have hk := okf_mk x deep
 by_cases hd : deep > 60
 ·simp only [impl_expCount.f, if_pos hd]
  rw [if_pos hd] at hk
  exact no hk
 rw [if_neg hd] at hk
 simp only [impl_expCount.f, if_neg hd]
 have bad0 : okf x deep = false → Ev (fun k => impl_expCount.j0 k 1 true x.f0 x.f1 x.f2 x.f3 x.f4) (val x deep) := fun e => by
  refine Ev.shift ?_
  simp only [impl_expCount.j0, if_true]
  exact no e
 by_cases h1 : x.f0 = 1
 ·rw [if_pos h1] at hk
  simp only [if_pos h1]
  refine Ev.bind (ident_impl x.f1 (by omega)) ?_
  cases hi : ident x.f1 with
  | false =>
   simp only [Bool.false_eq_true, if_false]
   exact bad0 (by rw [hk, hi]; rfl)
  | true =>
   rw [hi, Bool.true_and] at hk
   simp only [if_true]
   by_cases h40 : (x.f1.size : Int) > 40
   ·simp only [if_pos h40]
    exact bad0 (by rw [hk, decide_eq_false (show ¬ ((x.f1.size : Int) ≤ 40) by omega)]; rfl)
   rw [decide_eq_true (show (x.f1.size : Int) ≤ 40 by omega), Bool.true_and] at hk
   simp only [if_neg h40]
   by_cases hf : x.f3 < 0
   ·simp only [if_pos hf]
    exact bad0 (by rw [hk, decide_eq_false (show ¬ (x.f3 ≥ 0) by omega)]; rfl)
   rw [decide_eq_true (show x.f3 ≥ 0 by omega), Bool.true_and] at hk
   simp only [if_neg hf]
   by_cases h4 : (x.f4.length : Int) > 0
   ·simp only [decide_eq_true h4]
    exact bad0 (by rw [hk, decide_eq_false (show ¬ ((x.f4.length : Int) = 0) by omega), Bool.and_false])
   have h40' : x.f4 = [] := List.eq_nil_of_length_eq_zero (by omega)
   rw [decide_eq_true (show (x.f4.length : Int) = 0 by omega), Bool.and_true] at hk
   simp only [decide_eq_false h4]
   refine Ev.shift ?_
   simp only [impl_expCount.j0, Bool.false_eq_true, if_false]
   have h := scopes_impl 1 x.f0 x.f1 x.f3 x.f4 x.f2 [] none rfl (by simp; omega)
   have e : (if ascFrom none x.f2 = true then (1 : Int) else -1) = val x deep := by
    unfold val
    rw [hk, hcnt, h40']
    unfold scopesOk
    cases ascFrom none x.f2 <;> rfl
   rw [← e]
   exact h
 rw [if_neg h1] at hk
 simp only [if_neg h1]
 by_cases h2 : x.f0 = 2
 ·rw [if_pos h2] at hk
  simp only [if_pos h2]
  refine Ev.bind (atom_impl x.f1 (by omega)) ?_
  cases hi : atom x.f1 with
  | false =>
   simp only [Bool.false_eq_true, if_false]
   exact no (by rw [hk, hi]; rfl)
  | true =>
   rw [hi, Bool.true_and] at hk
   simp only [if_true]
   by_cases h40 : (x.f1.size : Int) > 40
   ·simp only [if_pos h40]
    exact no (by rw [hk, decide_eq_false (show ¬ ((x.f1.size : Int) ≤ 40) by omega)]; rfl)
   rw [decide_eq_true (show (x.f1.size : Int) ≤ 40 by omega), Bool.true_and] at hk
   simp only [if_neg h40]
   by_cases hf : x.f3 = 0
   ·rw [decide_eq_true hf, Bool.true_and] at hk
    simp only [if_pos hf]
    by_cases hs : (x.f2.length : Int) > 0
    ·simp only [if_pos hs]
     exact no (by rw [hk, decide_eq_false (show ¬ ((x.f2.length : Int) = 0) by omega)]; rfl)
    rw [decide_eq_true (show (x.f2.length : Int) = 0 by omega), Bool.true_and] at hk
    simp only [if_neg hs]
    by_cases h4 : (x.f4.length : Int) > 0
    ·simp only [if_pos h4]
     exact no (by rw [hk, decide_eq_false (show ¬ ((x.f4.length : Int) = 0) by omega)])
    ·simp only [if_neg h4]
     exact yes (by rw [hk, decide_eq_true (show (x.f4.length : Int) = 0 by omega)]) (List.eq_nil_of_length_eq_zero (by omega))
   ·simp only [if_neg hf]
    exact no (by rw [hk, decide_eq_false hf]; rfl)
 rw [if_neg h2] at hk
 simp only [if_neg h2]
 have body : (x.f0 = 3 ∨ x.f0 = 4) → Ev (fun k => impl_expCount.j2 k deep 1 true x.f0 x.f1 x.f2 x.f3 x.f4) (val x deep) := by
  intro h34
  rw [if_pos h34] at hk
  have bad3 : okf x deep = false → Ev (fun k => impl_expCount.j3 k deep 1 true x.f0 x.f1 x.f2 x.f3 x.f4) (val x deep) := fun e => by
   refine Ev.shift ?_
   simp only [impl_expCount.j3, if_true]
   exact no e
  refine Ev.shift ?_
  simp only [impl_expCount.j2, if_true]
  by_cases ht : x.f1.toList = ([] : List UInt8)
  ·rw [decide_eq_true ht, Bool.true_and] at hk
   simp only [if_pos ht]
   by_cases hf : x.f3 = 0
   ·rw [decide_eq_true hf, Bool.true_and] at hk
    simp only [if_pos hf]
    by_cases hs : (x.f2.length : Int) > 0
    ·simp only [decide_eq_true hs]
     exact bad3 (by rw [hk, decide_eq_false (show ¬ ((x.f2.length : Int) = 0) by omega)]; rfl)
    rw [decide_eq_true (show (x.f2.length : Int) = 0 by omega), Bool.true_and] at hk
    simp only [decide_eq_false hs]
    have loop : (x.f0 = 3 ∨ lastOk x.f4 = true) → Ev (fun k => impl_expCount.j4 k deep 1 x.f0 x.f1 x.f2 x.f3 x.f4) (val x deep) := by
     intro hl
     have hk2 : okf x deep = okfs x.f4 (deep + 1) := by
      rw [hk]
      rcases hl with h3 | hl
      ·rw [if_pos h3, Bool.and_true]
      ·by_cases h3 : x.f0 = 3
       ·rw [if_pos h3, Bool.and_true]
       ·rw [if_neg h3, hl, Bool.and_true]
     refine Ev.shift ?_
     simp only [impl_expCount.j4]
     have h := count_loop deep hd0 (by omega) x.f4 ih [] 1 (by omega) (fun y hy => by have := wids_mem hy; omega) (by simp; omega)
     unfold val
     rw [hk2, hcnt]
     exact h
    refine Ev.shift ?_
    simp only [impl_expCount.j3, Bool.false_eq_true, if_false]
    by_cases h4 : x.f0 = 4
    ·have h3 : ¬ x.f0 = 3 := by omega
     rw [if_neg h3] at hk
     have hw : wrap64 ((x.f4.length : Int) - 1) = (x.f4.length : Int) - 1 := wrap64_eq (by omega) (by omega)
     simp only [if_pos h4]
     by_cases h2' : (x.f4.length : Int) < 2
     ·simp only [if_pos h2']
      exact no (by rw [hk]; unfold lastOk; rw [decide_eq_false (show ¬ ((x.f4.length : Int) > 1) by omega), Bool.false_and, Bool.and_false])
     ·simp only [if_neg h2', hw, if_pos (show 0 ≤ (x.f4.length : Int) - 1 by omega), if_pos (show (x.f4.length : Int) - 1 < (x.f4.length : Int) by omega)]
      by_cases hl1 : (rd_T35 x.f4 ((x.f4.length : Int) - 1)).f0 = 1
      ·simp only [if_pos hl1]
       exact loop (.inr (by unfold lastOk; rw [decide_eq_true (show (x.f4.length : Int) > 1 by omega), decide_eq_true hl1]; rfl))
      by_cases hl2 : (rd_T35 x.f4 ((x.f4.length : Int) - 1)).f0 = 2
      ·simp only [if_neg hl1, if_pos hl2]
       exact loop (.inr (by unfold lastOk; rw [decide_eq_true (show (x.f4.length : Int) > 1 by omega), decide_eq_true hl2, Bool.or_true]; rfl))
      ·simp only [if_neg hl1, if_neg hl2]
       exact no (by rw [hk]; unfold lastOk; rw [decide_eq_false hl1, decide_eq_false hl2, Bool.or_self, Bool.and_false, Bool.and_false])
    ·simp only [if_neg h4]
     exact loop (.inl (by omega))
   ·simp only [if_neg hf]
    exact bad3 (by rw [hk, decide_eq_false hf]; rfl)
  ·simp only [if_neg ht]
   exact bad3 (by rw [hk, decide_eq_false ht]; rfl)
 by_cases h3 : x.f0 = 3
 ·simp only [if_pos h3, show (x.f0 == 3) = true from by simpa using h3]
  exact body (.inl h3)
 by_cases h4 : x.f0 = 4
 ·simp only [if_neg h3, show (x.f0 == 4) = true from by simpa using h4]
  exact body (.inr h4)
 ·rw [if_neg (show ¬ (x.f0 = 3 ∨ x.f0 = 4) by omega)] at hk
  simp only [if_neg h3, show (x.f0 == 4) = false from by simpa using h4]
  refine Ev.shift ?_
  simp only [impl_expCount.j2, Bool.false_eq_true, if_false]
  exact no hk
def okb (y : S35) : Bool := okf y 0 && decide (cnt y ≤ 1500)
theorem spec_form_ok (y : S35) (hw : wid y ≤ 1048576) : Ev (fun k => spec_ExpFormOk.f k y.f0 y.f1 y.f2 y.f3 y.f4) (okb y) := by
 have hs := spec_ok y hw 0 (by omega) (by omega)
 have hz := size_ok y hw
 simp only [spec_ExpFormOk.f]
 refine Ev.bind hs ?_
 unfold okb
 cases okf y 0 with
 | true =>
  simp only [if_true, Bool.true_and]
  refine Ev.bind hz ?_
  rw [show decide ((cnt y : Int) ≤ 1500) = decide (cnt y ≤ 1500) from by rw [Bool.eq_iff_iff]; simp only [decide_eq_true_eq]; omega]
  exact Ev.now _
 | false =>
  simp only [Bool.false_eq_true, if_false, Bool.false_and]
  exact Ev.now _
theorem impl_form_ok (y : S35) (hw : wid y ≤ 1048576) : Ev (fun k => impl_ExpFormOk.f k y.f0 y.f1 y.f2 y.f3 y.f4) (okb y) := by
 have hi := impl_ok y hw 0 (by omega) (by omega)
 have hcp := cnt_pos y
 simp only [impl_ExpFormOk.f]
 refine Ev.bind hi ?_
 have e : decide (val y 0 > 0) = okb y := by
  unfold val
  have hd : okb y = (okf y 0 && decide (cnt y ≤ 1500)) := rfl
  rw [← hd]
  by_cases ho : okb y = true
  ·rw [if_pos ho, ho]
   exact decide_eq_true (by omega)
  ·rw [if_neg ho, Bool.not_eq_true _ |>.mp ho]
   rfl
 rw [← e]
 exact Ev.now _
end Go.Proofs.YtmdhanegafclmaaDoor.Pure
