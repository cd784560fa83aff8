/- PureFnExpFind of the seat's texts, cut down by prune.py to what the theorem comes to. -/
import Derived.Test.YtmdhanegafclmaaZfPureDraw
namespace Go.Proofs.Ytmdhanegafclmaa.Pure
open Go.RowKit Go.Proofs.Ytmdhanegafclmaa.PFnExpFind Go.Proofs.YtmdhanegafclmaaW.PrintWords Go.Proofs.YtmdhanegafclmaaW.PrintLast Go.Proofs.YtmdhanegafclmaaW.Pk
set_option linter.unusedVariables false
set_option linter.unusedSimpArgs false
def within (a b : List Int) : Bool := a.all fun x => b.contains x
theorem has_impl (n : Int) (suf : List Int) : ∀ pre : List Int, (pre ++ suf).length ≤ 1048576 → Ev (fun k => impl_expHas.l0 k n (pre ++ suf) ((pre ++ suf).length : Int) (pre.length : Int)) (suf.contains n) := by
 induction suf with
 | nil =>
  intro pre _
  refine Ev.shift ?_
  simp only [impl_expHas.l0, if_neg (mid_not_lt pre)]
  exact Ev.now _
 | cons s suf ih =>
  intro pre hn
  refine Ev.shift ?_
  simp only [impl_expHas.l0, if_pos (mid_lt pre suf s), if_pos (Int.natCast_nonneg pre.length), rd_mid, next_i pre suf s (by omega)]
  by_cases h : s = n
  ·subst h
   simp only [if_true, List.contains_cons, beq_self_eq_true, Bool.true_or]
   exact Ev.now _
  ·have h' : (n == s) = false := by simpa using fun e => h e.symm
   simp only [if_neg h, List.contains_cons, h', Bool.false_or]
   rw [mid_assoc pre suf s]
   exact ih (pre ++ [s]) (by simpa using hn)
theorem within_impl (b : List Int) (hb : b.length ≤ 1048576) (suf : List Int) : ∀ pre : List Int, (pre ++ suf).length ≤ 1048576 → Ev (fun k => impl_expWithin.l0 k b (pre ++ suf) ((pre ++ suf).length : Int) (pre.length : Int)) (within suf b) := by
 induction suf with
 | nil =>
  intro pre _
  refine Ev.shift ?_
  simp only [impl_expWithin.l0, if_neg (mid_not_lt pre)]
  exact Ev.now _
 | cons s suf ih =>
  intro pre hn
  refine Ev.shift ?_
  simp only [impl_expWithin.l0, if_pos (mid_lt pre suf s), if_pos (Int.natCast_nonneg pre.length), rd_mid, next_i pre suf s (by omega)]
  refine Ev.bind (a := b.contains s) (has_impl s b [] (by simpa using hb)) ?_
  cases h : b.contains s with
  | false =>
   simp only [Bool.false_eq_true, if_false, within, List.all_cons, h, Bool.false_and]
   exact Ev.now _
  | true =>
   simp only [if_true, within, List.all_cons, h, Bool.true_and]
   rw [mid_assoc pre suf s]
   exact ih (pre ++ [s]) (by simpa using hn)
theorem impl_within (a b : List Int) (ha : a.length ≤ 1048576) (hb : b.length ≤ 1048576) : Ev (fun k => impl_expWithin.f k a b) (within a b) := within_impl b hb a [] (by simpa using ha)
theorem has_spec (n : Int) (suf : List Int) : ∀ pre : List Int, (pre ++ suf).length ≤ 1048576 → Ev (fun k => spec_l2Has.l0 k (pre ++ suf) n (pre.length : Int)) (suf.contains n) := by
 induction suf with
 | nil =>
  intro pre _
  refine Ev.shift ?_
  simp only [spec_l2Has.l0, if_neg (mid_not_lt pre)]
  exact Ev.now _
 | cons s suf ih =>
  intro pre hn
  refine Ev.shift ?_
  simp only [spec_l2Has.l0, if_pos (mid_lt pre suf s), if_pos (Int.natCast_nonneg pre.length), rd_mid, next_i pre suf s (by omega)]
  by_cases h : s = n
  ·subst h
   simp only [if_true, List.contains_cons, beq_self_eq_true, Bool.true_or]
   exact Ev.now _
  ·have h' : (n == s) = false := by simpa using fun e => h e.symm
   simp only [if_neg h, List.contains_cons, h', Bool.false_or]
   rw [mid_assoc pre suf s]
   exact ih (pre ++ [s]) (by simpa using hn)
theorem within_spec (b : List Int) (hb : b.length ≤ 1048576) (suf : List Int) : ∀ pre : List Int, (pre ++ suf).length ≤ 1048576 → Ev (fun k => spec_l2Within.l0 k (pre ++ suf) b (pre.length : Int)) (within suf b) := by
 induction suf with
 | nil =>
  intro pre _
  refine Ev.shift ?_
  simp only [spec_l2Within.l0, if_neg (mid_not_lt pre)]
  exact Ev.now _
 | cons s suf ih =>
  intro pre hn
  refine Ev.shift ?_
  simp only [spec_l2Within.l0, if_pos (mid_lt pre suf s), if_pos (Int.natCast_nonneg pre.length), rd_mid, next_i pre suf s (by omega)]
  refine Ev.bind (a := b.contains s) (has_spec s b [] (by simpa using hb)) ?_
  cases h : b.contains s with
  | false =>
   simp only [Bool.false_eq_true, if_false, within, List.all_cons, h, Bool.false_and]
   exact Ev.now _
  | true =>
   simp only [if_true, within, List.all_cons, h, Bool.true_and]
   rw [mid_assoc pre suf s]
   exact ih (pre ++ [s]) (by simpa using hn)
theorem spec_within (a b : List Int) (ha : a.length ≤ 1048576) (hb : b.length ≤ 1048576) : Ev (fun k => spec_l2Within.f k a b) (within a b) := within_spec b hb a [] (by simpa using ha)
theorem wx_has (a b : List Int) (i : Nat) (x : Int) (hi : rd a (i : Int) = x) (hlt : (i : Int) < (a.length : Int)) (R : Bool) (suf : List Int) : ∀ (pre : List Int) (acc : Bool), (pre ++ suf).length ≤ 1048576 →
  (Ev (fun k => if (acc || suf.contains x) = true then laws_wxWithin.l0 k a (pre ++ suf) (wrap64 ((i : Int) + 1)) else some false) R) →
  Ev (fun k => laws_wxWithin.l1 k a (pre ++ suf) (i : Int) acc (pre.length : Int)) R := by
 induction suf with
 | nil =>
  intro pre acc _ h
  refine Ev.shift ?_
  simp only [laws_wxWithin.l1, if_neg (mid_not_lt pre)]
  simpa using h
 | cons s suf ih =>
  intro pre acc hn h
  refine Ev.shift ?_
  cases acc with
  | true =>
   simp only [laws_wxWithin.l1, if_pos (mid_lt pre suf s), if_true, next_i pre suf s (by omega)]
   rw [mid_assoc pre suf s]
   refine ih (pre ++ [s]) true (by simpa using hn) ?_
   simpa using h
  | false =>
   simp only [laws_wxWithin.l1, if_pos (mid_lt pre suf s), Bool.false_eq_true, if_false, if_pos (Int.natCast_nonneg i), if_pos hlt, if_pos (Int.natCast_nonneg pre.length), hi, rd_mid, next_i pre suf s (by omega)]
   rw [mid_assoc pre suf s]
   refine ih (pre ++ [s]) (x == s) (by simpa using hn) ?_
   simpa [List.contains_cons] using h
theorem wx_loop (b : List Int) (hb : b.length ≤ 1048576) (suf : List Int) : ∀ pre : List Int, (pre ++ suf).length ≤ 1048576 → Ev (fun k => laws_wxWithin.l0 k (pre ++ suf) b (pre.length : Int)) (within suf b) := by
 induction suf with
 | nil =>
  intro pre _
  refine Ev.shift ?_
  simp only [laws_wxWithin.l0, if_neg (mid_not_lt pre)]
  exact Ev.now _
 | cons s suf ih =>
  intro pre hn
  refine Ev.shift ?_
  simp only [laws_wxWithin.l0, if_pos (mid_lt pre suf s)]
  have h := wx_has (pre ++ s :: suf) b pre.length s (rd_mid pre suf s) (mid_lt pre suf s) (within (s :: suf) b) b [] false (by simpa using hb)
  refine h ?_
  cases hc : b.contains s with
  | false =>
   simp only [Bool.or_self, Bool.false_eq_true, if_false, within, List.all_cons, hc, Bool.false_and]
   exact Ev.now _
  | true =>
   simp only [Bool.or_true, if_true, within, List.all_cons, hc, Bool.true_and, next_i pre suf s (by omega), List.nil_append]
   rw [mid_assoc pre suf s]
   exact ih (pre ++ [s]) (by simpa using hn)
theorem law_within (a b : List Int) (ha : a.length ≤ 1048576) (hb : b.length ≤ 1048576) : Ev (fun k => laws_wxWithin.f k a b) (within a b) := wx_loop b hb a [] (by simpa using ha)
def fits (t : ByteArray) (s : List Int) (b : S42) : Bool := b.f0.toList == t.toList && within b.f1 s
theorem fits_if (t : ByteArray) (s : List Int) (b : S42) : fits t s b = if b.f0.toList = t.toList then within b.f1 s else false := by
 unfold fits
 by_cases h : b.f0.toList = t.toList <;> simp [h]
theorem rd42 (pre suf : List S42) (x : S42) : rd_T42 (pre ++ x :: suf) (pre.length : Int) = x := by
 unfold rd_T42; rw [Int.toNat_natCast]; exact getD_mid _ _ _ _
def Bok (b : S42) : Prop := b.f1.length ≤ 1000 ∧ b.f2.toList ≠ []
theorem spec_fits (b : S42) (a : Int) (t : ByteArray) (s : List Int) (c : Int) (ks : List S35) (hb : Bok b) (hs : s.length ≤ 1048576) : Ev (fun k => spec_l2Fits.f k b.f0 b.f1 b.f2 a t s c ks) (fits t s b) := by
 rw [fits_if]
 by_cases h : b.f0.toList = t.toList
 ·simp only [spec_l2Fits.f, if_pos h]
  exact Ev.bind (spec_within b.f1 s (by have := hb.1; omega) hs) (Ev.now _)
 ·simp only [spec_l2Fits.f, if_neg h]
  exact Ev.now _
theorem law_fits (b : S42) (a : Int) (t : ByteArray) (s : List Int) (c : Int) (ks : List S35) (hb : Bok b) (hs : s.length ≤ 1048576) : Ev (fun k => laws_wxFits.f k b.f0 b.f1 b.f2 a t s c ks) (fits t s b) := by
 rw [fits_if]
 by_cases h : b.f0.toList = t.toList
 ·simp only [laws_wxFits.f, if_pos h]
  exact Ev.bind (law_within b.f1 s (by have := hb.1; omega) hs) (Ev.now _)
 ·simp only [laws_wxFits.f, if_neg h]
  exact Ev.now _
def over (F : List S42) (s : List Int) : Bool := F.all fun c => within c.f1 s
def said (F : List S42) : ByteArray × Int := match F.reverse.find? (fun b => over F b.f1) with
 | some b => (b.f2, 1)
 | none => (⟨#[]⟩, if F = [] then 0 else 2)
theorem mk42 (x : S42) : (⟨x.f0, x.f1, x.f2⟩ : S42) = x := by cases x; rfl
theorem impl_inner (F : List S42) (hF : ∀ b ∈ F, Bok b) (i : Nat) (hi : (i : Int) < (F.length : Int)) (x : S42) (hx : rd_T42 F (i : Int) = x) (hxo : Bok x) (R : ByteArray × Int) (suf : List S42) : ∀ (pre : List S42) (acc : Bool), pre ++ suf = F → F.length ≤ 1048576 →
  Ev (fun k => if (acc && over suf x.f1) = true then some (x.f2, 1) else impl_ExpFind.l1 k F (wrap64 ((i : Int) - 1))) R →
  Ev (fun k => impl_ExpFind.l2 k F (i : Int) acc F (F.length : Int) (pre.length : Int)) R := by
 induction suf with
 | nil =>
  intro pre acc he hn h
  have he : pre = F := by simpa using he
  subst he
  refine Ev.shift ?_
  simp only [impl_ExpFind.l2, if_neg (show ¬ ((pre.length : Int) < (pre.length : Int)) by omega)]
  cases acc with
  | true =>
   simp only [if_true, if_pos (Int.natCast_nonneg i), if_pos hi, hx]
   simpa [over] using h
  | false =>
   simp only [Bool.false_eq_true, if_false]
   simpa using h
 | cons s suf ih =>
  intro pre acc he hn h
  have hlt : (pre.length : Int) < (F.length : Int) := by rw [← he]; exact mid_lt pre suf s
  have hrd : rd_T42 F (pre.length : Int) = s := by rw [← he]; exact rd42 pre suf s
  have hnx : wrap64 ((pre.length : Int) + 1) = (((pre ++ [s]).length : Nat) : Int) := next_i pre suf s (by rw [he]; omega)
  have hs : Bok s := hF s (by rw [← he]; simp)
  refine Ev.shift ?_
  simp only [impl_ExpFind.l2, if_pos hlt, if_pos (Int.natCast_nonneg pre.length)]
  cases acc with
  | true =>
   simp only [if_true, if_pos (Int.natCast_nonneg i), if_pos hi, hx, hrd, hnx]
   refine Ev.bind (impl_within s.f1 x.f1 (by have := hs.1; omega) (by have := hxo.1; omega)) ?_
   refine ih (pre ++ [s]) (within s.f1 x.f1) (by simpa using he) hn ?_
   simpa [over, Bool.and_assoc] using h
  | false =>
   simp only [Bool.false_eq_true, if_false, hnx]
   refine ih (pre ++ [s]) false (by simpa using he) hn ?_
   simpa using h
theorem impl_outer (F : List S42) (hF : ∀ b ∈ F, Bok b) (hn : F.length ≤ 1048576) : ∀ (rp suf : List S42), rp.reverse ++ suf = F →
  Ev (fun k => impl_ExpFind.l1 k F ((rp.length : Int) - 1)) (match rp.find? (fun b => over F b.f1) with | some b => (b.f2, 1) | none => (⟨#[]⟩, 2)) := by
 intro rp
 induction rp with
 | nil =>
  intro suf _
  refine Ev.shift ?_
  simp only [impl_ExpFind.l1, List.length_nil, show ¬ (((0 : Nat) : Int) - 1 ≥ 0) from by decide, if_false, List.find?_nil]
  exact Ev.now _
 | cons x rp ih =>
  intro suf he
  have he' : rp.reverse ++ x :: suf = F := by simpa using he
  have hlen : ((x :: rp).length : Int) - 1 = (rp.reverse.length : Int) := by simp
  have hlt : (rp.reverse.length : Int) < (F.length : Int) := by rw [← he']; exact mid_lt _ _ _
  have hrd : rd_T42 F (rp.reverse.length : Int) = x := by rw [← he']; exact rd42 _ _ _
  have hx : Bok x := hF x (by rw [← he']; simp)
  rw [hlen]
  refine Ev.shift ?_
  simp only [impl_ExpFind.l1, if_pos (show (rp.reverse.length : Int) ≥ 0 from Int.natCast_nonneg _)]
  refine impl_inner F hF rp.reverse.length hlt x hrd hx _ F [] true rfl hn ?_
  have hw : wrap64 ((rp.reverse.length : Int) - 1) = (rp.length : Int) - 1 := by
   rw [List.length_reverse] at hlt ⊢
   exact wrap64_eq (by omega) (by omega)
  cases ho : over F x.f1 with
  | true =>
   simp only [Bool.and_self, if_true, List.find?_cons, ho]
   exact Ev.now _
  | false =>
   simp only [Bool.and_false, Bool.false_eq_true, if_false, List.find?_cons, ho, hw]
   exact ih (x :: suf) he'
theorem impl_find (a : Int) (t : ByteArray) (s : List Int) (c : Int) (ks : List S35) (hs : s.length ≤ 1048576) (suf : List S42) : ∀ (pre F : List S42), (∀ b ∈ pre ++ suf, Bok b) → (pre ++ suf).length ≤ 1048576 → F = pre.filter (fits t s) →
  Ev (fun k => impl_ExpFind.l0 k F (pre ++ suf) ((pre ++ suf).length : Int) (pre.length : Int) a t s c ks) (said ((pre ++ suf).filter (fits t s))) := by
 induction suf with
 | nil =>
  intro pre F hB hn hF
  have hFl : F.length ≤ 1048576 := by rw [hF]; exact Nat.le_trans (List.length_filter_le _ _) (by simpa using hn)
  have hFb : ∀ b ∈ F, Bok b := fun b hb => by rw [hF] at hb; exact hB b (by simp [(List.mem_filter.1 hb).1])
  refine Ev.shift ?_
  rw [List.append_nil, ← hF]
  simp only [impl_ExpFind.l0, if_neg (show ¬ ((pre.length : Int) < (pre.length : Int)) by omega)]
  by_cases h0 : (F.length : Int) = 0
  ·have : F = [] := List.eq_nil_of_length_eq_zero (by omega)
   subst this
   simp only [h0, if_true]
   exact Ev.now _
  ·have hne : ¬ F = [] := fun e => h0 (by rw [e]; rfl)
   have h := impl_outer F hFb hFl F.reverse [] (by simp)
   have hw : wrap64 ((F.length : Int) - 1) = ((F.reverse.length : Nat) : Int) - 1 := by rw [wrap64_eq (by omega) (by omega)]; simp
   simp only [if_neg h0, hw]
   unfold said
   simp only [if_neg hne]
   exact h
 | cons x suf ih =>
  intro pre F hB hn hF
  have hx := hB x (by simp)
  have hFl : F.length ≤ 1048576 := by rw [hF]; exact Nat.le_trans (List.length_filter_le _ _) (by simp at hn; omega)
  refine Ev.shift ?_
  simp only [impl_ExpFind.l0, if_pos (mid_lt pre suf x), if_pos (Int.natCast_nonneg pre.length), rd42, next_i pre suf x (by omega), mk42]
  by_cases h : x.f0.toList = t.toList
  ·simp only [if_pos h]
   refine Ev.bind (impl_within x.f1 s (by have := hx.1; omega) hs) ?_
   have hf := fits_if t s x
   rw [if_pos h] at hf
   rw [← hf]
   cases hfx : fits t s x with
   | true =>
    simp only [if_true, if_pos (show F.length < 2513169434916 by omega)]
    rw [mid_assoc pre suf x]
    exact ih (pre ++ [x]) (F ++ [x]) (by simpa using hB) (by simpa using hn) (by simp [List.filter_append, hfx, hF])
   | false =>
    simp only [Bool.false_eq_true, if_false]
    rw [mid_assoc pre suf x]
    exact ih (pre ++ [x]) F (by simpa using hB) (by simpa using hn) (by simp [List.filter_append, hfx, hF])
  ·simp only [if_neg h]
   have hfx : fits t s x = false := by rw [fits_if, if_neg h]
   rw [mid_assoc pre suf x]
   exact ih (pre ++ [x]) F (by simpa using hB) (by simpa using hn) (by simp [List.filter_append, hfx, hF])
def told (B : List S42) (x : S35) : ByteArray × Int := if x.f0 = 1 then said (B.filter (fits x.f1 x.f2)) else (⟨#[]⟩, 0)
theorem impl_ok (B : List S42) (x : S35) (hB : ∀ b ∈ B, Bok b) (hn : B.length ≤ 1048576) (hs : x.f2.length ≤ 1048576) : Ev (fun k => impl_ExpFind.f k B x.f0 x.f1 x.f2 x.f3 x.f4) (told B x) := by
 unfold told
 by_cases h : x.f0 = 1
 ·simp only [impl_ExpFind.f, if_pos h]
  exact impl_find x.f0 x.f1 x.f2 x.f3 x.f4 hs B [] [] (by simpa using hB) (by simpa using hn) rfl
 ·simp only [impl_ExpFind.f, if_neg h]
  exact Ev.now _
theorem all_loop (a : Int) (t : ByteArray) (s : List Int) (c : Int) (ks : List S35) (hs : s.length ≤ 1048576) (sc : List Int) (hsc : sc.length ≤ 1048576) (suf : List S42) : ∀ (pre : List S42), (∀ b ∈ pre ++ suf, Bok b) → (pre ++ suf).length ≤ 1048576 →
  Ev (fun k => spec_l2All.l0 k (pre ++ suf) sc (pre.length : Int) a t s c ks) (over (suf.filter (fits t s)) sc) := by
 induction suf with
 | nil =>
  intro pre hB hn
  refine Ev.shift ?_
  simp only [spec_l2All.l0, if_neg (mid_not_lt pre)]
  exact Ev.now _
 | cons x suf ih =>
  intro pre hB hn
  have hx := hB x (by simp)
  refine Ev.shift ?_
  simp only [spec_l2All.l0, if_pos (mid_lt pre suf x), if_pos (Int.natCast_nonneg pre.length), rd42, next_i pre suf x (by omega)]
  refine Ev.bind (spec_fits x a t s c ks hx hs) ?_
  have hi := ih (pre ++ [x]) (by simpa using hB) (by simpa using hn)
  cases hfx : fits t s x with
  | true =>
   simp only [if_true]
   refine Ev.bind (spec_within x.f1 sc (by have := hx.1; omega) hsc) ?_
   rw [List.filter_cons_of_pos hfx]
   cases hw : within x.f1 sc with
   | true =>
    simp only [if_true, over, List.all_cons, hw, Bool.true_and]
    rw [mid_assoc pre suf x]
    exact hi
   | false =>
    simp only [Bool.false_eq_true, if_false, over, List.all_cons, hw, Bool.false_and]
    exact Ev.now _
  | false =>
   rw [List.filter_cons_of_neg (by simp [hfx])]
   simp only [Bool.false_eq_true, if_false]
   rw [mid_assoc pre suf x]
   exact hi
theorem spec_loop (a : Int) (t : ByteArray) (s : List Int) (c : Int) (ks : List S35) (hs : s.length ≤ 1048576) (B : List S42) (hB : ∀ b ∈ B, Bok b) (hn : B.length ≤ 1048576) : ∀ (rp suf : List S42) (some_ : Int), rp.reverse ++ suf = B →
  Ev (fun k => spec_ExpFind.l0 k B some_ ((rp.length : Int) - 1) a t s c ks) (match (rp.filter (fits t s)).find? (fun b => over (B.filter (fits t s)) b.f1) with | some b => (b.f2, 1) | none => (⟨#[]⟩, if rp.filter (fits t s) = [] then some_ else 2)) := by
 intro rp
 induction rp with
 | nil =>
  intro suf some_ _
  refine Ev.shift ?_
  simp only [spec_ExpFind.l0, List.length_nil, show ¬ (((0 : Nat) : Int) - 1 ≥ 0) from by decide, if_false, List.filter_nil, List.find?_nil, if_true]
  exact Ev.now _
 | cons x rp ih =>
  intro suf some_ he
  have he' : rp.reverse ++ x :: suf = B := by simpa using he
  have hlen : ((x :: rp).length : Int) - 1 = (rp.reverse.length : Int) := by simp
  have hlt : (rp.reverse.length : Int) < (B.length : Int) := by rw [← he']; exact mid_lt _ _ _
  have hrd : rd_T42 B (rp.reverse.length : Int) = x := by rw [← he']; exact rd42 _ _ _
  have hx : Bok x := hB x (by rw [← he']; simp)
  have hw : wrap64 ((rp.reverse.length : Int) - 1) = (rp.length : Int) - 1 := by
   rw [List.length_reverse] at hlt ⊢
   exact wrap64_eq (by omega) (by omega)
  rw [hlen]
  refine Ev.shift ?_
  simp only [spec_ExpFind.l0, if_pos (show (rp.reverse.length : Int) ≥ 0 from Int.natCast_nonneg _), if_pos (Int.natCast_nonneg rp.reverse.length), if_pos hlt, hrd, hw]
  refine Ev.bind (spec_fits x a t s c ks hx hs) ?_
  cases hfx : fits t s x with
  | true =>
   rw [List.filter_cons_of_pos hfx]
   simp only [if_true]
   refine Ev.bind (a := over (B.filter (fits t s)) x.f1) (all_loop a t s c ks hs x.f1 (by have := hx.1; omega) B [] (by simpa using hB) (by simpa using hn)) ?_
   cases ho : over (B.filter (fits t s)) x.f1 with
   | true =>
    simp only [if_true, List.find?_cons, ho]
    exact Ev.now _
   | false =>
    simp only [Bool.false_eq_true, if_false, List.find?_cons, ho]
    have h := ih (x :: suf) 2 he'
    simpa using h
  | false =>
   rw [List.filter_cons_of_neg (by simp [hfx])]
   simp only [Bool.false_eq_true, if_false]
   exact ih (x :: suf) some_ he'
theorem spec_ok (B : List S42) (x : S35) (hB : ∀ b ∈ B, Bok b) (hn : B.length ≤ 1048576) (hs : x.f2.length ≤ 1048576) : Ev (fun k => spec_ExpFind.f k B x.f0 x.f1 x.f2 x.f3 x.f4) (told B x) := by
 unfold told
 by_cases h : x.f0 = 1
 ·have h1 := spec_loop x.f0 x.f1 x.f2 x.f3 x.f4 hs B hB hn B.reverse [] 0 (by simp)
  have hw : wrap64 ((B.length : Int) - 1) = ((B.reverse.length : Nat) : Int) - 1 := by rw [wrap64_eq (by omega) (by omega)]; simp
  simp only [spec_ExpFind.f, if_pos h, hw]
  unfold said
  rw [List.filter_reverse] at h1
  simpa using h1
 ·simp only [spec_ExpFind.f, if_neg h]
  exact Ev.now _
def name (o : Option S42) : ByteArray := match o with | some b => b.f2 | none => ⟨#[]⟩
theorem law_inner (B : List S42) (nm : ByteArray) (c6 cnt : Int) (a : Int) (t : ByteArray) (s : List Int) (c : Int) (ks : List S35) (hs : s.length ≤ 1048576) (hB : ∀ b ∈ B, Bok b) (hn : B.length ≤ 1048576)
  (i : Nat) (hi : (i : Int) < (B.length : Int)) (x : S42) (hx : rd_T42 B (i : Int) = x) (hxo : Bok x) (best : ByteArray) (R : Bool) (suf : List S42) : ∀ (pre : List S42) (acc : Bool), pre ++ suf = B →
  Ev (fun k => laws_FnExpFind.l0 k B nm c6 cnt (if (acc && over (suf.filter (fits t s)) x.f1) = true then x.f2 else best) (wrap64 ((i : Int) + 1)) a t s c ks) R →
  Ev (fun k => laws_FnExpFind.l1 k B nm c6 cnt best (i : Int) acc (pre.length : Int) a t s c ks) R := by
 induction suf with
 | nil =>
  intro pre acc he h
  have he : pre = B := by simpa using he
  subst he
  refine Ev.shift ?_
  simp only [laws_FnExpFind.l1, if_neg (show ¬ ((pre.length : Int) < (pre.length : Int)) by omega)]
  cases acc with
  | true =>
   simp only [if_true, if_pos (Int.natCast_nonneg i), if_pos hi, hx]
   simpa [over] using h
  | false =>
   simp only [Bool.false_eq_true, if_false]
   simpa using h
 | cons y suf ih =>
  intro pre acc he h
  have hlt : (pre.length : Int) < (B.length : Int) := by rw [← he]; exact mid_lt pre suf y
  have hrd : rd_T42 B (pre.length : Int) = y := by rw [← he]; exact rd42 pre suf y
  have hnx : wrap64 ((pre.length : Int) + 1) = (((pre ++ [y]).length : Nat) : Int) := next_i pre suf y (by rw [he]; omega)
  have hy : Bok y := hB y (by rw [← he]; simp)
  refine Ev.shift ?_
  simp only [laws_FnExpFind.l1, if_pos hlt]
  cases acc with
  | true =>
   simp only [if_true, if_pos (Int.natCast_nonneg pre.length), hrd, hnx]
   refine Ev.bind (law_fits y a t s c ks hy hs) ?_
   cases hfy : fits t s y with
   | true =>
    simp only [if_true, if_pos (Int.natCast_nonneg i), if_pos hi, hx]
    refine Ev.bind (law_within y.f1 x.f1 (by have := hy.1; omega) (by have := hxo.1; omega)) ?_
    refine ih (pre ++ [y]) (within y.f1 x.f1) (by simpa using he) ?_
    rw [List.filter_cons_of_pos hfy] at h
    simpa [over] using h
   | false =>
    simp only [Bool.false_eq_true, if_false]
    refine ih (pre ++ [y]) true (by simpa using he) ?_
    rw [List.filter_cons_of_neg (by simp [hfy])] at h
    exact h
  | false =>
   simp only [Bool.false_eq_true, if_false, hnx]
   refine ih (pre ++ [y]) false (by simpa using he) ?_
   simpa using h
theorem law_outer (B : List S42) (nm : ByteArray) (c6 : Int) (a : Int) (t : ByteArray) (s : List Int) (c : Int) (ks : List S35) (hs : s.length ≤ 1048576) (hB : ∀ b ∈ B, Bok b) (hn : B.length ≤ 1048576)
  (hend : Ev (fun k => laws_FnExpFind.l0 k B nm c6 ((B.filter (fits t s)).length : Int) (name ((B.filter (fits t s)).reverse.find? (fun b => over (B.filter (fits t s)) b.f1))) (B.length : Int) a t s c ks) true) (suf : List S42) : ∀ (pre : List S42), pre ++ suf = B →
  Ev (fun k => laws_FnExpFind.l0 k B nm c6 ((pre.filter (fits t s)).length : Int) (name ((pre.filter (fits t s)).reverse.find? (fun b => over (B.filter (fits t s)) b.f1))) (pre.length : Int) a t s c ks) true := by
 induction suf with
 | nil =>
  intro pre he
  have he : pre = B := by simpa using he
  subst he
  exact hend
 | cons x suf ih =>
  intro pre he
  have hlt : (pre.length : Int) < (B.length : Int) := by rw [← he]; exact mid_lt pre suf x
  have hrd : rd_T42 B (pre.length : Int) = x := by rw [← he]; exact rd42 pre suf x
  have hnx : wrap64 ((pre.length : Int) + 1) = (((pre ++ [x]).length : Nat) : Int) := next_i pre suf x (by rw [he]; omega)
  have hx : Bok x := hB x (by rw [← he]; simp)
  have hi := ih (pre ++ [x]) (by simpa using he)
  have hpl : pre.length ≤ 1048576 := by
   have h9 : (pre ++ x :: suf).length ≤ 1048576 := by rw [he]; exact hn
   simp at h9
   omega
  have hle : (pre.filter (fits t s)).length ≤ 1048576 := Nat.le_trans (List.length_filter_le _ _) hpl
  refine Ev.shift ?_
  simp only [laws_FnExpFind.l0, if_pos hlt, if_pos (Int.natCast_nonneg pre.length), hrd, hnx]
  refine Ev.bind (law_fits x a t s c ks hx hs) ?_
  cases hfx : fits t s x with
  | true =>
   have hw : wrap64 (((pre.filter (fits t s)).length : Int) + 1) = (((pre ++ [x]).filter (fits t s)).length : Int) := by
    rw [wrap64_eq (by omega) (by omega)]
    simp [List.filter_append, hfx]
   simp only [if_true, hw]
   refine law_inner B nm c6 _ a t s c ks hs hB hn pre.length hlt x hrd hx _ true B [] true rfl ?_
   rw [hnx]
   have hr : ((pre ++ [x]).filter (fits t s)).reverse = x :: (pre.filter (fits t s)).reverse := by simp [List.filter_append, hfx]
   rw [hr] at hi
   cases ho : over (B.filter (fits t s)) x.f1 with
   | true =>
    simp only [List.find?_cons, ho] at hi
    simp only [Bool.and_self, if_true]
    exact hi
   | false =>
    simp only [List.find?_cons, ho] at hi
    simp only [Bool.and_false, Bool.false_eq_true, if_false]
    exact hi
  | false =>
   simp only [Bool.false_eq_true, if_false]
   have hr : (pre ++ [x]).filter (fits t s) = pre.filter (fits t s) := by simp [List.filter_append, hfx]
   rw [hr] at hi
   exact hi
theorem nil_toList : (⟨#[]⟩ : ByteArray).toList = ([] : List UInt8) := by
 rw [ByteArray.toList, ByteArray.toList.loop, if_neg (by decide)]
 rfl
theorem toList_ne {b : ByteArray} (h : 0 < b.size) : b.toList ≠ [] := by
 intro e
 have := toList_inj (a := b) (b := ⟨#[]⟩) (e.trans nil_toList.symm)
 rw [this] at h
 exact absurd h (by decide)
theorem binds_loop {b : List Int} (hb : Rdr b) : ∀ (m : Nat) (p : Int) (B : List S42), m ≤ 5 → 0 ≤ p → p + 5 * m ≤ 1099511627776 → (∀ y ∈ B, Bok y) → B.length + m ≤ 5 →
  ∃ (B' : List S42), Ev (fun k => spec_l8Binds.l0 k B (m : Int) b p) (B', p + 5 * m) ∧ (∀ y ∈ B', Bok y) ∧ B'.length ≤ 5 := by
 intro m
 induction m with
 | zero =>
  intro p B _ h0 hp hB hl
  refine ⟨B, Ev.shift ?_, hB, by omega⟩
  simp only [spec_l8Binds.l0, if_neg (show ¬ (((0 : Nat) : Int) > 0) by omega)]
  simpa using Ev.now _
 | succ m ih =>
  intro p B hm h0 hp hB hl
  obtain ⟨t, s, n, hi, hs⟩ := id_ok hb p h0 (by omega)
  have hd : Ev (fun k => spec_l6Dec.f k ((m + 1 : Nat) : Int)) (strOfNums [(wrap64 (48 + ((m + 1 : Nat) : Int))) % 256]) := by
   refine Ev.shift ?_
   simp only [spec_l6Dec.f, if_pos (show ((m + 1 : Nat) : Int) < 10 by omega)]
   exact Ev.now _
  generalize hgen : strOfNums [(wrap64 (48 + ((m + 1 : Nat) : Int))) % 256] = u at hd
  have hu : u.size ≤ 1 := by rw [← hgen]; simp [strOfNums, ByteArray.size]
  obtain ⟨B', h, h1, h2⟩ := ih (p + 5) (B ++ [⟨t, s, (⟨#[110]⟩ : ByteArray) ++ u⟩]) (by omega) (by omega) (by omega) (fun y hy => by
   rcases List.mem_append.1 hy with hy | hy
   ·exact hB y hy
   ·rw [List.mem_singleton.1 hy]
    exact ⟨by show s.length ≤ 1000; omega, toList_ne (by show 0 < ((⟨#[110]⟩ : ByteArray) ++ u).size; rw [ByteArray.size_append, show (⟨#[110]⟩ : ByteArray).size = 1 from rfl]; omega)⟩) (by simp; omega)
  refine ⟨B', Ev.shift ?_, h1, h2⟩
  have hw2 : wrap64 (((m + 1 : Nat) : Int) - 1) = m := by rw [wrap64_eq (by omega) (by omega)]; omega
  simp only [spec_l8Binds.l0, if_pos (show ((m + 1 : Nat) : Int) > 0 by omega)]
  refine Ev.bind hi ?_
  refine Ev.bind hd ?_
  simp only [if_pos (show 1 + u.size ≤ 9223372036854775807 by omega), if_pos (show B.length < 2513169434916 by omega), hw2]
  rw [show p + 5 * ((m + 1 : Nat) : Int) = p + 5 + 5 * (m : Int) by omega]
  exact h
theorem draw_ok (l : List Int) (hw : ∀ x ∈ l, (Lit.int .u8 x).wf = true) : ∃ (B : List S42) (x : S35), Ev (fun k => spec_DrawExpFind.f k l) (B, x.f0, x.f1, x.f2, x.f3, x.f4) ∧ (∀ b ∈ B, Bok b) ∧ B.length ≤ 5 ∧ x.f2.length ≤ 11 := by
 obtain ⟨b, ho, hb⟩ := open_ok l hw
 obtain ⟨r, hr, r0, r1, _⟩ := pick_ok hb 0 6 (by omega) (by omega)
 have r6 := r1 (by omega)
 obtain ⟨B, hB, hB1, hB2⟩ := binds_loop hb r.toNat (0 + 1) [] (by omega) (by omega) (by omega) (by simp) (by simp; omega)
 obtain ⟨t, s, n, hi, hs⟩ := id_ok hb (0 + 1 + 5 * (r.toNat : Int)) (by omega) (by omega)
 obtain ⟨q, hq, _, _, _⟩ := pick_ok hb (0 + 1 + 5 * (r.toNat : Int) + 5) 2 (by omega) (by omega)
 have hbinds : Ev (fun k => spec_l8Binds.f k b 0) (B, 0 + 1 + 5 * (r.toNat : Int)) := by
  simp only [spec_l8Binds.f]
  refine Ev.bind hr ?_
  rw [show r = ((r.toNat : Nat) : Int) by omega] at hB ⊢
  simpa using hB
 have rest : ∀ (sc : List Int) (hsc : sc.length ≤ 3), ∃ (x : S35), Ev (fun k => spec_DrawExpFind.j0 k B b (0 + 1 + 5 * (r.toNat : Int) + 5 + 1) 1 t sc n ([] : List S35)) (B, x.f0, x.f1, x.f2, x.f3, x.f4) ∧ x.f2.length ≤ 11 := by
  intro sc hsc
  obtain ⟨u, hu, _, _, _⟩ := pick_ok hb (0 + 1 + 5 * (r.toNat : Int) + 5 + 1) 20 (by omega) (by omega)
  by_cases hu0 : u = 0
  ·obtain ⟨x, p', hx, _, _, hsm⟩ := any_ok hb (0 + 1 + 5 * (r.toNat : Int) + 5 + 1 + 1) (by omega) (by omega)
   refine ⟨x, Ev.shift ?_, by cases hsm; assumption⟩
   simp only [spec_DrawExpFind.j0]
   refine Ev.bind hu ?_
   simp only [if_pos hu0]
   exact Ev.bind hx (Ev.now _)
  ·refine ⟨⟨1, t, sc, n, []⟩, Ev.shift ?_, by show sc.length ≤ 11; omega⟩
   simp only [spec_DrawExpFind.j0]
   refine Ev.bind hu ?_
   simp only [if_neg hu0]
   exact Ev.now _
 have start : ∀ (R : List S42 × Int × ByteArray × List Int × Int × List S35), Ev (fun k => if q = 0 then spec_DrawExpFind.j0 k B b (0 + 1 + 5 * (r.toNat : Int) + 5 + 1) 1 t [0, 1, 2] n ([] : List S35) else spec_DrawExpFind.j0 k B b (0 + 1 + 5 * (r.toNat : Int) + 5 + 1) 1 t s n ([] : List S35)) R → Ev (fun k => spec_DrawExpFind.f k l) R := by
  intro R h
  simp only [spec_DrawExpFind.f, ho, Option.bind_some]
  exact Ev.bind hbinds (Ev.bind hi (Ev.bind hq h))
 by_cases hq0 : q = 0
 ·obtain ⟨x, hx, hx2⟩ := rest [0, 1, 2] (by simp)
  refine ⟨B, x, start _ ?_, hB1, hB2, hx2⟩
  simp only [if_pos hq0]
  exact hx
 ·obtain ⟨x, hx, hx2⟩ := rest s hs
  refine ⟨B, x, start _ ?_, hB1, hB2, hx2⟩
  simp only [if_neg hq0]
  exact hx
theorem nil_iff (b : ByteArray) : b.toList = ([] : List UInt8) ↔ b = ⟨#[]⟩ := ⟨fun h => toList_inj (a := b) (b := ⟨#[]⟩) (h.trans nil_toList.symm), fun h => by rw [h]; exact nil_toList⟩
theorem end_ok (B : List S42) (x : S35) (hB : ∀ b ∈ B, Bok b) (hn : B.length ≤ 1048576) :
  Ev (fun k => laws_FnExpFind.l0 k B (told B x).1 (told B x).2 ((B.filter (fits x.f1 x.f2)).length : Int) (name ((B.filter (fits x.f1 x.f2)).reverse.find? (fun b => over (B.filter (fits x.f1 x.f2)) b.f1))) (B.length : Int) x.f0 x.f1 x.f2 x.f3 x.f4) true := by
 refine Ev.shift ?_
 simp only [laws_FnExpFind.l0, if_neg (show ¬ ((B.length : Int) < (B.length : Int)) by omega)]
 have e0 : (⟨#[]⟩ : ByteArray).toList = ([] : List UInt8) := (nil_iff _).2 rfl
 unfold told
 by_cases h1 : x.f0 = 1
 ·simp only [if_pos h1]
  generalize hF : B.filter (fits x.f1 x.f2) = F
  have hFb : ∀ b ∈ F, Bok b := fun b hb => by rw [← hF] at hb; exact hB b (List.mem_filter.1 hb).1
  by_cases h0 : F = []
  ·subst h0
   simp only [said, List.length_nil, List.reverse_nil, List.find?_nil, if_true, show (((0 : Nat) : Int) = 0) from rfl, e0, beq_self_eq_true]
   exact Ev.now _
  ·have hne : ¬ ((F.length : Int) = 0) := fun e => h0 (List.eq_nil_of_length_eq_zero (by omega))
   simp only [if_neg hne, said, if_neg h0]
   cases hf : F.reverse.find? (fun b => over F b.f1) with
   | none =>
    simp only [name, e0, if_true]
    exact Ev.now _
   | some b =>
    have hb := (hFb b (by have := List.mem_of_find?_eq_some hf; simpa using this)).2
    simp only [name, if_neg hb, if_true, beq_self_eq_true]
    exact Ev.now _
 ·simp only [if_neg h1, if_true, e0, beq_self_eq_true]
  exact Ev.now _
theorem FnExpFind : laws_FnExpFind.Pure := by
 intro l _ _ hw
 refine Ev.rounds ?_
 by_cases hl : (l.length : Int) > 1048576
 ·simp only [laws_FnExpFind.f, if_pos hl]
  exact Ev.now _
 obtain ⟨B, x, hd, hB, hn, hs⟩ := draw_ok l hw
 simp only [laws_FnExpFind.f, if_neg hl]
 refine Ev.bind hd ?_
 refine Ev.bind (impl_ok B x hB (by omega) (by omega)) ?_
 refine Ev.bind (spec_ok B x hB (by omega) (by omega)) ?_
 simp only [if_true, bne_self_eq_false]
 refine Ev.shift ?_
 simp only [laws_FnExpFind.j0, Bool.false_eq_true, if_false]
 have h := law_outer B (told B x).1 (told B x).2 x.f0 x.f1 x.f2 x.f3 x.f4 (by omega) hB (by omega) (end_ok B x hB (by omega)) B [] rfl
 exact h
end Go.Proofs.Ytmdhanegafclmaa.Pure
