/- Part of the proof that FnSisOrder is true at every input; no condition. -/
import Derived.Test.YtmcbhnbemhfifaaSzPartC
set_option linter.unusedVariables false
set_option linter.unusedSimpArgs false
section
namespace Go.Proofs.Ytmcbhnbemhfifaa.RX
open Go K
set_option autoImplicit false
set_option linter.unusedVariables false
set_option linter.unusedSimpArgs false
def e0 : ByteArray := ByteArray.mk #[]
def distF (ns : List ByteArray) : List ByteArray → Int → Bool
 | [], _ => true
 | x :: r, i => decide (atF ns x 0 = i) && distF ns r (i + 1)
def needsB (ns : List ByteArray) (l : List TSisLib) : Bool := l.all fun x => x.vNeeds.all fun n => decide (n ∈ ns)
def availB (done : List ByteArray) (x : TSisLib) : Bool := !decide (x.vName ∈ done) && subB x.vNeeds done
def stepN (done : List ByteArray) (m : ByteArray) (x : TSisLib) : ByteArray :=
 match availB done x with
 | true => if m = e0 ∨ strLt x.vName m = true then x.vName else m
 | false => m
def nxt (l : List TSisLib) (done : List ByteArray) : ByteArray := l.foldl (stepN done) e0
def ordM (l : List TSisLib) : Nat → List ByteArray → Int × List ByteArray
 | 0, done => (0, done)
 | m + 1, done => if nxt l done = e0 then (4, []) else ordM l m (done ++ [nxt l done])
def contM (l : List TSisLib) (m : Nat) (done : List ByteArray) (c : ByteArray) : Int × List ByteArray := if c = e0 then (4, []) else ordM l m (done ++ [c])
def wrongM (l : List TSisLib) : Int :=
 if l.length > 8 then 5 else if (namesOf l).all nmB = false then 1 else if distF (namesOf l) (namesOf l) 0 = false then 2 else if needsB (namesOf l) l = false then 3 else 0
def orderM (l : List TSisLib) : Int × List ByteArray := if wrongM l = 0 then ordM l l.length [] else (wrongM l, [])
def SmlL (l : List TSisLib) : Prop := (l.length : Int) ≤ 1000000000 ∧ ∀ x ∈ l, (x.vNeeds.length : Int) ≤ 1000000000
theorem next_spec (l : List TSisLib) (done : List ByteArray) (hl : SmlL l) (hd : (done.length : Int) ≤ 1000000000) : Ev (fun k => spec_l63Next.f k l done) (nxt l done) := by
 obtain ⟨h1, h2⟩ := hl
 simp only [spec_l63Next.f, nxt]
 refine goList l (P := fun i suf => ∀ m, Ev (fun k => spec_l63Next.l3 k l done m i) (suf.foldl (stepN done) m)) ?_ ?_ e0
 ·intro m
  refine Ev.shift ?_
  simp (disch := omega) only [spec_l63Next.l3, if_neg]
  exact Ev.now _
 ·intro i x r g0 g1 hx hm _ _ _ ih m
  have hn := h2 x hm
  refine Ev.shift ?_
  simp (disch := omega) only [spec_l63Next.l3, spec_l63Next.j4b, if_pos, hx, w64, toList_inj, List.foldl_cons]
  refine Ev.bind (has_spec done x.vName hd) ?_
  by_cases a : x.vName ∈ done
  ·simp only [decide_eq_true a, not_true, if_false]
   exact (ih m).eq (by simp [stepN, availB, a])
  ·simp only [decide_eq_false a, Bool.false_eq_true, not_false_eq_true, if_true]
   refine Ev.bind (all_spec x.vNeeds done hn hd) ?_
   cases b : subB x.vNeeds done with
   | true =>
    simp only [if_true]
    by_cases c : m = ByteArray.mk #[]
    ·simp only [if_pos c]; exact (ih _).eq (by simp [stepN, availB, a, b, c, e0])
    ·simp only [if_neg c]
     by_cases d : strLt x.vName m = true
     ·simp only [if_pos d]; exact (ih _).eq (by simp [stepN, availB, a, b, d])
     ·simp only [if_neg d]; exact (ih _).eq (by simp [stepN, availB, a, b, c, d, e0])
   | false =>
    simp only [Bool.false_eq_true, if_false]
    exact (ih m).eq (by simp [stepN, availB, b])
theorem order_loop_spec (l : List TSisLib) (hl : SmlL l) : ∀ (m : Nat) (done : List ByteArray), done.length + m = l.length → Ev (fun k => spec_SisOrder.l5 k l done) (ordM l m done) := by
 intro m
 induction m with
 | zero =>
  intro done h
  refine Ev.shift ?_
  simp (disch := omega) only [spec_SisOrder.l5, if_neg]
  exact Ev.now _
 | succ m ih =>
  intro done h
  have := hl.1
  refine Ev.shift ?_
  simp (disch := omega) only [spec_SisOrder.l5, if_pos, toList_inj]
  refine Ev.bind (next_spec l done hl (by omega)) ?_
  by_cases e : nxt l done = ByteArray.mk #[]
  ·simp only [if_pos e]; exact (Ev.now _).eq (by simp [ordM, e, e0])
  ·simp (disch := (simp only [List.length_singleton]; omega)) only [if_neg e, if_pos]
   exact (ih (done ++ [nxt l done]) (by simp; omega)).eq (by simp [ordM, e, e0])
theorem wrong_spec (l : List TSisLib) (hl : SmlL l) : Ev (fun k => spec_l63Wrong.f k l) (wrongM l) := by
 obtain ⟨h1, h2⟩ := hl
 by_cases a : 8 < (l.length : Int)
 ·simp only [spec_l63Wrong.f, if_pos a]
  exact (Ev.now _).eq (by rw [wrongM, if_pos (by omega)])
 ·simp only [spec_l63Wrong.f, if_neg a]
  have na : ¬ l.length > 8 := by omega
  have n3 : Ev (fun k => spec_l63Wrong.l14 k l 0) (if needsB (namesOf l) l = false then (3 : Int) else 0) := by
   refine goList l (P := fun i suf => Ev (fun k => spec_l63Wrong.l14 k l i) (if needsB (namesOf l) suf = false then (3 : Int) else 0)) ?_ ?_
   ·refine Ev.shift ?_
    simp (disch := omega) only [spec_l63Wrong.l14, if_neg]
    exact (Ev.now _).eq (by simp [needsB])
   ·intro i x r g0 g1 hx hm _ _ _ ih
    have hn := h2 x hm
    refine Ev.shift ?_
    simp (disch := omega) only [spec_l63Wrong.l14, if_pos]
    have inner : Ev (fun k => spec_l63Wrong.l17 k l i 0) (if (x.vNeeds.all fun n => decide (n ∈ namesOf l)) = false then (3 : Int) else if needsB (namesOf l) r = false then 3 else 0) := by
     refine goList x.vNeeds (P := fun j suf => Ev (fun k => spec_l63Wrong.l17 k l i j) (if (suf.all fun n => decide (n ∈ namesOf l)) = false then (3 : Int) else if needsB (namesOf l) r = false then 3 else 0)) ?_ ?_
     ·refine Ev.shift ?_
      simp (disch := omega) only [spec_l63Wrong.l17, if_pos, hx, if_neg, w64]
      exact ih.eq (by simp)
     ·intro j n q j0 j1 hjx hjm _ _ _ ihj
      refine Ev.shift ?_
      simp (disch := omega) only [spec_l63Wrong.l17, if_pos, hx, hjx, w64]
      refine Ev.bind (libAt_spec l n h1) ?_
      have hneg := at_neg (n := n) (l := namesOf l) (i := 0) (by omega)
      by_cases c : n ∈ namesOf l
      ·have : ¬ atF (namesOf l) n 0 < 0 := fun h => hneg.1 h c
       simp only [if_neg this]; exact ihj.eq (by simp [c])
      ·simp only [if_pos (hneg.2 c)]; exact (Ev.now _).eq (by simp [c])
    exact inner.eq (by
     show _ = if needsB (namesOf l) (x :: r) = false then (3 : Int) else 0
     cases c : (x.vNeeds.all fun n => decide (n ∈ namesOf l)) with
     | true => (simp only [Bool.true_eq_false, if_false, needsB, List.all_cons, c, Bool.true_and]; try rfl)
     | false => (simp only [if_true, needsB, List.all_cons, c, Bool.false_and]; try rfl))
  have n2 : Ev (fun k => spec_l63Wrong.l9 k l 0) (if distF (namesOf l) (namesOf l) 0 = false then (2 : Int) else if needsB (namesOf l) l = false then (3 : Int) else 0) := by
   refine goList l (P := fun i suf => Ev (fun k => spec_l63Wrong.l9 k l i) (if distF (namesOf l) (namesOf suf) i = false then (2 : Int) else if needsB (namesOf l) l = false then (3 : Int) else 0)) ?_ ?_
   ·refine Ev.shift ?_
    simp (disch := omega) only [spec_l63Wrong.l9, if_neg]
    exact n3.eq (by simp [namesOf, distF])
   ·intro i x r g0 g1 hx hm _ _ _ ih
    refine Ev.shift ?_
    simp (disch := omega) only [spec_l63Wrong.l9, if_pos, hx, w64]
    refine Ev.bind (libAt_spec l x.vName h1) ?_
    by_cases c : atF (namesOf l) x.vName 0 = i
    ·simp only [c, not_true, if_false]; exact ih.eq (by simp only [namesOf, List.map_cons, distF]; simp only [namesOf] at c; simp [c]; try rfl)
    ·simp only [c, not_false_eq_true, if_true]; exact (Ev.now _).eq (by simp only [namesOf, List.map_cons, distF]; simp only [namesOf] at c; simp [c]; try rfl)
  refine Ev.eq (r := if (namesOf l).all nmB = false then (1 : Int) else if distF (namesOf l) (namesOf l) 0 = false then (2 : Int) else if needsB (namesOf l) l = false then (3 : Int) else 0) ?_ (by simp only [wrongM, if_neg na])
  refine goList l (P := fun i suf => Ev (fun k => spec_l63Wrong.l4 k l i) (if (namesOf suf).all nmB = false then (1 : Int) else if distF (namesOf l) (namesOf l) 0 = false then (2 : Int) else if needsB (namesOf l) l = false then (3 : Int) else 0)) ?_ ?_
  ·refine Ev.shift ?_
   simp (disch := omega) only [spec_l63Wrong.l4, if_neg]
   exact n2.eq (by simp [namesOf])
  ·intro i x r g0 g1 hx hm _ _ _ ih
   refine Ev.shift ?_
   simp (disch := omega) only [spec_l63Wrong.l4, if_pos, hx, w64]
   refine Ev.bind (name_spec x.vName) ?_
   cases c : nmB x.vName with
   | true => simp only [not_true, if_false]; exact ih.eq (by simp only [namesOf, List.map_cons, List.all_cons, c, Bool.true_and]; try rfl)
   | false => simp only [Bool.false_eq_true, not_false_eq_true, if_true]; exact (Ev.now _).eq (by simp only [namesOf, List.map_cons, List.all_cons, c, Bool.false_and, if_true]; try rfl)
theorem order_spec (l : List TSisLib) (hl : SmlL l) : Ev (fun k => spec_SisOrder.f k l) (orderM l) := by
 simp only [spec_SisOrder.f]
 refine Ev.bind (wrong_spec l hl) ?_
 by_cases c : wrongM l = 0
 ·simp only [c, not_true, if_false]; exact (order_loop_spec l hl l.length [] (by simp)).eq (by simp [orderM, c])
 ·simp only [c, not_false_eq_true, if_true]; exact (Ev.now _).eq (by simp [orderM, c])
theorem order_loop_impl (l : List TSisLib) (hl : SmlL l) : ∀ (m : Nat) (done : List ByteArray), done.length + m = l.length → Ev (fun k => impl_SisOrder.l26 k l done) (ordM l m done) := by
 obtain ⟨h1, h2⟩ := hl
 intro m
 induction m with
 | zero =>
  intro done h
  refine Ev.shift ?_
  simp (disch := omega) only [impl_SisOrder.l26, if_neg]
  exact Ev.now _
 | succ m ih =>
  intro done h
  refine Ev.shift ?_
  simp (disch := omega) only [impl_SisOrder.l26, if_pos]
  have hd : (done.length : Int) ≤ 1000000000 := by omega
  refine Ev.eq (r := contM l m done (nxt l done)) ?_ rfl
  refine goList l (P := fun i suf => ∀ c, Ev (fun k => impl_SisOrder.l29 k l c l (l.length : Int) i done) (contM l m done (suf.foldl (stepN done) c))) ?_ ?_ e0
  ·intro c
   refine Ev.shift ?_
   simp (disch := omega) only [impl_SisOrder.l29, if_neg, toList_inj, List.foldl_nil]
   by_cases e : c = ByteArray.mk #[]
   ·simp only [if_pos e]; exact (Ev.now _).eq (by simp [contM, e, e0])
   ·simp (disch := (simp only [List.length_singleton]; omega)) only [if_neg e, if_pos]
    exact (ih (done ++ [c]) (by simp; omega)).eq (by simp [contM, e, e0])
  ·intro i x r g0 g1 hx hm _ _ _ ihr c
   have hn := h2 x hm
   refine Ev.shift ?_
   simp (disch := omega) only [impl_SisOrder.l29, if_pos, hx, w64, toList_inj, List.foldl_cons]
   refine Ev.bind (contains_impl done x.vName hd) ?_
   by_cases a : x.vName ∈ done
   ·simp only [decide_eq_true a, if_true]
    exact (ihr c).eq (by simp [stepN, availB, a])
   ·simp only [decide_eq_false a, Bool.false_eq_true, if_false]
    have tail : ∀ c', (availB done x = true → c' = c ∨ c' = x.vName) → True := fun _ _ => trivial
    by_cases e : c = ByteArray.mk #[]
    ·simp only [e, not_true, if_false]
     refine Ev.bind (lacks_impl x.vNeeds done hn hd) ?_
     cases b : subB x.vNeeds done with
     | true => simp only [Bool.not_true, Bool.false_eq_true, if_false]; exact (ihr _).eq (by simp [stepN, availB, a, b, e0])
     | false => simp only [Bool.not_false, if_true]; exact (ihr _).eq (by simp [stepN, availB, b])
    ·simp only [e, not_false_eq_true, if_true]
     by_cases q : (strLt x.vName c || x.vName.toList == c.toList) = false
     ·simp only [if_pos q]
      have q1 : strLt x.vName c = false := by revert q; cases strLt x.vName c <;> simp
      exact (ihr c).eq (by
       have : stepN done c x = c := by
        unfold stepN
        split
        ·rw [if_neg]; rw [q1]; simp [e0, e]
        ·rfl
       show contM l m done (List.foldl (stepN done) c r) = contM l m done (List.foldl (stepN done) (stepN done c x) r)
       rw [this])
     ·simp only [if_neg q]
      refine Ev.bind (lacks_impl x.vNeeds done hn hd) ?_
      have hs : subB x.vNeeds done = true → stepN done c x = x.vName := by
       intro b
       have ha : availB done x = true := by simp [availB, a, b]
       unfold stepN
       rw [ha]
       show (if c = e0 ∨ strLt x.vName c = true then x.vName else c) = x.vName
       split
       ·rfl
       ·rename_i hno
        have q1 : strLt x.vName c = false := by
         cases z : strLt x.vName c with
         | true => exact absurd (.inr z) hno
         | false => rfl
        rw [q1, Bool.false_or] at q
        have q2 : (x.vName.toList == c.toList) = true := by
         cases z : (x.vName.toList == c.toList) with
         | true => rfl
         | false => exact absurd z q
        exact (toList_inj.1 (by simpa using q2)).symm
      cases b : subB x.vNeeds done with
      | true => simp only [Bool.not_true, Bool.false_eq_true, if_false]; exact (ihr _).eq (by show contM l m done (List.foldl (stepN done) x.vName r) = contM l m done (List.foldl (stepN done) (stepN done c x) r); rw [hs b])
      | false => simp only [Bool.not_false, if_true]; exact (ihr _).eq (by simp [stepN, availB, b])
theorem order_impl (l : List TSisLib) (hl : SmlL l) : Ev (fun k => impl_SisOrder.f k l) (orderM l) := by
 obtain ⟨h1, h2⟩ := hl
 by_cases a : 8 < (l.length : Int)
 ·simp only [impl_SisOrder.f, if_pos a]
  exact (Ev.now _).eq (by
   have : wrongM l = 5 := by rw [wrongM, if_pos (by omega)]
   simp [orderM, this])
 ·simp only [impl_SisOrder.f, if_neg a]
  have na : ¬ l.length > 8 := by omega
  have n4 := order_loop_impl l ⟨h1, h2⟩ l.length [] (by simp)
  have n3 : Ev (fun k => impl_SisOrder.l16 k l l (l.length : Int) 0) (if needsB (namesOf l) l = false then ((3 : Int), []) else ordM l l.length []) := by
   refine goList l (P := fun i suf => Ev (fun k => impl_SisOrder.l16 k l l (l.length : Int) i) (if needsB (namesOf l) suf = false then ((3 : Int), []) else ordM l l.length [])) ?_ ?_
   ·refine Ev.shift ?_
    simp (disch := omega) only [impl_SisOrder.l16, if_neg]
    exact n4.eq (by simp [needsB])
   ·intro i x r g0 g1 hx hm _ _ _ ih
    have hn := h2 x hm
    refine Ev.shift ?_
    simp (disch := omega) only [impl_SisOrder.l16, if_pos, hx]
    have inner : Ev (fun k => impl_SisOrder.l19 k l l (l.length : Int) i x.vNeeds (x.vNeeds.length : Int) 0) (if (x.vNeeds.all fun n => decide (n ∈ namesOf l)) = false then ((3 : Int), []) else if needsB (namesOf l) r = false then ((3 : Int), []) else ordM l l.length []) := by
     refine goList x.vNeeds (P := fun j suf => Ev (fun k => impl_SisOrder.l19 k l l (l.length : Int) i x.vNeeds (x.vNeeds.length : Int) j) (if (suf.all fun n => decide (n ∈ namesOf l)) = false then ((3 : Int), []) else if needsB (namesOf l) r = false then ((3 : Int), []) else ordM l l.length [])) ?_ ?_
     ·refine Ev.shift ?_
      simp (disch := omega) only [impl_SisOrder.l19, if_neg, w64]
      exact ih.eq (by simp)
     ·intro j n q j0 j1 hjx hjm _ _ _ ihj
      refine Ev.shift ?_
      simp (disch := omega) only [impl_SisOrder.l19, if_pos, hjx, w64]
      refine Ev.bind (sisAt_impl l n h1) ?_
      have hneg := at_neg (n := n) (l := namesOf l) (i := 0) (by omega)
      by_cases c : n ∈ namesOf l
      ·have : ¬ atF (namesOf l) n 0 < 0 := fun h => hneg.1 h c
       simp only [if_neg this]; exact ihj.eq (by simp [c])
      ·simp only [if_pos (hneg.2 c)]; exact (Ev.now _).eq (by simp [c])
    exact inner.eq (by
     show _ = if needsB (namesOf l) (x :: r) = false then ((3 : Int), []) else _
     cases c : (x.vNeeds.all fun n => decide (n ∈ namesOf l)) with
     | true => (simp only [Bool.true_eq_false, if_false, needsB, List.all_cons, c, Bool.true_and]; try rfl)
     | false => (simp only [if_true, needsB, List.all_cons, c, Bool.false_and]; try rfl))
  have n2 : Ev (fun k => impl_SisOrder.l10 k l l (l.length : Int) 0) (if distF (namesOf l) (namesOf l) 0 = false then ((2 : Int), []) else if needsB (namesOf l) l = false then ((3 : Int), []) else ordM l l.length []) := by
   refine goList l (P := fun i suf => Ev (fun k => impl_SisOrder.l10 k l l (l.length : Int) i) (if distF (namesOf l) (namesOf suf) i = false then ((2 : Int), []) else if needsB (namesOf l) l = false then ((3 : Int), []) else ordM l l.length [])) ?_ ?_
   ·refine Ev.shift ?_
    simp (disch := omega) only [impl_SisOrder.l10, if_neg]
    exact n3.eq (by simp [namesOf, distF])
   ·intro i x r g0 g1 hx hm _ _ _ ih
    refine Ev.shift ?_
    simp (disch := omega) only [impl_SisOrder.l10, if_pos, hx, w64]
    refine Ev.bind (sisAt_impl l x.vName h1) ?_
    by_cases c : atF (namesOf l) x.vName 0 = i
    ·simp only [c, not_true, if_false]; exact ih.eq (by simp only [namesOf, List.map_cons, distF]; simp only [namesOf] at c; simp [c]; try rfl)
    ·simp only [c, not_false_eq_true, if_true]; exact (Ev.now _).eq (by simp only [namesOf, List.map_cons, distF]; simp only [namesOf] at c; simp [c]; try rfl)
  refine Ev.eq (r := if (namesOf l).all nmB = false then ((1 : Int), []) else if distF (namesOf l) (namesOf l) 0 = false then ((2 : Int), []) else if needsB (namesOf l) l = false then ((3 : Int), []) else ordM l l.length []) ?_ (by
   unfold orderM wrongM
   rw [if_neg na]
   by_cases c1 : (namesOf l).all nmB = false
   ·simp [c1]
   ·by_cases c2 : distF (namesOf l) (namesOf l) 0 = false
    ·simp [c1, c2]
    ·by_cases c3 : needsB (namesOf l) l = false
     ·simp [c1, c2, c3]
     ·simp [c1, c2, c3])
  refine goList l (P := fun i suf => Ev (fun k => impl_SisOrder.l4 k l l (l.length : Int) i) (if (namesOf suf).all nmB = false then ((1 : Int), []) else if distF (namesOf l) (namesOf l) 0 = false then ((2 : Int), []) else if needsB (namesOf l) l = false then ((3 : Int), []) else ordM l l.length [])) ?_ ?_
  ·refine Ev.shift ?_
   simp (disch := omega) only [impl_SisOrder.l4, if_neg]
   exact n2.eq (by simp [namesOf])
  ·intro i x r g0 g1 hx hm _ _ _ ih
   refine Ev.shift ?_
   simp (disch := omega) only [impl_SisOrder.l4, if_pos, hx, w64]
   refine Ev.bind (name_impl x.vName) ?_
   cases c : nmB x.vName with
   | true => simp only [not_true, if_false]; exact ih.eq (by simp only [namesOf, List.map_cons, List.all_cons, c, Bool.true_and]; try rfl)
   | false => simp only [Bool.false_eq_true, not_false_eq_true, if_true]; exact (Ev.now _).eq (by simp only [namesOf, List.map_cons, List.all_cons, c, Bool.false_and, if_true]; try rfl)
end Go.Proofs.Ytmcbhnbemhfifaa.RX
end
section
namespace Go.Proofs.Ytmcbhnbemhfifaa.RX
open Go K
set_option autoImplicit false
set_option linter.unusedVariables false
set_option linter.unusedSimpArgs false
theorem bl_eq : ∀ (x y : List UInt8), Op.bytesLess x y = decide (x < y)
 | [], [] => by simp [Op.bytesLess]
 | _ :: _, [] => by simp [Op.bytesLess]
 | [], _ :: _ => by simp [Op.bytesLess]
 | a :: x, b :: y => by
  rw [Op.bytesLess, bl_eq x y]
  simp only [List.cons_lt_cons_iff]
  by_cases h1 : a < b <;> by_cases h2 : a = b <;> by_cases h3 : x < y <;> simp [h1, h2, h3]
theorem lt_irr (a : ByteArray) : strLt a a = false := by
 unfold strLt
 rw [bl_eq]
 exact decide_eq_false (List.lt_irrefl _)
theorem lt_trans' {a b c : ByteArray} (h : strLt a b = true) (h' : strLt b c = true) : strLt a c = true := by
 unfold strLt at *
 rw [bl_eq] at *
 exact decide_eq_true (List.lt_trans (of_decide_eq_true h) (of_decide_eq_true h'))
theorem lt_tri {a b : ByteArray} (h : strLt a b = false) (h' : strLt b a = false) : a = b := by
 unfold strLt at *
 rw [bl_eq] at *
 exact toList_inj.1 (List.le_antisymm (List.not_lt.1 (of_decide_eq_false h')) (List.not_lt.1 (of_decide_eq_false h)))
theorem lt_neg {a b c : ByteArray} (h : strLt a b = false) (h' : strLt b c = false) : strLt a c = false := by
 cases e : strLt a c with
 | false => rfl
 | true =>
  cases q : strLt b a with
  | true => rw [lt_trans' q e] at h'; cases h'
  | false => have := lt_tri h q; subst this; rw [e] at h'; cases h'
theorem fold_spec (done : List ByteArray) : ∀ (l : List TSisLib) (c : ByteArray), (∀ x ∈ l, x.vName ≠ e0) →
  (l.foldl (stepN done) c = c ∨ ∃ x ∈ l, availB done x = true ∧ l.foldl (stepN done) c = x.vName) ∧ (c ≠ e0 → l.foldl (stepN done) c ≠ e0 ∧ strLt c (l.foldl (stepN done) c) = false) ∧
  ∀ x ∈ l, availB done x = true → l.foldl (stepN done) c ≠ e0 ∧ strLt x.vName (l.foldl (stepN done) c) = false
 | [], c, _ => ⟨.inl rfl, fun h => ⟨h, lt_irr c⟩, fun x h => absurd h List.not_mem_nil⟩
 | y :: l, c, hn => by
  obtain ⟨i1, i2, i3⟩ := fold_spec done l (stepN done c y) (fun x hx => hn x (List.mem_cons_of_mem _ hx))
  have hy := hn y List.mem_cons_self
  rw [List.foldl_cons]
  cases a : availB done y with
  | false =>
   have e : stepN done c y = c := by unfold stepN; rw [a]
   rw [e] at i1 i2 i3 ⊢
   refine ⟨?_, i2, fun x hx ha => ?_⟩
   ·rcases i1 with h | ⟨x, hx, h⟩
    ·exact .inl h
    ·exact .inr ⟨x, List.mem_cons_of_mem _ hx, h⟩
   ·rcases List.mem_cons.1 hx with h | h
    ·subst h; rw [a] at ha; cases ha
    ·exact i3 x h ha
  | true =>
   by_cases q : c = e0 ∨ strLt y.vName c = true
   ·have e : stepN done c y = y.vName := by unfold stepN; rw [a]; exact if_pos q
    rw [e] at i1 i2 i3 ⊢
    obtain ⟨j1, j2⟩ := i2 hy
    refine ⟨?_, fun hc => ⟨j1, ?_⟩, fun x hx ha => ?_⟩
    ·rcases i1 with h | ⟨x, hx, h⟩
     ·exact .inr ⟨y, List.mem_cons_self, a, h⟩
     ·exact .inr ⟨x, List.mem_cons_of_mem _ hx, h⟩
    ·rcases q with q | q
     ·exact absurd q hc
     ·cases z : strLt c (l.foldl (stepN done) y.vName) with
      | false => rfl
      | true => rw [lt_trans' q z] at j2; cases j2
    ·rcases List.mem_cons.1 hx with h | h
     ·subst h; exact ⟨j1, j2⟩
     ·exact i3 x h ha
   ·have e : stepN done c y = c := by unfold stepN; rw [a]; exact if_neg q
    have hc : c ≠ e0 := fun h => q (.inl h)
    have hl : strLt y.vName c = false := by
     cases z : strLt y.vName c with
     | false => rfl
     | true => exact absurd (.inr z) q
    rw [e] at i1 i2 i3 ⊢
    obtain ⟨j1, j2⟩ := i2 hc
    refine ⟨?_, fun _ => ⟨j1, j2⟩, fun x hx ha => ?_⟩
    ·rcases i1 with h | ⟨x, hx, h⟩
     ·exact .inl h
     ·exact .inr ⟨x, List.mem_cons_of_mem _ hx, h⟩
    ·rcases List.mem_cons.1 hx with h | h
     ·subst h; exact ⟨j1, lt_neg hl j2⟩
     ·exact i3 x h ha
theorem nxt_spec {l : List TSisLib} {done : List ByteArray} (hn : ∀ x ∈ l, x.vName ≠ e0) :
  (nxt l done = e0 ∧ ∀ x ∈ l, availB done x = false) ∨ (nxt l done ≠ e0 ∧ (∃ x ∈ l, availB done x = true ∧ nxt l done = x.vName) ∧ ∀ x ∈ l, availB done x = true → strLt x.vName (nxt l done) = false) := by
 obtain ⟨h1, _, h3⟩ := fold_spec done l e0 hn
 have h1 : nxt l done = e0 ∨ ∃ x ∈ l, availB done x = true ∧ nxt l done = x.vName := h1
 have h3 : ∀ x ∈ l, availB done x = true → nxt l done ≠ e0 ∧ strLt x.vName (nxt l done) = false := h3
 by_cases e : nxt l done = e0
 ·refine .inl ⟨e, fun x hx => ?_⟩
  cases a : availB done x with
  | false => rfl
  | true => exact absurd e (h3 x hx a).1
 ·refine .inr ⟨e, ?_, fun x hx ha => (h3 x hx ha).2⟩
  rcases h1 with h | h
  ·exact absurd h e
  ·exact h
theorem nxt_same {l l' : List TSisLib} (hm : ∀ x, x ∈ l ↔ x ∈ l') (hn : ∀ x ∈ l, x.vName ≠ e0) (done : List ByteArray) : nxt l done = nxt l' done := by
 have hn' : ∀ x ∈ l', x.vName ≠ e0 := fun x hx => hn x ((hm x).2 hx)
 rcases nxt_spec (done := done) hn with ⟨a1, a2⟩ | ⟨a1, ⟨x, a2, a3, a4⟩, a5⟩ <;> rcases nxt_spec (done := done) hn' with ⟨b1, b2⟩ | ⟨b1, ⟨y, b2, b3, b4⟩, b5⟩
 ·rw [a1, b1]
 ·have := a2 y ((hm y).2 b2); rw [b3] at this; cases this
 ·have := b2 x ((hm x).1 a2); rw [a3] at this; cases this
 ·exact lt_tri (by rw [a4]; exact b5 x ((hm x).1 a2) a3) (by rw [b4]; exact a5 y ((hm y).2 b2) b3)
theorem ordM_same {l l' : List TSisLib} (hm : ∀ x, x ∈ l ↔ x ∈ l') (hn : ∀ x ∈ l, x.vName ≠ e0) : ∀ (m : Nat) (done : List ByteArray), ordM l m done = ordM l' m done
 | 0, _ => rfl
 | m + 1, done => by
  unfold ordM
  rw [← nxt_same hm hn done, ordM_same hm hn m]
theorem at_append {a b : List ByteArray} {n : ByteArray} : ∀ {i : Int}, atF (a ++ b) n i = if n ∈ a then atF a n i else atF b n (i + a.length) := by
 induction a with
 | nil => intro i; simp
 | cons x a ih =>
  intro i
  rw [List.cons_append, show atF (x :: (a ++ b)) n i = if x = n then i else atF (a ++ b) n (i + 1) from rfl, show atF (x :: a) n i = if x = n then i else atF a n (i + 1) from rfl]
  by_cases e : x = n
  ·rw [if_pos e, if_pos (by rw [e]; exact List.mem_cons_self), if_pos e]
  ·rw [if_neg e, ih, if_neg e]
   by_cases h : n ∈ a
   ·rw [if_pos h, if_pos (List.mem_cons_of_mem _ h)]
   ·rw [if_neg h, if_neg (fun hm => by rcases List.mem_cons.1 hm with hm | hm; exact e hm.symm; exact h hm), List.length_cons]
    rw [show i + 1 + (a.length : Int) = i + ((a.length + 1 : Nat) : Int) by omega]
theorem at_nodup {ns : List ByteArray} (hn : ns.Nodup) {j : Nat} (hj : j < ns.length) : atF ns ns[j] 0 = j := by
 have hm : ns[j] ∈ ns := List.getElem_mem hj
 have h1 := at_ge (i := 0) hm
 obtain ⟨h2, h3⟩ := at_get (i := 0) hm
 rw [Int.sub_zero] at h3
 obtain ⟨h4, h5⟩ := List.getElem?_eq_some_iff.1 h3
 have := (List.getElem_inj hn).1 h5
 omega
theorem dist_iff (ns : List ByteArray) : distF ns ns 0 = true ↔ ns.Nodup := by
 have key : ∀ (suf : List ByteArray) (p : Nat), ns.drop p = suf → (distF ns suf p = true ↔ ∀ (j : Nat) (hj : j < ns.length), p ≤ j → atF ns ns[j] 0 = j) := by
  intro suf
  induction suf with
  | nil =>
   intro p hp
   have : ns.length ≤ p := List.drop_eq_nil_iff.1 hp
   exact ⟨fun _ j hj hpj => by omega, fun _ => rfl⟩
  | cons x r ih =>
   intro p hp
   have hlt : p < ns.length := by
    rcases Nat.lt_or_ge p ns.length with h | h
    ·exact h
    ·rw [List.drop_eq_nil_of_le h] at hp; cases hp
   rw [List.drop_eq_getElem_cons hlt] at hp
   injection hp with hx hr
   unfold distF
   rw [Bool.and_eq_true, decide_eq_true_eq, show (p : Int) + 1 = ((p + 1 : Nat) : Int) by omega, ih (p + 1) hr]
   constructor
   ·rintro ⟨h1, h2⟩ j hj hpj
    by_cases e : p = j
    ·subst e; rw [hx]; exact h1
    ·exact h2 j hj (by omega)
   ·intro h
    exact ⟨by rw [← hx]; exact h p hlt (Nat.le_refl _), fun j hj hpj => h j hj (by omega)⟩
 have := key ns 0 rfl
 rw [show ((0 : Nat) : Int) = 0 from rfl] at this
 rw [this]
 constructor
 ·intro h
  rw [List.nodup_iff_pairwise_ne, List.pairwise_iff_getElem]
  intro i j hi hj hij e
  have h1 := h i hi (Nat.zero_le _)
  have h2 := h j hj (Nat.zero_le _)
  rw [e, h2] at h1
  omega
 ·exact fun h j hj _ => at_nodup h hj
theorem nodup_rev {α : Type} {l : List α} : l.reverse.Nodup ↔ l.Nodup := by
 rw [List.nodup_iff_pairwise_ne, List.nodup_iff_pairwise_ne, List.pairwise_reverse]
 exact ⟨fun h => h.imp fun h => h.symm, fun h => h.imp fun h => h.symm⟩
theorem nodup_len : ∀ {o ns : List ByteArray}, o.Nodup → (∀ x ∈ o, x ∈ ns) → o.length ≤ ns.length
 | [], _, _, _ => Nat.zero_le _
 | a :: o, ns, hn, hs => by
  rw [List.nodup_cons] at hn
  have h1 : (ns.filter fun x => decide (x ≠ a)).length < ns.length := List.length_filter_lt_length_iff_exists.2 ⟨a, hs a List.mem_cons_self, by simp⟩
  have h2 := nodup_len (o := o) (ns := ns.filter fun x => decide (x ≠ a)) hn.2 (fun x hx => List.mem_filter.2 ⟨hs x (List.mem_cons_of_mem _ hx), by
   have : x ≠ a := fun e => hn.1 (e ▸ hx)
   simp [this]⟩)
  rw [List.length_cons]
  omega
inductive Topo (l : List TSisLib) : List ByteArray → Prop where
 | nil : Topo l []
 | snoc (done : List ByteArray) (x : TSisLib) (h : Topo l done) (hx : x ∈ l) (hn : x.vName ∉ done) (hs : ∀ n ∈ x.vNeeds, n ∈ done) : Topo l (done ++ [x.vName])
theorem Topo.nodup {l : List TSisLib} {o : List ByteArray} (h : Topo l o) : o.Nodup := by
 induction h with
 | nil => exact List.nodup_nil
 | snoc done x _ _ hn _ ih => exact List.nodup_append.2 ⟨ih, by simp, fun a ha b hb e => by rw [List.mem_singleton.1 hb] at e; exact hn (e ▸ ha)⟩
theorem Topo.sub {l : List TSisLib} {o : List ByteArray} (h : Topo l o) : ∀ n ∈ o, n ∈ namesOf l := by
 induction h with
 | nil => intro n h; cases h
 | snoc done x _ hx _ _ ih =>
  intro n hn
  rcases List.mem_append.1 hn with hn | hn
  ·exact ih n hn
  ·rw [List.mem_singleton.1 hn]; exact List.mem_map_of_mem hx
theorem names_inj {l : List TSisLib} (hd : (namesOf l).Nodup) {x y : TSisLib} (hx : x ∈ l) (hy : y ∈ l) (e : x.vName = y.vName) : x = y := by
 obtain ⟨i, hi, rfl⟩ := List.getElem_of_mem hx
 obtain ⟨j, hj, rfl⟩ := List.getElem_of_mem hy
 have hi' : i < (namesOf l).length := by simpa [namesOf] using hi
 have hj' : j < (namesOf l).length := by simpa [namesOf] using hj
 have := (List.getElem_inj (h₀ := hi') (h₁ := hj') hd).1 (by simpa [namesOf] using e)
 subst this
 rfl
theorem Topo.needs {l : List TSisLib} (hd : (namesOf l).Nodup) {o : List ByteArray} (h : Topo l o) : ∀ x ∈ l, x.vName ∈ o → ∀ n ∈ x.vNeeds, n ∈ o ∧ atF o n 0 < atF o x.vName 0 := by
 induction h with
 | nil => intro x _ h; cases h
 | snoc done y _ hy hn hs ih =>
  intro x hx hxo n hnx
  by_cases e : x.vName ∈ done
  ·obtain ⟨h1, h2⟩ := ih x hx e n hnx
   refine ⟨List.mem_append_left _ h1, ?_⟩
   rw [at_append, at_append, if_pos h1, if_pos e]
   exact h2
  ·have e2 : x.vName = y.vName := by
    rcases List.mem_append.1 hxo with h | h
    ·exact absurd h e
    ·exact List.mem_singleton.1 h
   have := names_inj hd hx hy e2
   subst this
   have h1 := hs n hnx
   refine ⟨List.mem_append_left _ h1, ?_⟩
   rw [at_append, at_append, if_pos h1, if_neg e]
   have h2 := (at_get (i := 0) h1).1
   have h3 := at_ge (l := [x.vName]) (n := x.vName) (i := 0 + (done.length : Int)) (by simp)
   omega
theorem ordM_topo {l : List TSisLib} (hn : ∀ x ∈ l, x.vName ≠ e0) : ∀ (m : Nat) (done : List ByteArray), Topo l done →
  ((ordM l m done).1 = 0 ∧ Topo l (ordM l m done).2 ∧ (ordM l m done).2.length = done.length + m) ∨ ((ordM l m done).1 = 4 ∧ (ordM l m done).2 = [])
 | 0, done, h => .inl ⟨rfl, h, rfl⟩
 | m + 1, done, h => by
  unfold ordM
  rcases nxt_spec (done := done) hn with ⟨a1, _⟩ | ⟨a1, ⟨x, a2, a3, a4⟩, _⟩
  ·rw [if_pos a1]; exact .inr ⟨rfl, rfl⟩
  ·rw [if_neg a1]
   simp only [availB, Bool.and_eq_true, Bool.not_eq_true', decide_eq_false_iff_not] at a3
   have ht : Topo l (done ++ [nxt l done]) := by rw [a4]; exact .snoc done x h a2 a3.1 (sub_iff.1 a3.2)
   rcases ordM_topo hn m _ ht with ⟨b1, b2, b3⟩ | b
   ·exact .inl ⟨b1, b2, by rw [b3, List.length_append, List.length_singleton]; omega⟩
   ·exact .inr b
theorem wrong_zero {l : List TSisLib} (h : wrongM l = 0) : l.length ≤ 8 ∧ (∀ x ∈ l, x.vName ≠ e0) ∧ (namesOf l).Nodup ∧ ∀ x ∈ l, ∀ n ∈ x.vNeeds, n ∈ namesOf l := by
 unfold wrongM at h
 split at h
 ·omega
 ·rename_i h1
  split at h
  ·omega
  ·rename_i h2
   split at h
   ·omega
   ·rename_i h3
    split at h
    ·omega
    ·rename_i h4
     have h2 : (namesOf l).all nmB = true := by cases e : (namesOf l).all nmB with | true => rfl | false => exact absurd e h2
     have h3 : distF (namesOf l) (namesOf l) 0 = true := by cases e : distF (namesOf l) (namesOf l) 0 with | true => rfl | false => exact absurd e h3
     have h4 : needsB (namesOf l) l = true := by cases e : needsB (namesOf l) l with | true => rfl | false => exact absurd e h4
     refine ⟨by omega, fun x hx e => ?_, (dist_iff _).1 h3, fun x hx n hn => ?_⟩
     ·have := List.all_eq_true.1 h2 x.vName (List.mem_map_of_mem hx)
      rw [e] at this
      revert this
      decide
     ·have := List.all_eq_true.1 (List.all_eq_true.1 h4 x hx) n hn
      exact of_decide_eq_true this
theorem order_zero {l : List TSisLib} (h : (orderM l).1 = 0) : wrongM l = 0 ∧ Topo l (orderM l).2 ∧ (orderM l).2.length = l.length ∧ ∀ n ∈ namesOf l, n ∈ (orderM l).2 := by
 unfold orderM at *
 split at h
 ·rename_i hw
  rw [if_pos hw]
  obtain ⟨_, hn, hd, _⟩ := wrong_zero hw
  rcases ordM_topo hn l.length [] .nil with ⟨b1, b2, b3⟩ | ⟨b1, _⟩
  ·rw [List.length_nil, Nat.zero_add] at b3
   refine ⟨hw, b2, b3, fun n hm => ?_⟩
   by_cases e : n ∈ (ordM l l.length []).2
   ·exact e
   ·have := nodup_len (o := n :: (ordM l l.length []).2) (ns := namesOf l) (List.nodup_cons.2 ⟨e, b2.nodup⟩) (fun x hx => by
     rcases List.mem_cons.1 hx with hx | hx
     ·rw [hx]; exact hm
     ·exact b2.sub x hx)
    rw [List.length_cons, b3, namesOf, List.length_map] at this
    omega
  ·rw [b1] at h; cases h
 ·rename_i hw; exact absurd h hw
theorem order_not {l : List TSisLib} (h : (orderM l).1 ≠ 0) : (orderM l).2 = [] := by
 unfold orderM at *
 split at h
 ·rename_i hw
  rw [if_pos hw]
  obtain ⟨_, hn, _⟩ := wrong_zero hw
  rcases ordM_topo hn l.length [] .nil with ⟨b1, _⟩ | ⟨_, b2⟩
  ·exact absurd b1 h
  ·exact b2
 ·rename_i hw; rw [if_neg hw]
theorem wrong_rev (l : List TSisLib) : wrongM l.reverse = wrongM l := by
 have e1 : namesOf l.reverse = (namesOf l).reverse := by simp [namesOf]
 have e2 : distF (namesOf l).reverse (namesOf l).reverse 0 = distF (namesOf l) (namesOf l) 0 := by
  have := (dist_iff (namesOf l).reverse).trans (nodup_rev.trans (dist_iff (namesOf l)).symm)
  cases a : distF (namesOf l).reverse (namesOf l).reverse 0 <;> cases b : distF (namesOf l) (namesOf l) 0 <;> simp_all
 have e3 : needsB (namesOf l).reverse l.reverse = needsB (namesOf l) l := by
  unfold needsB
  rw [List.all_reverse]
  congr 1
  funext x
  congr 1
  funext n
  by_cases h : n ∈ namesOf l
  ·rw [decide_eq_true h, decide_eq_true (List.mem_reverse.2 h)]
  ·rw [decide_eq_false h, decide_eq_false (fun h' => h (List.mem_reverse.1 h'))]
 unfold wrongM
 rw [e1, List.length_reverse, List.all_reverse, e2, e3]
theorem order_rev (l : List TSisLib) : orderM l.reverse = orderM l := by
 unfold orderM
 rw [wrong_rev]
 split
 ·rename_i hw
  rw [List.length_reverse]
  exact ordM_same (fun x => List.mem_reverse) (fun x hx => (wrong_zero hw).2.1 x (List.mem_reverse.1 hx)) _ _
 ·rfl
end Go.Proofs.Ytmcbhnbemhfifaa.RX
end
section
namespace Go.Proofs.Ytmcbhnbemhfifaa.RX
open Go K
set_option autoImplicit false
set_option linter.unusedVariables false
set_option linter.unusedSimpArgs false
def libOf (l : List TSisLib) (n : ByteArray) : TSisLib := rdAt zTSisLib l (atF (namesOf l) n 0)
theorem lib_at {l : List TSisLib} {n : ByteArray} (h : n ∈ namesOf l) : 0 ≤ atF (namesOf l) n 0 ∧ atF (namesOf l) n 0 < (l.length : Int) ∧ libOf l n ∈ l ∧ (libOf l n).vName = n := by
 have h1 := at_ge (i := 0) h
 obtain ⟨h2, h3⟩ := at_get (i := 0) h
 have hl : (namesOf l).length = l.length := by simp [namesOf]
 rw [hl] at h2
 rw [Int.sub_zero] at h3
 have h4 : (atF (namesOf l) n 0).toNat < l.length := by omega
 have e : libOf l n = l[(atF (namesOf l) n 0).toNat] := by
  unfold libOf rdAt
  rw [List.getD_eq_getElem?_getD, List.getElem?_eq_getElem h4]
  rfl
 refine ⟨h1, by omega, by rw [e]; exact List.getElem_mem h4, ?_⟩
 rw [e]
 generalize (atF (namesOf l) n 0).toNat = q at h3 h4 ⊢
 rw [namesOf, List.getElem?_map, List.getElem?_eq_getElem h4] at h3
 injection h3
inductive Reach (l : List TSisLib) (a : ByteArray) : ByteArray → Prop where
 | here : Reach l a a
 | step (x n : ByteArray) (h : Reach l a x) (hn : n ∈ (libOf l x).vNeeds) : Reach l a n
theorem reach_names {l : List TSisLib} {a : ByteArray} (ha : a ∈ namesOf l) (hn : ∀ x ∈ l, ∀ n ∈ x.vNeeds, n ∈ namesOf l) {n : ByteArray} (h : Reach l a n) : n ∈ namesOf l := by
 induction h with
 | here => exact ha
 | step x n _ hx ih => exact hn _ (lib_at ih).2.2.1 n hx
theorem reach_in {l : List TSisLib} {a : ByteArray} {s : List ByteArray} (ha : a ∈ s) (hs : ∀ x ∈ s, ∀ n ∈ (libOf l x).vNeeds, n ∈ s) {n : ByteArray} (h : Reach l a n) : n ∈ s := by
 induction h with
 | here => exact ha
 | step x n _ hx ih => exact hs x ih n hx
def SmlT (l : List TSisLib) : Prop := SmlL l ∧ ∀ x ∈ l, x.vText.size ≤ 1000000
def nl : ByteArray := ByteArray.mk #[10]
noncomputable def stepT (l : List TSisLib) (a : ByteArray) (acc n : ByteArray) : ByteArray := open Classical in if Reach l a n then acc ++ ((libOf l n).vText ++ nl) else acc
theorem step_in {l : List TSisLib} {a acc n : ByteArray} (h : Reach l a n) : stepT l a acc n = acc ++ ((libOf l n).vText ++ nl) := by unfold stepT; exact if_pos h
theorem step_out {l : List TSisLib} {a acc n : ByteArray} (h : ¬ Reach l a n) : stepT l a acc n = acc := by unfold stepT; exact if_neg h
theorem ba_assoc (a b c : ByteArray) : (a ++ b) ++ c = a ++ (b ++ c) := by
 apply bytesOf_inj.1
 simp only [bytesOf_append, List.append_assoc]
theorem ba_size (a b : ByteArray) : (a ++ b).size = a.size + b.size := by
 have := congrArg List.length (bytesOf_append a b)
 simpa only [bytesOf_length, List.length_append] using this
theorem shown_spec {l : List TSisLib} {a : ByteArray} (hl : SmlT l) (o s : List ByteArray) (ho : ∀ n ∈ o, n ∈ namesOf l) (hol : o.length ≤ 1000) (hsl : (s.length : Int) ≤ 1000000000) (hs : ∀ n, n ∈ s ↔ Reach l a n) :
  Ev (fun k => spec_SisLink.l9 k l e0 0 o s) (o.foldl (stepT l a) e0, 0) := by
 refine goList o (P := fun i suf => ∀ acc : ByteArray, acc.size + 2000000 * suf.length ≤ 4000000000 → Ev (fun k => spec_SisLink.l9 k l acc i o s) (suf.foldl (stepT l a) acc, 0)) ?_ ?_ e0 (by show 0 + _ ≤ _; omega)
 ·intro acc _
  refine Ev.shift ?_
  simp (disch := omega) only [spec_SisLink.l9, if_neg]
  exact Ev.now _
 ·intro i n r h0 h1 hx hm _ _ _ ih acc hacc
  have hx' : o.getD i.toNat ByteArray.empty = n := hx _
  obtain ⟨b1, b2, b3, b4⟩ := lib_at (ho n hm)
  have ht := hl.2 _ b3
  rw [List.length_cons] at hacc
  refine Ev.shift ?_
  simp (disch := omega) only [spec_SisLink.l9, if_pos, hx', w64, List.foldl_cons]
  refine Ev.bind (has_spec s n hsl) ?_
  by_cases c : Reach l a n
  ·simp only [decide_eq_true ((hs n).2 c), if_true]
   refine Ev.bind (libAt_spec l n hl.1.1) ?_
   have e : rdAt zTSisLib l (atF (namesOf l) n 0) = libOf l n := rfl
   have hsz : (acc ++ (libOf l n).vText).size + (ByteArray.mk #[10]).size ≤ 9223372036854775807 := by rw [ba_size]; show _ + 1 ≤ _; omega
   simp (disch := omega) only [if_pos, e]
   refine (ih _ ?_).eq (by rw [step_in c]; show _ = (r.foldl (stepT l a) (acc ++ ((libOf l n).vText ++ ByteArray.mk #[10])), 0); rw [ba_assoc])
   rw [ba_size, ba_size]; show _ + 1 + _ ≤ _; omega
  ·simp only [decide_eq_false (fun h => c ((hs n).1 h)), Bool.false_eq_true, if_false]
   exact (ih acc (by omega)).eq (by rw [step_out c])
theorem idx_some {n : ByteArray} : ∀ {ks : List ByteArray}, n ∈ ks → ∃ i, mIdxS ks n = some i ∧ i < ks.length
 | [], h => by cases h
 | x :: r, h => by
  unfold mIdxS
  by_cases e : x.toList = n.toList
  ·rw [if_pos e]; exact ⟨0, rfl, Nat.zero_lt_succ _⟩
  ·rw [if_neg e]
   rcases List.mem_cons.1 h with h | h
   ·exact absurd (by rw [h]) e
   ·obtain ⟨i, h1, h2⟩ := idx_some h
    exact ⟨i + 1, by rw [h1]; rfl, Nat.succ_lt_succ h2⟩
theorem idx_none {n : ByteArray} : ∀ {ks : List ByteArray}, n ∉ ks → mIdxS ks n = none
 | [], _ => rfl
 | x :: r, h => by
  unfold mIdxS
  rw [if_neg (fun e => h (by rw [toList_inj.1 e]; exact List.mem_cons_self)), idx_none fun hm => h (List.mem_cons_of_mem _ hm)]
  rfl
def AllT (ks : List ByteArray) (vs : List Bool) : Prop := vs = List.replicate ks.length true
theorem get_t {ks : List ByteArray} {vs : List Bool} (h : AllT ks vs) (n : ByteArray) : mGet (mIdxS ks n) vs false = decide (n ∈ ks) := by
 by_cases c : n ∈ ks
 ·obtain ⟨i, h1, h2⟩ := idx_some c
  rw [h1, decide_eq_true c, show vs = _ from h]
  show (List.replicate ks.length true).getD i false = true
  simp [h2]
 ·rw [idx_none c, decide_eq_false c]; rfl
theorem put_t {ks : List ByteArray} {vs : List Bool} (h : AllT ks vs) (n : ByteArray) : AllT (mKs (mIdxS ks n) ks n) (mVs (mIdxS ks n) vs true) ∧ ∀ x, x ∈ mKs (mIdxS ks n) ks n ↔ x ∈ ks ∨ x = n := by
 by_cases c : n ∈ ks
 ·obtain ⟨i, h1, h2⟩ := idx_some c
  rw [h1, show vs = _ from h]
  refine ⟨?_, fun x => ⟨fun hx => .inl hx, fun hx => ?_⟩⟩
  ·show (List.replicate ks.length true).set i true = List.replicate ks.length true
   apply List.ext_getElem
   ·simp
   ·intro j h3 h4
    rw [List.getElem_set]
    split <;> simp
  ·rcases hx with hx | hx
   ·exact hx
   ·rw [hx]; exact c
 ·rw [idx_none c, show vs = _ from h]
  refine ⟨?_, fun x => by show x ∈ ks ++ [n] ↔ _; simp⟩
  show List.replicate ks.length true ++ [true] = List.replicate (ks ++ [n]).length true
  rw [List.length_append, List.length_singleton, List.replicate_succ']
theorem shown_impl {l : List TSisLib} {a : ByteArray} (hl : SmlT l) (o ks : List ByteArray) (vs : List Bool) (hv : AllT ks vs) (ho : ∀ n ∈ o, n ∈ namesOf l) (hol : o.length ≤ 1000) (hs : ∀ n, n ∈ ks ↔ Reach l a n) :
  Ev (fun k => impl_SisLink.l18 k l e0 (o.length : Int) 0 ks vs o) (o.foldl (stepT l a) e0, 0) := by
 refine goList o (P := fun i suf => ∀ acc : ByteArray, acc.size + 2000000 * suf.length ≤ 4000000000 → Ev (fun k => impl_SisLink.l18 k l acc (o.length : Int) i ks vs o) (suf.foldl (stepT l a) acc, 0)) ?_ ?_ e0 (by show 0 + _ ≤ _; omega)
 ·intro acc _
  refine Ev.shift ?_
  simp (disch := omega) only [impl_SisLink.l18, if_neg]
  exact Ev.now _
 ·intro i n r h0 h1 hx hm _ _ _ ih acc hacc
  have hx' : o.getD i.toNat ByteArray.empty = n := hx _
  obtain ⟨b1, b2, b3, b4⟩ := lib_at (ho n hm)
  have ht := hl.2 _ b3
  rw [List.length_cons] at hacc
  refine Ev.shift ?_
  simp (disch := omega) only [impl_SisLink.l18, if_pos, hx', w64, List.foldl_cons, get_t hv]
  by_cases c : Reach l a n
  ·simp only [decide_eq_true ((hs n).2 c), if_true]
   refine Ev.bind (sisAt_impl l n hl.1.1) ?_
   have e : rdAt zTSisLib l (atF (namesOf l) n 0) = libOf l n := rfl
   have hs1 : (libOf l n).vText.size + (ByteArray.mk #[10]).size ≤ 9223372036854775807 := by show _ + 1 ≤ _; omega
   have hs2 : acc.size + ((libOf l n).vText ++ ByteArray.mk #[10]).size ≤ 9223372036854775807 := by rw [ba_size]; show _ + (_ + 1) ≤ _; omega
   simp (disch := omega) only [if_pos, e]
   refine (ih _ ?_).eq (by rw [step_in c]; rfl)
   rw [ba_size, ba_size]; show _ + (_ + 1) + _ ≤ _; omega
  ·simp only [decide_eq_false (fun h => c ((hs n).1 h)), Bool.false_eq_true, if_false]
   exact (ih acc (by omega)).eq (by rw [step_out c])
structure InvN (l : List TSisLib) (a : ByteArray) (i : Int) (s : List ByteArray) : Prop where
 nd : s.Nodup
 rc : ∀ n ∈ s, Reach l a n
 me : a ∈ s
 lo : 0 ≤ i
 hi : i ≤ (s.length : Int)
 cl : ∀ n ∈ s.take i.toNat, ∀ m ∈ (libOf l n).vNeeds, m ∈ s
theorem need_spec {l : List TSisLib} {a : ByteArray} (hl : SmlT l) (hl8 : l.length ≤ 8) (ha : a ∈ namesOf l) (hn : ∀ x ∈ l, ∀ n ∈ x.vNeeds, n ∈ namesOf l) :
  Evs (fun k => spec_l63Needs.f k l a) (fun s => s.length ≤ 8 ∧ ∀ n, n ∈ s ↔ Reach l a n) := by
 have hnl : (namesOf l).length = l.length := by simp [namesOf]
 have len : ∀ {i : Int} {s : List ByteArray}, InvN l a i s → s.length ≤ 8 := fun h => by
  have := nodup_len h.nd (fun x hx => reach_names ha hn (h.rc x hx))
  omega
 have main : ∀ (m : Nat) (i : Int) (s : List ByteArray), InvN l a i s → 8 - i ≤ m → Evs (fun k => spec_l63Needs.l3 k l i s) (fun s => s.length ≤ 8 ∧ ∀ n, n ∈ s ↔ Reach l a n) := by
  intro m
  induction m with
  | zero =>
   intro i s hI hm
   have h8 := len hI
   have := hI.hi
   refine Evs.shift ?_
   simp (disch := omega) only [spec_l63Needs.l3, if_neg]
   refine Evs.now ⟨h8, fun n => ⟨hI.rc n, fun h => reach_in hI.me (fun x hx => ?_) h⟩⟩
   exact hI.cl x (by rw [List.take_of_length_le (by omega)]; exact hx)
  | succ m ih =>
   intro i s hI hm
   have h8 := len hI
   have hhi := hI.hi
   have hlo := hI.lo
   by_cases c : i < (s.length : Int)
   ·obtain ⟨j, rfl⟩ : ∃ j : Nat, i = j := ⟨i.toNat, by omega⟩
    have hj : j < s.length := by omega
    have hg : s.getD (j : Int).toNat ByteArray.empty = s[j] := by
     rw [Int.toNat_natCast, List.getD_eq_getElem?_getD, List.getElem?_eq_getElem hj]; rfl
    have hmem : s[j] ∈ namesOf l := reach_names ha hn (hI.rc _ (List.getElem_mem hj))
    obtain ⟨b1, b2, b3, b4⟩ := lib_at hmem
    have hnd := hl.1.2 _ b3
    refine Evs.shift ?_
    simp (disch := omega) only [spec_l63Needs.l3, if_pos, hg]
    refine Evs.bind (P := fun r => r = atF (namesOf l) s[j] 0) ⟨_, rfl, libAt_spec l s[j] hl.1.1⟩ fun r hr => ?_
    subst hr
    have e : rdAt zTSisLib l (atF (namesOf l) s[j] 0) = libOf l s[j] := rfl
    simp (disch := omega) only [if_pos, e]
    generalize hN : (libOf l s[j]).vNeeds = N at hnd
    have inner : ∀ t : List ByteArray, InvN l a j t → t.take (j + 1) = s.take (j + 1) → Evs (fun k => spec_l63Needs.l7 k l j N 0 t) (fun s => s.length ≤ 8 ∧ ∀ n, n ∈ s ↔ Reach l a n) := by
     refine goList N (P := fun q suf => ∀ t : List ByteArray, InvN l a j t → t.take (j + 1) = s.take (j + 1) → (∀ x ∈ N.take q.toNat, x ∈ t) → Evs (fun k => spec_l63Needs.l7 k l j N q t) (fun s => s.length ≤ 8 ∧ ∀ n, n ∈ s ↔ Reach l a n)) ?_ ?_ |> fun h t h1 h2 => h t h1 h2 (fun x hx => by simp at hx)
     ·intro t hT htk hall
      rw [Int.toNat_natCast, List.take_of_length_le (Nat.le_refl _)] at hall
      refine Evs.shift ?_
      simp (disch := omega) only [spec_l63Needs.l7, if_neg, w64]
      have hlt : j + 1 ≤ t.length := by
       have := congrArg List.length htk
       rw [List.length_take, List.length_take] at this
       omega
      refine ih ((j : Int) + 1) t ⟨hT.nd, hT.rc, hT.me, by omega, by omega, fun n hx m hm => ?_⟩ (by omega)
      rw [show ((j : Int) + 1).toNat = j + 1 by omega, htk, List.take_succ_eq_append_getElem hj] at hx
      rcases List.mem_append.1 hx with hx | hx
      ·refine hT.cl n ?_ m hm
       rw [Int.toNat_natCast]
       have h1 : t.take j = s.take j := by
        have := congrArg (List.take j) htk
        rwa [List.take_take, List.take_take, Nat.min_eq_left (Nat.le_succ j)] at this
       rw [h1]; exact hx
      ·rw [List.mem_singleton.1 hx, hN] at hm
       exact hall m hm
     ·intro q x r q0 q1 hx hm _ _ htake ihq t hT htk hall
      have h8t := len hT
      refine Evs.shift ?_
      simp (disch := omega) only [spec_l63Needs.l7, if_pos, hx, w64]
      refine Evs.bind (P := fun b => b = decide (x ∈ t)) ⟨_, rfl, has_spec t x (by omega)⟩ fun b hb => ?_
      subst hb
      by_cases cc : x ∈ t
      ·simp only [decide_eq_true cc, not_true, if_false]
       refine ihq t hT htk fun y hy => ?_
       rw [show (q + 1).toNat = q.toNat + 1 by omega, htake] at hy
       rcases List.mem_append.1 hy with hy | hy
       ·exact hall y hy
       ·rw [List.mem_singleton.1 hy]; exact cc
      ·simp (disch := (simp only [List.length_singleton]; omega)) only [decide_eq_false cc, Bool.false_eq_true, not_false_eq_true, if_true, if_pos]
       have hjt : j < t.length := by
        have := congrArg List.length htk
        rw [List.length_take, List.length_take] at this
        omega
       refine ihq (t ++ [x]) ⟨?_, fun n hn' => ?_, List.mem_append_left _ hT.me, hT.lo, ?_, fun n hn' m hm' => ?_⟩ ?_ fun y hy => ?_
       ·exact List.nodup_append.2 ⟨hT.nd, by simp, fun p hp b hb e => by rw [List.mem_singleton.1 hb] at e; exact cc (e ▸ hp)⟩
       ·rcases List.mem_append.1 hn' with h | h
        ·exact hT.rc n h
        ·rw [List.mem_singleton.1 h]
         exact .step s[j] x (hI.rc _ (List.getElem_mem hj)) (by rw [hN]; exact hm)
       ·have := hT.hi; rw [List.length_append, List.length_singleton]; omega
       ·rw [Int.toNat_natCast, List.take_append_of_le_length (by omega)] at hn'
        exact List.mem_append_left _ (hT.cl n (by rw [Int.toNat_natCast]; exact hn') m hm')
       ·rw [List.take_append_of_le_length (by omega)]; exact htk
       ·rw [show (q + 1).toNat = q.toNat + 1 by omega, htake] at hy
        rcases List.mem_append.1 hy with hy | hy
        ·exact List.mem_append_left _ (hall y hy)
        ·exact List.mem_append_right _ hy
    exact inner s hI rfl
   ·refine Evs.shift ?_
    simp (disch := omega) only [spec_l63Needs.l3, if_neg]
    refine Evs.now ⟨h8, fun n => ⟨hI.rc n, fun h => reach_in hI.me (fun x hx => ?_) h⟩⟩
    exact hI.cl x (by rw [List.take_of_length_le (by omega)]; exact hx)
 simp only [spec_l63Needs.f]
 exact main 8 0 [a] ⟨by simp, fun n hn' => by rw [List.mem_singleton.1 hn']; exact .here, by simp, by omega, by simp, fun n hn' => by simp at hn'⟩ (by omega)
theorem marks_impl {l : List TSisLib} {a : ByteArray} (hl : SmlT l) (hl8 : l.length ≤ 8) (hd : (namesOf l).Nodup) (ha : a ∈ namesOf l) (hn : ∀ x ∈ l, ∀ n ∈ x.vNeeds, n ∈ namesOf l) {o : List ByteArray} (ht : Topo l o) (hol : o.length = l.length) (hall : ∀ n ∈ namesOf l, n ∈ o) :
  Ev (fun k => impl_SisLink.l8 k l ((o.length : Int) - 1) o [a] [true]) (o.foldl (stepT l a) e0, 0) := by
 refine goBack o (P := fun i pre => ∀ (suf ks : List ByteArray) (vs : List Bool), o = pre ++ suf → AllT ks vs → (∀ n ∈ ks, Reach l a n) → a ∈ ks → (∀ y ∈ suf, y ∈ ks → ∀ n ∈ (libOf l y).vNeeds, n ∈ ks) → Ev (fun k => impl_SisLink.l8 k l i o ks vs) (o.foldl (stepT l a) e0, 0)) ?_ ?_ [] [a] [true] (by simp) rfl (fun n h => by rw [List.mem_singleton.1 h]; exact .here) (by simp) (fun y h => by cases h)
 ·intro suf ks vs ho hv hr hme hcl
  refine Ev.shift ?_
  simp (disch := omega) only [impl_SisLink.l8, if_neg]
  refine shown_impl hl o ks vs hv ht.sub (by omega) fun n => ⟨hr n, fun h => ?_⟩
  rw [List.nil_append] at ho
  exact reach_in hme (fun x hx => hcl x (by rw [← ho]; exact hall x (reach_names ha hn (hr x hx))) hx) h
 ·intro i x r h0 h1 hx hm hi _ ih suf ks vs ho hv hr hme hcl
  have hx' : o.getD i.toNat ByteArray.empty = x := hx _
  refine Ev.shift ?_
  simp (disch := omega) only [impl_SisLink.l8, if_pos, hx', w64, get_t hv]
  have ho' : o = r ++ (x :: suf) := by rw [ho, List.append_assoc]; rfl
  have hxn : x ∈ namesOf l := ht.sub x hm
  obtain ⟨b1, b2, b3, b4⟩ := lib_at hxn
  by_cases c : x ∈ ks
  ·simp (disch := omega) only [decide_eq_true c, if_true, if_pos]
   refine Ev.bind (sisAt_impl l x hl.1.1) ?_
   have e : rdAt zTSisLib l (atF (namesOf l) x 0) = libOf l x := rfl
   simp (disch := omega) only [if_pos, e]
   have hnd := hl.1.2 _ b3
   have hbef := ht.needs hd (libOf l x) b3 (by rw [b4]; exact hm)
   rw [b4] at hbef
   generalize hN : (libOf l x).vNeeds = N at hnd hbef
   have inner : ∀ (ks' : List ByteArray) (vs' : List Bool), AllT ks' vs' → (∀ z ∈ ks', z ∈ ks ∨ z ∈ N) → (∀ z ∈ ks, z ∈ ks') → Ev (fun k => impl_SisLink.l12 k l i N (N.length : Int) 0 o ks' vs') (o.foldl (stepT l a) e0, 0) := by
    refine goList N (P := fun q sf => ∀ (ks' : List ByteArray) (vs' : List Bool), AllT ks' vs' → (∀ z ∈ ks', z ∈ ks ∨ z ∈ N) → (∀ z ∈ ks, z ∈ ks') → (∀ z ∈ N.take q.toNat, z ∈ ks') → Ev (fun k => impl_SisLink.l12 k l i N (N.length : Int) q o ks' vs') (o.foldl (stepT l a) e0, 0)) ?_ ?_ |> fun h ks' vs' h1 h2 h3 => h ks' vs' h1 h2 h3 (fun z hz => by simp at hz)
    ·intro ks' vs' hv' hsub hsup hN'
     rw [Int.toNat_natCast, List.take_of_length_le (Nat.le_refl _)] at hN'
     refine Ev.shift ?_
     simp (disch := omega) only [impl_SisLink.l12, if_neg, w64]
     refine ih (x :: suf) ks' vs' ho' hv' (fun n hn' => ?_) (hsup a hme) (fun y hy hyk n hny => ?_)
     ·rcases hsub n hn' with h | h
      ·exact hr n h
      ·exact .step x n (hr x c) (by rw [hN]; exact h)
     ·rcases List.mem_cons.1 hy with h | h
      ·subst h; rw [hN] at hny; exact hN' n hny
      ·rcases hsub y hyk with h' | h'
       ·exact hsup n (hcl y h h' n hny)
       ·exfalso
        have hb := (hbef y h').2
        have hnodup := ht.nodup
        rw [ho'] at hnodup hb
        rw [List.nodup_append] at hnodup
        obtain ⟨n1, n2, n3⟩ := hnodup
        have hyr : y ∉ r := fun hr' => n3 y hr' y (List.mem_cons_of_mem _ h) rfl
        have hxr : x ∉ r := fun hr' => n3 x hr' x List.mem_cons_self rfl
        rw [at_append, at_append, if_neg hyr, if_neg hxr] at hb
        have hyx : ¬ x = y := fun e => (List.nodup_cons.1 n2).1 (e ▸ h)
        rw [show atF (x :: suf) x (0 + (r.length : Int)) = 0 + (r.length : Int) from if_pos rfl, show atF (x :: suf) y (0 + (r.length : Int)) = atF suf y (0 + (r.length : Int) + 1) from if_neg hyx] at hb
        have := at_ge (i := 0 + (r.length : Int) + 1) h
        omega
    ·intro q z rr q0 q1 hz hmz _ _ htake ihq ks' vs' hv' hsub hsup hN'
     refine Ev.shift ?_
     simp (disch := omega) only [impl_SisLink.l12, if_pos, hz, w64]
     obtain ⟨p1, p2⟩ := put_t hv' z
     refine ihq _ _ p1 (fun y hy => ?_) (fun y hy => (p2 y).2 (.inl (hsup y hy))) (fun y hy => ?_)
     ·rcases (p2 y).1 hy with h | h
      ·exact hsub y h
      ·rw [h]; exact .inr hmz
     ·rw [show (q + 1).toNat = q.toNat + 1 by omega, htake] at hy
      rcases List.mem_append.1 hy with hy | hy
      ·exact (p2 y).2 (.inl (hN' y hy))
      ·exact (p2 y).2 (.inr (List.mem_singleton.1 hy))
   exact inner ks vs hv (fun z hz => .inl hz) (fun z hz => hz)
  ·simp only [decide_eq_false c, Bool.false_eq_true, if_false]
   refine ih (x :: suf) ks vs ho' hv hr hme (fun y hy hyk => ?_)
   rcases List.mem_cons.1 hy with h | h
   ·subst h; exact absurd hyk c
   ·exact hcl y h hyk
noncomputable def linkM (l : List TSisLib) (a : ByteArray) : ByteArray × Int :=
 if (orderM l).1 = 0 then if a ∈ namesOf l then ((orderM l).2.foldl (stepT l a) e0, 0) else (e0, 3) else (e0, (orderM l).1)
theorem link_spec {l : List TSisLib} (hl : SmlT l) (a : ByteArray) : Ev (fun k => spec_SisLink.f k l a) (linkM l a) := by
 simp only [spec_SisLink.f]
 refine Ev.bind (order_spec l hl.1) ?_
 by_cases c : (orderM l).1 = 0
 ·simp only [c, not_true, if_false]
  refine Ev.bind (libAt_spec l a hl.1.1) ?_
  have hneg := at_neg (n := a) (l := namesOf l) (i := 0) (by omega)
  obtain ⟨hw, ht, hlen, hall⟩ := order_zero c
  obtain ⟨w1, w2, w3, w4⟩ := wrong_zero hw
  by_cases d : a ∈ namesOf l
  ·have : ¬ atF (namesOf l) a 0 < 0 := fun h => hneg.1 h d
   simp only [if_neg this]
   obtain ⟨s, ⟨s1, s2⟩, s3⟩ := need_spec hl w1 d w4
   refine Ev.bind s3 ?_
   exact (shown_spec hl (orderM l).2 s ht.sub (by omega) (by omega) s2).eq (by rw [linkM, if_pos c, if_pos d])
  ·simp only [if_pos (hneg.2 d)]
   exact (Ev.now _).eq (by rw [linkM, if_pos c, if_neg d]; rfl)
 ·simp only [c, not_false_eq_true, if_true]
  exact (Ev.now _).eq (by rw [linkM, if_neg c]; rfl)
theorem link_impl {l : List TSisLib} (hl : SmlT l) (a : ByteArray) : Ev (fun k => impl_SisLink.f k l a) (linkM l a) := by
 simp only [impl_SisLink.f]
 refine Ev.bind (order_impl l hl.1) ?_
 by_cases c : (orderM l).1 = 0
 ·simp only [c, not_true, if_false]
  refine Ev.bind (sisAt_impl l a hl.1.1) ?_
  have hneg := at_neg (n := a) (l := namesOf l) (i := 0) (by omega)
  obtain ⟨hw, ht, hlen, hall⟩ := order_zero c
  obtain ⟨w1, w2, w3, w4⟩ := wrong_zero hw
  by_cases d : a ∈ namesOf l
  ·have : ¬ atF (namesOf l) a 0 < 0 := fun h => hneg.1 h d
   simp (disch := omega) only [if_neg this, w64]
   exact (marks_impl hl w1 w3 d w4 ht hlen hall).eq (by rw [linkM, if_pos c, if_pos d])
  ·simp only [if_pos (hneg.2 d)]
   exact (Ev.now _).eq (by rw [linkM, if_pos c, if_neg d]; rfl)
 ·simp only [c, not_false_eq_true, if_true]
  exact (Ev.now _).eq (by rw [linkM, if_neg c]; rfl)
end Go.Proofs.Ytmcbhnbemhfifaa.RX
end
section
namespace Go.Proofs.Ytmcbhnbemhfifaa.RX
open Go K
set_option autoImplicit false
set_option linter.unusedVariables false
set_option linter.unusedSimpArgs false
def Rdr (b : List Int) : Prop := b.length ≤ 2000 ∧ ∀ x ∈ b, 0 ≤ x ∧ x ≤ 255
theorem Rdr.rd {b : List Int} (h : Rdr b) (i : Int) : 0 ≤ rdAt 0 b i ∧ rdAt 0 b i ≤ 255 := by
 unfold rdAt
 rw [List.getD_eq_getElem?_getD]
 cases hi : b[i.toNat]? with
 | none => simp
 | some x => exact h.2 x (List.mem_of_getElem? hi)
theorem pick_ok {b : List Int} {p : Int} (n : Int) (hb : Rdr b) (h0 : 0 ≤ p) (hp : p ≤ 1099511627776) :
  Evs (fun k => spec_l1Rd_pick.f k n b p) (fun r => r.2 = (b, p + 1) ∧ 0 ≤ r.1 ∧ (1 ≤ n → r.1 < n) ∧ (n < 1 → r.1 = 0)) := by
 by_cases hn : n < 1
 ·simp (disch := omega) only [spec_l1Rd_pick.f, if_pos, w64]
  exact Evs.now ⟨rfl, by omega, by omega, fun _ => rfl⟩
 by_cases hl : (b.length : Int) = 0
 ·simp (disch := omega) only [spec_l1Rd_pick.f, if_pos, if_neg, w64]
  exact Evs.now ⟨rfl, by omega, by omega, by omega⟩
 have hL : (0 : Int) < (b.length : Int) := by omega
 by_cases hlt : p < (b.length : Int)
 ·have := hb.rd p
  simp (disch := omega) only [spec_l1Rd_pick.f, spec_l1Rd_pick.j4, if_pos, if_neg, w64, Int.add_sub_cancel]
  obtain ⟨h1, h2⟩ := tmod_range (x := rdAt 0 b p) (n := n) (by omega) (by omega)
  exact Evs.now ⟨rfl, h1, fun _ => h2, by omega⟩
 ·obtain ⟨a1, a2⟩ := tmod_range (x := p) (n := (b.length : Int)) h0 hL
  obtain ⟨b1, b2⟩ := tmod_range (x := p * 7 + 3) (n := (b.length : Int)) (by omega) hL
  obtain ⟨c1, c2⟩ := hb.rd (p.tmod (b.length : Int))
  obtain ⟨d1, d2⟩ := hb.rd ((p * 7 + 3).tmod (b.length : Int))
  obtain ⟨e1, e2⟩ := tdiv_range (x := p) (n := (b.length : Int)) h0 (by omega)
  simp (disch := omega) only [spec_l1Rd_pick.f, spec_l1Rd_pick.j4, if_pos, if_neg, w64, Int.add_sub_cancel]
  refine Evs.now ⟨rfl, Int.tmod_nonneg _ ?_, fun _ => Int.tmod_lt_of_pos _ (by omega), by omega⟩
  generalize rdAt 0 b (p.tmod (b.length : Int)) = A at c1 c2 ⊢
  generalize rdAt 0 b ((p * 7 + 3).tmod (b.length : Int)) = C at d1 d2 ⊢
  generalize p.tdiv (b.length : Int) = D at e1 e2 ⊢
  obtain ⟨f1, f2⟩ := tdiv_range (x := A * 131 + C * 1117 + p * 29 + D * 53) (n := 64) (by omega) (by omega)
  simp (disch := omega) only [w64]
  exact xor_range (by omega) (by omega) f1 (by omega)
theorem of_ok {b : List Int} {p : Int} (l : List ByteArray) (hb : Rdr b) (h0 : 0 ≤ p) (hp : p ≤ 1099511627776) (hl : 1 ≤ (l.length : Int)) :
  Evs (fun k => spec_l1Rd_of.f k l b p) (fun r => r.2 = (b, p + 1) ∧ r.1 ∈ l) := by
 simp only [spec_l1Rd_of.f]
 refine Evs.bind (pick_ok (l.length : Int) hb h0 hp) fun r ⟨h1, h2, h3, _⟩ => ?_
 have := h3 hl
 simp (disch := omega) only [if_pos]
 exact Evs.now ⟨h1, rdAt_mem _ _ _ h2 this⟩
theorem open_ok (l : List Int) (hw : ∀ x ∈ l, 0 ≤ x ∧ x ≤ 255) : Evs (fun k => spec_l1Open.f k l) (fun r => Rdr r.1 ∧ r.2 = 0) := by
 by_cases h : 2000 < (l.length : Int)
 ·simp (disch := omega) only [spec_l1Open.f, if_pos, List.drop_zero]
  exact Evs.now ⟨⟨by rw [List.length_take]; omega, fun x hx => hw x (List.mem_of_mem_take hx)⟩, rfl⟩
 ·simp (disch := omega) only [spec_l1Open.f, if_neg]
  exact Evs.now ⟨⟨by show l.length ≤ 2000; omega, hw⟩, rfl⟩
end Go.Proofs.Ytmcbhnbemhfifaa.RX
end
section
namespace Go.Proofs.Ytmcbhnbemhfifaa.RX
open Go K
set_option autoImplicit false
set_option linter.unusedVariables false
set_option linter.unusedSimpArgs false
def LibOK (x : TSisLib) : Prop := (x.vNeeds.length : Int) ≤ 100 ∧ x.vText.size ≤ 1000
def LibS (x : TSisLib) : Prop := (x.vNeeds.length : Int) ≤ 50 ∧ x.vText.size ≤ 1000
theorem LibS.ok {x : TSisLib} (h : LibS x) : LibOK x := ⟨by have := h.1; omega, h.2⟩
def Drawn (b : List Int) (r : List Int × Int × List TSisLib) : Prop := r.1 = b ∧ 0 ≤ r.2.1 ∧ r.2.1 ≤ 1000 ∧ r.2.2.length ≤ 9 ∧ ∀ x ∈ r.2.2, LibOK x
def names5 : List ByteArray := [(ByteArray.mk #[97]), (ByteArray.mk #[98]), (ByteArray.mk #[99, 57]), (ByteArray.mk #[100]), (ByteArray.mk #[101, 101])]
theorem names5_size : ∀ s ∈ names5, s.size ≤ 2 := by
 intro s h
 simp only [names5, List.mem_cons, List.not_mem_nil, or_false] at h
 rcases h with h | h | h | h | h <;> (rw [h]; decide)
theorem strOf_one (c : Int) : (strOf [c]).size = 1 := by rfl
theorem mem_swapL {α : Type} {d : α} {xs : List α} {i k : Nat} (hi : i < xs.length) (hk : k < xs.length) {x : α} (h : x ∈ swapL d xs i k) : x ∈ xs := by
 unfold swapL at h
 have e1 : xs.getD i d = xs[i] := by simp [List.getD_eq_getElem?_getD, hi]
 have e2 : xs.getD k d = xs[k] := by simp [List.getD_eq_getElem?_getD, hk]
 rw [e1, e2] at h
 rcases List.mem_or_eq_of_mem_set h with h | h
 ·rcases List.mem_or_eq_of_mem_set h with h | h
  ·exact h
  ·rw [h]; exact List.getElem_mem hk
 ·rw [h]; exact List.getElem_mem hi
theorem getD_mem {α : Type} {d : α} {xs : List α} {i : Int} (h0 : 0 ≤ i) (hi : i < (xs.length : Int)) : xs.getD i.toNat d ∈ xs := rdAt_mem d xs i h0 hi
theorem set_ok {xs : List TSisLib} {n : Nat} {y : TSisLib} (h : ∀ x ∈ xs, LibOK x) (hy : LibOK y) : ∀ x ∈ xs.set n y, LibOK x := by
 intro x hx
 rcases List.mem_or_eq_of_mem_set hx with h' | h'
 ·exact h x h'
 ·rw [h']; exact hy
theorem l31_ok {b : List Int} (hb : Rdr b) : ∀ (m : Nat) (i p : Int) (l : List TSisLib), 10 ≤ m + l.length → l.length ≤ 9 → 0 ≤ i → i + 1 ≤ l.length → 0 ≤ p → p ≤ 700 + l.length → (∀ x ∈ l, LibOK x) →
  Evs (fun k => spec_l65Libs.l31 k i b p l) (Drawn b) := by
 intro m
 induction m with
 | zero => intro i p l h1 h2; omega
 | succ m ih =>
  intro i p l h1 h2 h3 h4 h5 h6 h7
  refine Evs.shift ?_
  simp only [spec_l65Libs.l31]
  refine Evs.bind (pick_ok 2 hb h5 (by omega)) fun r ⟨r1, r2, r3, _⟩ => ?_
  have r3 := r3 (by omega)
  rw [r1]
  simp (disch := omega) only [w64]
  by_cases c : (l.length : Int) < 8 + r.1
  ·simp only [if_pos c]
   have hd : Ev (fun k => spec_l6Dec.f k i) (strOf [IntKind.u8.wrap (IntKind.i64.wrap (48 + i))]) := by
    refine Ev.shift ?_
    simp (disch := omega) only [spec_l6Dec.f, if_pos]
    exact Ev.now _
   refine Evs.bind (P := fun s => s.size = 1) ⟨_, strOf_one _, hd⟩ fun s hs => ?_
   have z : (ByteArray.mk #[122]).size = 1 := rfl
   have hl1 : l.length + [(TSisLib.mk ((ByteArray.mk #[122]) ++ s) [] ByteArray.empty)].length ≤ 2513169434916 := by simp only [List.length_singleton]; omega
   simp (disch := omega) only [if_pos]
   refine ih (i + 1) (p + 1) _ (by simp; omega) (by simp; omega) (by omega) (by simp; omega) (by omega) (by simp; omega) fun x hx => ?_
   rcases List.mem_append.1 hx with hx | hx
   ·exact h7 x hx
   ·rw [List.mem_singleton.1 hx]; exact ⟨by simp, by show 0 ≤ _; omega⟩
  ·simp only [if_neg c]
   exact Evs.now ⟨rfl, by show 0 ≤ p + 1; omega, by show p + 1 ≤ _; omega, h2, h7⟩
theorem l15_ok {b : List Int} (hb : Rdr b) (i p : Int) (l : List TSisLib) (h2 : l.length ≤ 5) (h3 : i < l.length) (h8 : -1 ≤ i) (h5 : 0 ≤ p) (h6 : p ≤ 600 - i) (h7 : ∀ x ∈ l, LibS x) :
  Evs (fun k => spec_l65Libs.l15 k i b p l) (Drawn b) := by
 refine goDown (P := fun i => ∀ (p : Int) (l : List TSisLib), l.length ≤ 5 → i < l.length → -1 ≤ i → 0 ≤ p → p ≤ 600 - i → (∀ x ∈ l, LibS x) → Evs (fun k => spec_l65Libs.l15 k i b p l) (Drawn b)) ?_ ?_ i p l h2 h3 h8 h5 h6 h7
 ·intro i hi p l h2 h3 h8 h5 h6 h7
  refine Evs.shift ?_
  simp (disch := omega) only [spec_l65Libs.l15, if_neg]
  by_cases c : (l.length : Int) = 0
  ·simp only [if_pos c]
   exact Evs.now ⟨rfl, h5, by show p ≤ 1000; omega, by show l.length ≤ 9; omega, fun x hx => (h7 x hx).ok⟩
  ·simp only [if_neg c]
   refine Evs.bind (pick_ok (l.length : Int) hb h5 (by omega)) fun r ⟨r1, r2, r3, _⟩ => ?_
   have r3 := r3 (by omega)
   rw [r1]
   refine Evs.bind (pick_ok 14 hb (p := p + 1) (by omega) (by omega)) fun q ⟨q1, q2, q3, _⟩ => ?_
   rw [q1]
   have hx := h7 _ (getD_mem (d := zTSisLib) r2 r3)
   by_cases c0 : q.1 = 0
   ·simp only [if_pos c0]
    refine Evs.bind (of_ok _ hb (p := p + 1 + 1) (by omega) (by omega) (by simp)) fun s ⟨s1, s2⟩ => ?_
    rw [s1]
    simp (disch := omega) only [if_pos]
    exact Evs.now ⟨rfl, by show 0 ≤ p + 1 + 1 + 1; omega, by show p + 1 + 1 + 1 ≤ 1000; omega, by show (l.set _ _).length ≤ 9; rw [List.length_set]; omega, set_ok (fun x hx => (h7 x hx).ok) ⟨by have := hx.1; show ((l.getD r.1.toNat zTSisLib).vNeeds.length : Int) ≤ 100; omega, hx.2⟩⟩
   ·simp only [if_neg c0]
    by_cases c1 : q.1 = 1
    ·simp (disch := omega) only [if_pos c1, spec_l65Libs.d28, if_pos]
     refine Evs.bind (of_ok _ hb (p := p + 1 + 1) (by omega) (by omega) (by simp)) fun s ⟨s1, s2⟩ => ?_
     rw [s1]
     have hl1 : (l.getD r.1.toNat zTSisLib).vNeeds.length + [s.1].length ≤ 8796093022208 := by have := hx.1; simp only [List.length_singleton]; omega
     simp (disch := omega) only [if_pos]
     refine Evs.now ⟨rfl, by show 0 ≤ p + 1 + 1 + 1; omega, by show p + 1 + 1 + 1 ≤ 1000; omega, by show (l.set _ _).length ≤ 9; rw [List.length_set]; omega, set_ok (fun x hx => (h7 x hx).ok) ⟨?_, hx.2⟩⟩
     have := hx.1
     show (((l.getD r.1.toNat zTSisLib).vNeeds ++ [s.1]).length : Int) ≤ 100
     rw [List.length_append, List.length_singleton]; omega
    ·simp only [if_neg c1]
     by_cases c2 : q.1 = 2
     ·simp only [if_pos c2]
      exact l31_ok hb 10 0 (p + 1 + 1) l (by omega) (by omega) (by omega) (by omega) (by omega) (by omega) (fun x hx => (h7 x hx).ok)
     ·simp only [if_neg c2]
      exact Evs.now ⟨rfl, by show 0 ≤ p + 1 + 1; omega, by show p + 1 + 1 ≤ 1000; omega, by show l.length ≤ 9; omega, fun x hx => (h7 x hx).ok⟩
 ·intro i hi ih p l h2 h3 h8 h5 h6 h7
  refine Evs.shift ?_
  simp (disch := omega) only [spec_l65Libs.l15, if_pos, w64]
  refine Evs.bind (pick_ok (i + 1) hb h5 (by omega)) fun r ⟨r1, r2, r3, _⟩ => ?_
  have r3 := r3 (by omega)
  rw [r1]
  simp (disch := omega) only [if_pos]
  have hs : (swapL zTSisLib l i.toNat r.1.toNat).length = l.length := by simp [swapL]
  exact ih (p + 1) _ (by rw [hs]; exact h2) (by rw [hs]; omega) (by omega) (by omega) (by omega) fun x hx => h7 x (mem_swapL (by omega) (by omega) hx)
theorem l4_ok {b : List Int} (hb : Rdr b) : ∀ (m : Nat) (i p : Int) (l : List TSisLib), 5 - i ≤ m → 0 ≤ i → i ≤ 5 → l.length ≤ i → 0 ≤ p → p ≤ 100 * i → (∀ x ∈ l, LibS x) →
  Evs (fun k => spec_l65Libs.l4 k i b p names5 l) (Drawn b) := by
 have h5 : (names5.length : Int) = 5 := rfl
 intro m
 induction m with
 | zero =>
  intro i p l g1 g2 g3 g4 g5 g6 g7
  refine Evs.shift ?_
  simp (disch := omega) only [spec_l65Libs.l4, if_neg, w64]
  exact l15_ok hb _ p l (by omega) (by omega) (by omega) g5 (by omega) g7
 | succ m ih =>
  intro i p l g1 g2 g3 g4 g5 g6 g7
  by_cases c : i < 5
  ·refine Evs.shift ?_
   simp (disch := omega) only [spec_l65Libs.l4, if_pos, w64]
   refine Evs.bind (pick_ok 4 hb g5 (by omega)) fun r ⟨r1, r2, r3, _⟩ => ?_
   rw [r1]
   by_cases c0 : r.1 = 0
   ·simp only [if_pos c0]
    exact ih (i + 1) (p + 1) l (by omega) (by omega) (by omega) (by omega) (by omega) (by omega) g7
   ·simp only [if_neg c0]
    have hs := names5_size _ (getD_mem (d := ByteArray.empty) g2 (by omega : i < (names5.length : Int)))
    have z1 : (ByteArray.mk #[40, 100, 101, 102, 105, 110, 101, 32]).size = 8 := rfl
    have z2 : (ByteArray.mk #[32, 49, 41, 32, 40, 100, 105, 115, 112, 108, 97, 121, 32]).size = 13 := rfl
    have z3 : (ByteArray.mk #[41]).size = 1 := rfl
    simp (disch := omega) only [spec_l65Libs.d7b, if_pos, ba_size]
    have inner : ∀ (n : Nat) (j q : Int) (nm tx : ByteArray) (nd : List ByteArray), i - j ≤ n → 0 ≤ j → j ≤ i → (nd.length : Int) ≤ j → tx.size ≤ 1000 → 0 ≤ q → q ≤ 100 * i + 1 + j →
      Evs (fun k => spec_l65Libs.l9 k i j b q names5 l nm tx nd) (Drawn b) := by
     intro n
     have fin : ∀ (j q : Int) (nm tx : ByteArray) (nd : List ByteArray), i ≤ j → 0 ≤ j → j ≤ i → (nd.length : Int) ≤ j → tx.size ≤ 1000 → 0 ≤ q → q ≤ 100 * i + 1 + j → Evs (fun k => spec_l65Libs.l9 k i j b q names5 l nm tx nd) (Drawn b) := by
      intro j q nm tx nd a1 a2 a3 a4 a5 a6 a7
      have hl1 : l.length + [TSisLib.mk nm nd tx].length ≤ 2513169434916 := by simp only [List.length_singleton]; omega
      refine Evs.shift ?_
      simp (disch := omega) only [spec_l65Libs.l9, if_neg, if_pos, w64]
      refine ih (i + 1) q _ (by omega) (by omega) (by omega) (by simp; omega) a6 (by omega) fun x hx => ?_
      rcases List.mem_append.1 hx with hx | hx
      ·exact g7 x hx
      ·rw [List.mem_singleton.1 hx]; exact ⟨by show (nd.length : Int) ≤ 50; omega, a5⟩
     induction n with
     | zero => intro j q nm tx nd a1; exact fin j q nm tx nd (by omega)
     | succ n ihn =>
      intro j q nm tx nd a1 a2 a3 a4 a5 a6 a7
      by_cases cj : j < i
      ·refine Evs.shift ?_
       simp (disch := omega) only [spec_l65Libs.l9, if_pos, w64]
       refine Evs.bind (pick_ok 3 hb a6 (by omega)) fun u ⟨u1, u2, u3, _⟩ => ?_
       rw [u1]
       by_cases cu : u.1 = 0
       ·simp (disch := omega) only [if_pos cu, if_pos]
        refine Evs.bind (P := fun _ => True) ⟨_, trivial, libAt_spec l _ (by omega)⟩ fun v _ => ?_
        by_cases cv : 0 ≤ v
        ·have hl1 : nd.length + [names5.getD j.toNat ByteArray.empty].length ≤ 8796093022208 := by simp only [List.length_singleton]; omega
         simp (disch := omega) only [if_pos cv, spec_l65Libs.d12b, if_pos, w64]
         exact ihn (j + 1) (q + 1) nm tx _ (by omega) (by omega) (by omega) (by simp; omega) a5 (by omega) (by omega)
        ·simp only [if_neg cv]
         exact ihn (j + 1) (q + 1) nm tx nd (by omega) (by omega) (by omega) (by omega) a5 (by omega) (by omega)
       ·simp only [if_neg cu]
        exact ihn (j + 1) (q + 1) nm tx nd (by omega) (by omega) (by omega) (by omega) a5 (by omega) (by omega)
      ·exact fin j q nm tx nd (by omega) a2 a3 a4 a5 a6 a7
    exact inner 5 0 (p + 1) _ _ [] (by omega) (by omega) (by omega) (by simp) (by simp only [ba_size]; omega) (by omega) (by omega)
  ·refine Evs.shift ?_
   simp (disch := omega) only [spec_l65Libs.l4, if_neg, w64]
   exact l15_ok hb _ p l (by omega) (by omega) (by omega) g5 (by omega) g7
theorem libs_ok {b : List Int} (hb : Rdr b) : Evs (fun k => spec_l65Libs.f k b 0) (Drawn b) := by
 simp only [spec_l65Libs.f]
 exact l4_ok hb 5 0 0 [] (by omega) (by omega) (by omega) (by simp) (by omega) (by omega) (fun x hx => by cases hx)
theorem Drawn.sml {b : List Int} {r : List Int × Int × List TSisLib} (h : Drawn b r) : SmlT r.2.2 :=
 ⟨⟨by have := h.2.2.2.1; omega, fun x hx => by have := (h.2.2.2.2 x hx).1; omega⟩, fun x hx => by have := (h.2.2.2.2 x hx).2; omega⟩
theorem draw_order (c : List Int) (hc : ∀ x ∈ c, 0 ≤ x ∧ x ≤ 255) : Evs (fun k => spec_DrawSisOrder.f k c) (fun l => SmlT l ∧ l.length ≤ 9) := by
 simp only [spec_DrawSisOrder.f]
 refine Evs.bind (open_ok c hc) fun r ⟨r1, r2⟩ => ?_
 rw [r2]
 refine Evs.bind (libs_ok r1) fun s hs => ?_
 exact Evs.now ⟨hs.sml, hs.2.2.2.1⟩
theorem draw_link (c : List Int) (hc : ∀ x ∈ c, 0 ≤ x ∧ x ≤ 255) : Evs (fun k => spec_DrawSisLink.f k c) (fun r => SmlT r.2) := by
 simp only [spec_DrawSisLink.f]
 refine Evs.bind (open_ok c hc) fun r ⟨r1, r2⟩ => ?_
 rw [r2]
 refine Evs.bind (libs_ok r1) fun s hs => ?_
 obtain ⟨e1, e2, e3, e4, e5⟩ := id hs
 rw [e1]
 by_cases c : 0 < (s.2.2.length : Int)
 ·simp only [if_pos c]
  refine Evs.bind (pick_ok 10 r1 e2 (by omega)) fun q ⟨q1, _⟩ => ?_
  rw [q1]
  by_cases d : 0 < q.1
  ·simp only [if_pos d]
   refine Evs.bind (pick_ok (s.2.2.length : Int) r1 (p := s.2.1 + 1) (by omega) (by omega)) fun u ⟨_, u2, u3, _⟩ => ?_
   have u3 := u3 (by omega)
   simp (disch := omega) only [if_pos]
   exact Evs.now hs.sml
  ·simp only [if_neg d]
   refine Evs.bind (of_ok _ r1 (p := s.2.1 + 1) (by omega) (by omega) (by simp)) fun u _ => ?_
   exact Evs.now hs.sml
 ·simp only [if_neg c]
  refine Evs.bind (of_ok _ r1 (p := s.2.1) (by omega) (by omega) (by simp)) fun u _ => ?_
  exact Evs.now hs.sml
end Go.Proofs.Ytmcbhnbemhfifaa.RX
end
section
namespace Go.Proofs.Ytmcbhnbemhfifaa.RX
open Go K
set_option autoImplicit false
set_option linter.unusedVariables false
set_option linter.unusedSimpArgs false
theorem link_end {l : List TSisLib} (a : ByteArray) : (linkM l a).2 ≠ 0 → (linkM l a).1 = ByteArray.mk #[] := by
 unfold linkM
 split
 ·split
  ·intro h; exact absurd rfl h
  ·intro _; rfl
 ·intro _; rfl
theorem tail_ok {d : List Int} (hd : ∀ x ∈ d, 0 ≤ x ∧ x ≤ 255) {l : List TSisLib} {c : Int} {o : List ByteArray} (h : (c = 0 → o.length = l.length) ∧ (c ≠ 0 → o = [])) :
  Evs (fun k => (spec_DrawSisLink.f k d).bind fun r1 => (impl_SisLink.f k r1.2 r1.1).bind fun r2 => (spec_SisLink.f k r1.2 r1.1).bind fun r3 =>
   if r2.1.toList = r3.1.toList then if r2.2 = r3.2 then if ¬ c = (0 : Int) then if (o.length : Int) = (0 : Int) then if r2.2 = (0 : Int) then some true else some (decide (r2.1.toList = (ByteArray.mk #[]).toList))
    else if c = (0 : Int) then if (o.length : Int) = (l.length : Int) then if r2.2 = (0 : Int) then some true else some (decide (r2.1.toList = (ByteArray.mk #[]).toList)) else some false else some false
    else if c = (0 : Int) then if (o.length : Int) = (l.length : Int) then if r2.2 = (0 : Int) then some true else some (decide (r2.1.toList = (ByteArray.mk #[]).toList)) else some false else some false
   else some false else some false) (fun b => b = true) := by
 refine Evs.bind (draw_link d hd) fun r hr => ?_
 refine Evs.bind (P := fun q => q = linkM r.2 r.1) ⟨_, rfl, link_impl hr r.1⟩ fun q hq => ?_
 subst hq
 refine Evs.bind (P := fun q => q = linkM r.2 r.1) ⟨_, rfl, link_spec hr r.1⟩ fun q hq => ?_
 subst hq
 have he := link_end (l := r.2) r.1
 by_cases c0 : c = 0
 ·have h1 : (o.length : Int) = (l.length : Int) := by rw [h.1 c0]
  simp only [if_true, c0, not_true, if_false, if_pos h1]
  by_cases z : (linkM r.2 r.1).2 = 0
  ·simp only [if_pos z]; exact Evs.now rfl
  ·simp only [if_neg z, he z, decide_true]; exact Evs.now rfl
 ·have h1 := h.2 c0
  subst h1
  simp only [if_true, c0, not_false_eq_true, List.length_nil, Int.natCast_zero, if_true]
  by_cases z : (linkM r.2 r.1).2 = 0
  ·simp only [if_pos z]; exact Evs.now rfl
  ·simp only [if_neg z, he z, decide_true]; exact Evs.now rfl
theorem law_pure (c d : List Int) (hc : ∀ x ∈ c, 0 ≤ x ∧ x ≤ 255) (hd : ∀ x ∈ d, 0 ≤ x ∧ x ≤ 255) : ∃ k, laws_FnSisOrder.f k c d = some true := by
 suffices h : Evs (fun k => laws_FnSisOrder.f k c d) (fun b => b = true) by
  obtain ⟨b, hb, e⟩ := h
  subst hb
  exact e.some
 by_cases c1 : (1048576 : Int) < (c.length : Int)
 ·simp only [laws_FnSisOrder.f, if_pos c1]; exact Evs.now rfl
 by_cases c2 : (1048576 : Int) < (d.length : Int)
 ·simp only [laws_FnSisOrder.f, if_neg c1, if_pos c2]; exact Evs.now rfl
 simp only [laws_FnSisOrder.f, if_neg c1, if_neg c2, laws_FnSisOrder.j3]
 refine Evs.bind (draw_order c hc) fun l ⟨hl, hl9⟩ => ?_
 refine Evs.bind (P := fun q => q = orderM l) ⟨_, rfl, order_impl l hl.1⟩ fun q hq => ?_
 subst hq
 refine Evs.bind (P := fun q => q = orderM l) ⟨_, rfl, order_spec l hl.1⟩ fun q hq => ?_
 subst hq
 simp only [not_true, if_false]
 have hol : ((orderM l).2.length : Int) ≤ 1000 := by
  by_cases z : (orderM l).1 = 0
  ·rw [(order_zero z).2.2.1]; omega
  ·rw [order_not z]; simp
 refine Evs.bind (P := fun q => q = true) ⟨_, by simp, texts_ok _ _ (by omega)⟩ fun q hq => ?_
 subst hq
 simp only [not_true, if_false, laws_FnSisOrder.j8]
 have hfin : ((orderM l).1 = 0 → (orderM l).2.length = l.length) ∧ ((orderM l).1 ≠ 0 → (orderM l).2 = []) := ⟨fun z => (order_zero z).2.2.1, order_not⟩
 have rounds : Evs (fun k => laws_FnSisOrder.l17 k d l (orderM l).1 0 (orderM l).2) (fun b => b = true) := by
  by_cases z : (orderM l).1 = 0
  ·obtain ⟨hw, ht, hlen, hall⟩ := order_zero z
   obtain ⟨w1, w2, w3, w4⟩ := wrong_zero hw
   refine goList l (P := fun i suf => Evs (fun k => laws_FnSisOrder.l17 k d l (orderM l).1 i (orderM l).2) (fun b => b = true)) ?_ ?_
   ·refine Evs.shift ?_
    have hno : ¬ ((l.length : Int) < (l.length : Int)) := by omega
    simp only [laws_FnSisOrder.l17, if_pos z, if_neg hno]
    exact (tail_ok hd hfin).congr fun k => by simp only [if_pos z]
   ·intro i x r h0 h1 hx hm _ _ _ ih
    refine Evs.shift ?_
    simp only [laws_FnSisOrder.l17, if_pos z, if_pos h1, laws_FnSisOrder.j19b, if_pos h0, hx]
    refine Evs.bind (P := fun q => q = atF (orderM l).2 x.vName 0) ⟨_, rfl, wvAt_ok _ _ (by omega)⟩ fun q hq => ?_
    subst hq
    have hin := hall x.vName (List.mem_map_of_mem hm)
    have hge := at_ge (i := 0) hin
    have hng : ¬ atF (orderM l).2 x.vName 0 < 0 := by omega
    simp only [if_neg hng]
    have hnd := hl.1.2 x hm
    have hneeds := ht.needs w3 x hm hin
    refine goList x.vNeeds (P := fun j suf => Evs (fun k => laws_FnSisOrder.l23 k d l (orderM l).1 i (atF (orderM l).2 x.vName 0) j (orderM l).2) (fun b => b = true)) ?_ ?_
    ·refine Evs.shift ?_
     simp (disch := omega) only [laws_FnSisOrder.l23, if_pos, hx, if_neg, w64]
     exact ih
    ·intro j n s j0 j1 hjx hjm _ _ _ ihj
     refine Evs.shift ?_
     simp (disch := omega) only [laws_FnSisOrder.l23, if_pos, hx, hjx, w64]
     refine Evs.bind (P := fun q => q = atF (orderM l).2 n 0) ⟨_, rfl, wvAt_ok _ _ (by omega)⟩ fun q hq => ?_
     subst hq
     have := (hneeds n hjm).2
     have hng : ¬ atF (orderM l).2 x.vName 0 ≤ atF (orderM l).2 n 0 := by omega
     simp only [if_neg hng]
     exact ihj
  ·refine Evs.shift ?_
   simp only [laws_FnSisOrder.l17, if_neg z]
   exact (tail_ok hd hfin).congr fun k => by simp only [if_neg z]
 refine goBack l (P := fun i pre => ∀ a : List TSisLib, a ++ pre.reverse = l.reverse → Evs (fun k => laws_FnSisOrder.l10 k d l (orderM l).1 i (orderM l).2 a) (fun b => b = true)) ?_ ?_ [] (by simp) |> fun h => by
  have e : IntKind.i64.wrap ((l.length : Int) - 1) = (l.length : Int) - 1 := w64 (by omega) (by omega)
  simpa only [e] using h
 ·intro a ha
  rw [List.reverse_nil, List.append_nil] at ha
  subst ha
  refine Evs.shift ?_
  have hno : ¬ (0 : Int) ≤ -1 := by omega
  simp only [laws_FnSisOrder.l10, if_neg hno]
  have hsr : SmlL l.reverse := ⟨by rw [List.length_reverse]; exact hl.1.1, fun x hx => hl.1.2 x (List.mem_reverse.1 hx)⟩
  refine Evs.bind (P := fun q => q = orderM l) ⟨_, rfl, (order_impl l.reverse hsr).eq (order_rev l)⟩ fun q hq => ?_
  subst hq
  simp only [not_true, if_false]
  refine Evs.bind (P := fun q => q = true) ⟨_, by simp, texts_ok _ _ (by omega)⟩ fun q hq => ?_
  subst hq
  simp only [not_true, if_false, laws_FnSisOrder.j16]
  exact rounds
 ·intro i x r h0 h1 hx hm hi _ ih a ha
  refine Evs.shift ?_
  have hal : a.length ≤ l.length := by
   have := congrArg List.length ha
   simp only [List.length_append, List.length_reverse] at this
   omega
  have hl1 : a.length + [x].length ≤ 2513169434916 := by simp only [List.length_singleton]; omega
  simp (disch := omega) only [laws_FnSisOrder.l10, if_pos, hx, w64]
  refine ih (a ++ [x]) ?_
  rw [List.append_assoc, ← ha, List.reverse_append]
  rfl
end Go.Proofs.Ytmcbhnbemhfifaa.RX
end
