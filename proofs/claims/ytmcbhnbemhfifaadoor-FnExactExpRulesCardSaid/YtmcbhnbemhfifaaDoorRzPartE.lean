/- FnExactExpRules: the law holds whatever the input.. -/
import Derived.Test.YtmcbhnbemhfifaaDoorRzPartD
set_option linter.unusedVariables false
set_option linter.unusedSimpArgs false
section
namespace Go.Proofs.YtmcbhnbemhfifaaDoor.RX
open Go K
set_option autoImplicit false
set_option linter.unusedVariables false
set_option linter.unusedSimpArgs false
theorem copy_got : ∀ x : TExpForm, wid x ≤ 1000000000 → Ev (fun k => impl_expCopy.f k x) (x.vSort, x.vText, x.vFrom, x.vScopes, x.vKids) := by
 refine indForm fun x ih hw => ?_
 have hp := wid_parts x
 refine Ev.shift ?_
 simp (disch := omega) only [impl_expCopy.f, if_pos, List.length_nil, Nat.zero_add, List.nil_append]
 refine Ev.eq (goList x.vKids (P := fun i suf => ∀ out : List TExpForm, (out.length : Int) = i → Ev (fun k => impl_expCopy.l4 k x.vKids (x.vKids.length : Int) i x.vSort x.vText x.vFrom out x.vScopes) (x.vSort, x.vText, x.vFrom, x.vScopes, out ++ suf)) ?_ ?_ [] rfl) (by simp)
 ·intro out ho
  refine Ev.shift ?_
  simp (disch := omega) only [impl_expCopy.l4, if_neg, List.append_nil]
  exact Ev.now _
 ·intro i y r h0 h1 hx hm hl _ _ ihr out ho
  have hy := wids_mem hm
  refine Ev.shift ?_
  simp (disch := omega) only [impl_expCopy.l4, if_pos, hx, eTExpForm_eq, w64, List.length_singleton]
  refine Ev.bind (ih y hm (by omega)) ?_
  simp (disch := omega) only [if_pos, mTExpForm]
  exact Ev.eq (ihr (out ++ [y]) (by simp; omega)) (by simp)
def dashF : TExpForm := ⟨1, ByteArray.mk #[95], [], 0, []⟩
def headed (p : TExpForm) : TExpForm := ⟨p.vSort, p.vText, p.vScopes, p.vFrom, p.vKids.set 0 dashF⟩
theorem wid_dash : wid dashF = 2 := by unfold dashF; rw [wid_c]; simp [wids]; rfl
theorem wids_set0 (l : List TExpForm) (y : TExpForm) : wids (l.set 0 y) ≤ wids l + wid y := by
 cases l with
 | nil => have := wid_pos y; simp; omega
 | cons x l => have := wid_pos x; simp only [List.set_cons_zero, wids]; omega
theorem wid_headed (p : TExpForm) : wid (headed p) ≤ wid p + 2 := by
 have h := wids_set0 p.vKids dashF
 rw [wid_dash] at h
 have := wid_mk p
 unfold headed
 rw [wid_c]
 omega
def kid (x : TExpForm) (i : Int) : TExpForm := rdAt zTExpForm x.vKids i
def patHead (p : TExpForm) : Bool := (decide (p.vSort = 3) || decide (p.vSort = 4)) && (!decide ((p.vKids.length : Int) = 0) && decide ((kid p 0).vSort = 1))
def ruleOf (lits : List TExpForm) (r : TExpForm) : Option TExpRule :=
 if r.vSort = 3 then (if (r.vKids.length : Int) = 2 then (if patHead (kid r 0) = true then (if patB (headed (kid r 0)) lits = true then some ⟨headed (kid r 0), kid r 1⟩ else none) else none) else none) else none
def rulesOf (lits : List TExpForm) : List TExpForm → Option (List TExpRule)
 | [] => some []
 | r :: l => (ruleOf lits r).bind fun a => (rulesOf lits l).map fun b => a :: b
def noRule : TExpRule := ⟨⟨0, ByteArray.empty, [], 0, []⟩, ⟨0, ByteArray.empty, [], 0, []⟩⟩
def ruleP (o : Option TExpRule) : TExpRule × Bool := match o with | some a => (a, true) | none => (noRule, false)
theorem getD0 (l : List TExpForm) : l.getD 0 zTExpForm = rdAt zTExpForm l 0 := rfl
theorem kid_wid (x : TExpForm) (i : Int) (h0 : 0 ≤ i) (h : i < (x.vKids.length : Int)) : wid (kid x i) < wid x := by
 have := wids_mem (rdAt_mem zTExpForm x.vKids i h0 h)
 have := wid_parts x
 unfold kid; omega
theorem rule_spec (lits : List TExpForm) (hl : Sml lits) (r : TExpForm) (hw : wid r ≤ 50000000) : Ev (fun k => spec_l4Rule.f k r lits) (ruleP (ruleOf lits r)) := by
 simp only [spec_l4Rule.f, ruleOf]
 by_cases h1 : r.vSort = 3
 ·simp only [h1, not_true_eq_false, if_false, if_true]
  by_cases h2 : (r.vKids.length : Int) = 2
  ·have q0 := kid_wid r 0 (by omega) (by omega)
   have q1 := kid_wid r 1 (by omega) (by omega)
   have q2 := wid_headed (kid r 0)
   have core : ¬ ((kid r 0).vKids.length : Int) = 0 → (kid r 0).vSort = 3 ∨ (kid r 0).vSort = 4 → (kid r 0).vSort = (kid r 0).vSort → (kid (kid r 0) 0).vSort = 1 → Ev (fun k => spec_l4Rule.j6 k lits r.vKids (kid r 0).vSort (kid r 0).vText (kid r 0).vFrom (kid r 0).vScopes (kid r 0).vKids) (ruleP (if patB (headed (kid r 0)) lits = true then some ⟨headed (kid r 0), kid r 1⟩ else none)) := by
    intro g1 _ _ g2
    simp (disch := omega) only [spec_l4Rule.j6, if_pos]
    refine Ev.bind (PatternOk_spec (headed (kid r 0)) lits (by omega) hl) ?_
    by_cases h3 : patB (headed (kid r 0)) lits = true
    ·simp (disch := omega) only [h3, not_true_eq_false, if_false, if_pos, spec_l4Rule.d9, eTExpForm_eq]
     refine Ev.bind (copy_all (kid r 1) (by omega)) ?_
     simp only [mTExpForm, ruleP]
     exact Ev.now _
    ·simp only [h3, not_false_eq_true, if_true, if_false, ruleP]
     exact Ev.now _
   simp (disch := omega) only [h2, not_true_eq_false, if_false, if_true, spec_l4Rule.j3, if_pos, eTExpForm_eq]
   refine Ev.bind (copy_all (kid r 0) (by omega)) ?_
   simp only [getD0]
   have fail : Ev (fun _ => some ((TExpRule.mk (TExpForm.mk (0 : Int) ByteArray.empty [] (0 : Int) []) (TExpForm.mk (0 : Int) ByteArray.empty [] (0 : Int) [])), false)) (ruleP none) := Ev.now _
   have tail : (kid r 0).vSort = 3 ∨ (kid r 0).vSort = 4 → Ev (fun k => if ((kid r 0).vKids.length : Int) = 0 then some ((TExpRule.mk (TExpForm.mk (0 : Int) ByteArray.empty [] (0 : Int) []) (TExpForm.mk (0 : Int) ByteArray.empty [] (0 : Int) [])), false) else (if ¬ (rdAt zTExpForm (kid r 0).vKids 0).vSort = 1 then some ((TExpRule.mk (TExpForm.mk (0 : Int) ByteArray.empty [] (0 : Int) []) (TExpForm.mk (0 : Int) ByteArray.empty [] (0 : Int) [])), false) else spec_l4Rule.j6 k lits r.vKids (kid r 0).vSort (kid r 0).vText (kid r 0).vFrom (kid r 0).vScopes (kid r 0).vKids)) (ruleP (if patHead (kid r 0) = true then (if patB (headed (kid r 0)) lits = true then some ⟨headed (kid r 0), kid r 1⟩ else none) else none)) := by
    intro hs
    have hd : (decide ((kid r 0).vSort = 3) || decide ((kid r 0).vSort = 4)) = true := by simpa using hs
    by_cases g1 : ((kid r 0).vKids.length : Int) = 0
    ·simp only [g1, if_true, patHead, decide_true, Bool.not_true, Bool.false_and, Bool.and_false, Bool.false_eq_true, if_false]; exact fail
    ·by_cases g2 : (kid (kid r 0) 0).vSort = 1
     ·have hp : patHead (kid r 0) = true := by unfold patHead; rw [hd, decide_eq_false g1, decide_eq_true g2]; rfl
      have g3 : (rdAt zTExpForm (kid r 0).vKids 0).vSort = 1 := g2
      simp (disch := omega) only [if_neg g1, if_pos, g3, hp, not_true_eq_false, if_false]
      exact core g1 hs rfl g2
     ·have hp : patHead (kid r 0) = false := by unfold patHead; rw [hd, decide_eq_false g1, decide_eq_false g2]; rfl
      have g3 : ¬ (rdAt zTExpForm (kid r 0).vKids 0).vSort = 1 := g2
      simp (disch := omega) only [if_neg g1, if_pos, g3, hp, not_false_eq_true, Bool.false_eq_true, if_false]
      exact fail
   by_cases s3 : (kid r 0).vSort = 3
   ·have := tail (Or.inl s3)
    simp only [s3, not_true_eq_false, if_false] at this ⊢
    exact this
   ·by_cases s4 : (kid r 0).vSort = 4
    ·have := tail (Or.inr s4)
     simp only [s4, s3, not_true_eq_false, not_false_eq_true, if_false, if_true, show ¬ (4 : Int) = 3 by decide] at this ⊢
     exact this
    ·have hp : patHead (kid r 0) = false := by unfold patHead; rw [decide_eq_false s3, decide_eq_false s4]; rfl
     simp only [s3, s4, hp, not_false_eq_true, if_true, Bool.false_eq_true, if_false]
     exact fail
  ·simp only [h2, not_false_eq_true, if_true, if_false]; exact Ev.now _
 ·simp only [h1, not_false_eq_true, if_true, if_false]; exact Ev.now _
def macP (lits : List TExpForm) (acc : List TExpRule) (o : Option (List TExpRule)) : TExpMacro × Bool := match o with | some b => (⟨lits, acc ++ b⟩, true) | none => (⟨[], []⟩, false)
theorem rules_spec (all lits : List TExpForm) (hl : Sml lits) (hw : wids all ≤ 50000000) : ∀ n : Nat, n ≤ all.length → ∀ acc : List TExpRule, (acc.length : Int) ≤ (n : Int) → Ev (fun k => spec_ExpRules.l5 k (n : Int) all lits acc) (macP lits acc (rulesOf lits (all.drop n))) := by
 have hlen := wids_len all
 refine goFrom all (P := fun i suf => ∀ acc : List TExpRule, (acc.length : Int) ≤ i → Ev (fun k => spec_ExpRules.l5 k i all lits acc) (macP lits acc (rulesOf lits suf))) ?_ ?_
 ·intro acc ha
  refine Ev.shift ?_
  simp (disch := omega) only [spec_ExpRules.l5, if_neg, rulesOf, macP, List.append_nil]
  exact Ev.now _
 ·intro i y r h0 h1 hx hm hlr _ _ ihr acc ha
  have hy := wids_mem hm
  refine Ev.shift ?_
  simp (disch := omega) only [spec_ExpRules.l5, if_pos, spec_ExpRules.d7b, hx, eTExpForm_eq, w64]
  refine Ev.bind (rule_spec lits hl y (by omega)) ?_
  cases h : ruleOf lits y with
  | none => simp only [ruleP, rulesOf, h, Option.bind_none, macP, Bool.false_eq_true, not_false_eq_true, if_true]; exact Ev.now _
  | some a =>
   simp (disch := first | omega | (simp; omega)) only [ruleP, rulesOf, h, Option.bind_some, not_true_eq_false, if_false, if_pos, mTExpRule]
   refine Ev.eq (ihr (acc ++ [a]) (by simp; omega)) ?_
   cases rulesOf lits r with
   | none => rfl
   | some b => simp [macP]
def implP (lits : List TExpForm) (acc : List TExpRule) (o : Option (List TExpRule)) : Bool × List TExpForm × List TExpRule := match o with | some b => (true, lits, acc ++ b) | none => (false, [], [])
theorem rule_got (lits : List TExpForm) (hl : Sml lits) (r : TExpForm) (hw : wid r ≤ 50000000) (G : Nat → Int → Int → List TExpForm → Int → List TExpForm → List TExpRule → Option (Bool × List TExpForm × List TExpRule)) (n i : Int) (all : List TExpForm) (b : Int) (acc : List TExpRule) (res : Bool × List TExpForm × List TExpRule)
  (h2 : (r.vKids.length : Int) = 2) (h1 : r.vSort = 3) (hb : 0 ≤ b) (hi : 0 ≤ i ∧ i ≤ 1000000000) (ha : (acc.length : Int) ≤ 800000000)
  (hG : ∀ a, ruleOf lits r = some a → Ev (fun k => G k n (i + 1) all b lits (acc ++ [a])) res) (hN : ruleOf lits r = none → res = (false, [], [])) :
  Ev (fun k => impl_ExpRules.j10b k (G k) n i all b lits acc r.vScopes r.vKids) res := by
 have q0 := kid_wid r 0 (by omega) (by omega)
 have q1 := kid_wid r 1 (by omega) (by omega)
 have q2 := wid_headed (kid r 0)
 have eb : ((b.toNat : Nat) : Int) = b := by omega
 have key : ∀ o, ruleOf lits r = o → o = ruleOf lits r := fun o h => h.symm
 have hr : ruleOf lits r = (if patHead (kid r 0) = true then (if patB (headed (kid r 0)) lits = true then some ⟨headed (kid r 0), kid r 1⟩ else none) else none) := by
  simp only [ruleOf, h1, h2, if_true]
 rw [hr] at hG hN
 have fail : (if patHead (kid r 0) = true then (if patB (headed (kid r 0)) lits = true then some (⟨headed (kid r 0), kid r 1⟩ : TExpRule) else none) else none) = none → Ev (fun _ : Nat => some ((false, [], []) : Bool × List TExpForm × List TExpRule)) res := fun h => Ev.eq (Ev.now _) (hN h).symm
 simp (disch := omega) only [impl_ExpRules.j10b, if_pos, getD0, eb]
 have core : patHead (kid r 0) = true → ((kid r 0).vKids.length : Int) ≠ 0 → Ev (fun k => impl_ExpRules.j13b k (G k) n i (kid r 0).vSort (kid r 0).vText (kid r 0).vFrom all b lits acc r.vScopes r.vKids (((0 + 1) : Nat) : Int) (kid r 0).vScopes (kid r 0).vKids) res := by
  intro hp hne
  simp (disch := omega) only [impl_ExpRules.j13b, if_pos, eb]
  refine Ev.bind (PatternOk_impl (headed (kid r 0)) lits (by omega) hl) ?_
  by_cases h3 : patB (headed (kid r 0)) lits = true
  ·have hg := hG ⟨headed (kid r 0), kid r 1⟩ (by simp only [hp, h3, if_true])
   simp (disch := first | omega | (simp; omega)) only [h3, not_true_eq_false, if_false, if_pos, impl_ExpRules.d16b, eTExpForm_eq, eb, w64]
   exact hg
  ·simp only [h3, not_false_eq_true, if_true]
   exact fail (by simp only [hp, h3, if_true]; rfl)
 have tail : (kid r 0).vSort = 3 ∨ (kid r 0).vSort = 4 → Ev (fun k => if ((kid r 0).vKids.length : Int) = 0 then some (false, [], []) else (if ¬ (rdAt zTExpForm (kid r 0).vKids 0).vSort = 1 then some (false, [], []) else impl_ExpRules.j13b k (G k) n i (kid r 0).vSort (kid r 0).vText (kid r 0).vFrom all b lits acc r.vScopes r.vKids (((0 + 1) : Nat) : Int) (kid r 0).vScopes (kid r 0).vKids)) res := by
  intro hs
  have hd : (decide ((kid r 0).vSort = 3) || decide ((kid r 0).vSort = 4)) = true := by simpa using hs
  by_cases g1 : ((kid r 0).vKids.length : Int) = 0
  ·simp only [g1, if_true]
   exact fail (by simp only [patHead, g1, decide_true, Bool.not_true, Bool.false_and, Bool.and_false, Bool.false_eq_true, if_false])
  ·by_cases g2 : (kid (kid r 0) 0).vSort = 1
   ·have hp : patHead (kid r 0) = true := by unfold patHead; rw [hd, decide_eq_false g1, decide_eq_true g2]; rfl
    have g3 : (rdAt zTExpForm (kid r 0).vKids 0).vSort = 1 := g2
    simp (disch := omega) only [if_neg g1, if_pos, g3, not_true_eq_false, if_false]
    exact core hp g1
   ·have hp : patHead (kid r 0) = false := by unfold patHead; rw [hd, decide_eq_false g1, decide_eq_false g2]; rfl
    have g3 : ¬ (rdAt zTExpForm (kid r 0).vKids 0).vSort = 1 := g2
    simp (disch := omega) only [if_neg g1, if_pos, g3, not_false_eq_true]
    exact fail (by simp only [hp, Bool.false_eq_true, if_false])
 have ek : rdAt zTExpForm r.vKids 0 = kid r 0 := rfl
 simp only [ek]
 by_cases s3 : (kid r 0).vSort = 3
 ·have := tail (Or.inl s3)
  simp only [s3, not_true_eq_false, if_false] at this ⊢
  exact this
 ·by_cases s4 : (kid r 0).vSort = 4
  ·have := tail (Or.inr s4)
   simp only [s4, s3, not_true_eq_false, not_false_eq_true, if_false, if_true, show ¬ (4 : Int) = 3 by decide] at this ⊢
   exact this
  ·have hp : patHead (kid r 0) = false := by unfold patHead; rw [decide_eq_false s3, decide_eq_false s4]; rfl
   simp only [s3, s4, not_false_eq_true, if_true]
   exact fail (by simp only [hp, Bool.false_eq_true, if_false])
theorem rules_got (all lits : List TExpForm) (hl : Sml lits) (hw : wids all ≤ 50000000) (h2 : 2 ≤ all.length) : Ev (fun k => impl_ExpRules.l6 k ((all.length - 2 : Nat) : Int) 0 all ((2 : Nat) : Int) lits []) (implP lits [] (rulesOf lits (all.drop 2))) := by
 have hlen := wids_len all
 have key := goFrom all (P := fun j suf => 2 ≤ j → ∀ acc : List TExpRule, (acc.length : Int) ≤ j → Ev (fun k => impl_ExpRules.l6 k ((all.length - 2 : Nat) : Int) (j - 2) all j lits acc) (implP lits acc (rulesOf lits suf))) ?_ ?_ 2 h2
 ·exact key (by omega) [] (by simp)
 ·intro hj acc ha
  refine Ev.shift ?_
  simp (disch := omega) only [impl_ExpRules.l6, if_neg, rulesOf, implP, List.append_nil]
  exact Ev.now _
 ·intro j y r h0 h1 hx hm hlr _ _ ihr hj acc ha
  have hy := wids_mem hm
  have e0 : 2 + (j - 2).toNat = j.toNat := by omega
  have hg : all.getD j.toNat zTExpForm = y := hx zTExpForm
  have e1 : (((j.toNat + 1) : Nat) : Int) = j + 1 := by omega
  refine Ev.shift ?_
  simp (disch := omega) only [impl_ExpRules.l6, if_pos, e0, hg, e1]
  by_cases s3 : y.vSort = 3
  ·by_cases k2 : (y.vKids.length : Int) = 2
   ·simp only [s3, k2, not_true_eq_false, if_false]
    refine rule_got lits hl y (by omega) (fun k => impl_ExpRules.l6 k) _ (j - 2) all (j + 1) acc _ k2 s3 (by omega) (by omega) (by omega) ?_ ?_
    ·intro a h
     have q := ihr (by omega) (acc ++ [a]) (by simp; omega)
     rw [show j + 1 - 2 = j - 2 + 1 by omega] at q
     refine Ev.eq q ?_
     simp only [rulesOf, h, Option.bind_some]
     cases rulesOf lits r with
     | none => rfl
     | some b => simp [implP]
    ·intro h
     simp only [rulesOf, h, Option.bind_none, implP]
   ·have h : ruleOf lits y = none := by unfold ruleOf; rw [if_pos s3, if_neg k2]
    simp only [s3, k2, not_true_eq_false, not_false_eq_true, if_false, if_true, rulesOf, h, Option.bind_none, implP]
    exact Ev.now _
  ·have h : ruleOf lits y = none := by unfold ruleOf; rw [if_neg s3]
   simp only [s3, not_false_eq_true, if_true, rulesOf, h, Option.bind_none, implP]
   exact Ev.now _
def rulesTop (x : TExpForm) : Bool := okb x && (decide (x.vSort = 3) && (!decide ((x.vKids.length : Int) < 2) && (decide ((kid x 0).vSort = 1) && (decide ((kid x 0).vText.toList = (ByteArray.mk #[115, 121, 110, 116, 97, 120, 45, 114, 117, 108, 101, 115]).toList) && (decide ((kid x 1).vSort = 3) && (kid x 1).vKids.all litOk)))))
def macOf (x : TExpForm) : TExpMacro × Bool := if rulesTop x = true then macP (kid x 1).vKids [] (rulesOf (kid x 1).vKids (x.vKids.drop 2)) else (⟨[], []⟩, false)
theorem macro_spec (x : TExpForm) (hw : wid x ≤ 40000000) : Ev (fun k => spec_ExpRules.f k x) (macOf x) := by
 have fail : ∀ l, rulesTop x = false → Ev (fun k => spec_ExpRules.j2 k true l) (macOf x) := by
  intro l h
  simp only [spec_ExpRules.j2, if_true, macOf, h, Bool.false_eq_true, if_false]
  exact Ev.now _
 have e0 : rdAt zTExpForm x.vKids 0 = kid x 0 := rfl
 have e1 : rdAt zTExpForm x.vKids 1 = kid x 1 := rfl
 simp only [spec_ExpRules.f, eTExpForm_eq, e0, e1]
 refine Ev.bind (formOk_spec x (by omega)) ?_
 by_cases h1 : okb x = true
 ·by_cases h2 : x.vSort = 3
  ·by_cases h3 : (x.vKids.length : Int) < 2
   ·simp only [h1, h2, h3, not_true_eq_false, if_false, if_true]; exact fail x.vKids (by simp only [rulesTop, h3, decide_true, Bool.not_true, Bool.false_and, Bool.and_false])
   ·by_cases h4 : (kid x 0).vSort = 1
    ·by_cases h5 : (kid x 0).vText.toList = (ByteArray.mk #[115, 121, 110, 116, 97, 120, 45, 114, 117, 108, 101, 115]).toList
     ·by_cases h6 : (kid x 1).vSort = 3
      ·have q1 := kid_wid x 1 (by omega) (by omega)
       have q2 := wid_parts (kid x 1)
       have q3 := wid_parts x
       have sl : Sml (kid x 1).vKids := Sml.of (by omega)
       simp (disch := omega) only [h1, h2, if_neg h3, h4, h5, h6, not_true_eq_false, if_false, if_pos]
       refine Ev.bind (lits_spec _ sl) ?_
       by_cases h7 : (kid x 1).vKids.all litOk = true
       ·have ht : rulesTop x = true := by simp only [rulesTop, h1, h2, h3, h4, h5, h6, h7, decide_true, decide_false, Bool.not_false, Bool.and_self]
        simp (disch := omega) only [h7, not_true_eq_false, decide_false, spec_ExpRules.j2, Bool.false_eq_true, if_false, if_pos, e1, macOf, ht]
        refine Ev.bind (copies_all _ (by omega)) ?_
        exact rules_spec x.vKids (kid x 1).vKids sl (by omega) 2 (by omega) [] (by simp)
       ·simp only [h7, Bool.false_eq_true, not_false_eq_true, decide_true]; exact fail x.vKids (by simp only [rulesTop, h7, Bool.and_false])
      ·simp (disch := omega) only [h1, h2, if_neg h3, h4, h5, h6, not_true_eq_false, not_false_eq_true, if_true, if_false, if_pos]; exact fail x.vKids (by simp only [rulesTop, h6, decide_false, Bool.false_and, Bool.and_false])
     ·simp (disch := omega) only [h1, h2, if_neg h3, h4, h5, not_true_eq_false, not_false_eq_true, if_true, if_false, if_pos]; exact fail x.vKids (by simp only [rulesTop, h5, decide_false, Bool.false_and, Bool.and_false])
    ·simp (disch := omega) only [h1, h2, if_neg h3, h4, not_true_eq_false, not_false_eq_true, if_true, if_false, if_pos]; exact fail x.vKids (by simp only [rulesTop, h4, decide_false, Bool.false_and, Bool.and_false])
  ·simp only [h1, h2, not_true_eq_false, not_false_eq_true, if_true, if_false]; exact fail x.vKids (by simp only [rulesTop, h2, decide_false, Bool.false_and, Bool.and_false])
 ·simp only [h1, not_false_eq_true, if_true]; exact fail x.vKids (by simp only [rulesTop, h1, Bool.false_and])
theorem macro_got (x : TExpForm) (hw : wid x ≤ 40000000) : Ev (fun k => impl_ExpRules.f k x) ((macOf x).2, (macOf x).1.vLiterals, (macOf x).1.vRules) := by
 have fail : ∀ a b c d l, rulesTop x = false → Ev (fun k => impl_ExpRules.j2 k true a b c d l) ((macOf x).2, (macOf x).1.vLiterals, (macOf x).1.vRules) := by
  intro a b c d l h
  simp only [impl_ExpRules.j2, if_true, macOf, h, Bool.false_eq_true, if_false]
  exact Ev.now _
 have e0 : rdAt zTExpForm x.vKids 0 = kid x 0 := rfl
 have e1 : rdAt zTExpForm x.vKids 1 = kid x 1 := rfl
 have e2 : x.vKids.getD 1 zTExpForm = kid x 1 := rfl
 simp only [impl_ExpRules.f, eTExpForm_eq, e0, e1, impl_expIs.f]
 refine Ev.bind (formOk_impl x (by omega)) ?_
 by_cases h1 : okb x = true
 ·by_cases h2 : x.vSort = 3
  ·by_cases h3 : (x.vKids.length : Int) < 2
   ·simp only [h1, h2, h3, not_true_eq_false, if_false, if_true]; exact fail x.vSort x.vText x.vScopes x.vFrom x.vKids (by simp only [rulesTop, h3, decide_true, Bool.not_true, Bool.false_and, Bool.and_false])
   ·by_cases h4 : (kid x 0).vSort = 1
    ·by_cases h5 : (kid x 0).vText.toList = (ByteArray.mk #[115, 121, 110, 116, 97, 120, 45, 114, 117, 108, 101, 115]).toList
     ·by_cases h6 : (kid x 1).vSort = 3
      ·have q1 := kid_wid x 1 (by omega) (by omega)
       have q2 := wid_parts (kid x 1)
       have q3 := wid_parts x
       have sl : Sml (kid x 1).vKids := Sml.of (by omega)
       simp (disch := omega) only [h1, h2, if_neg h3, h4, h5, h6, not_true_eq_false, if_false, if_true, if_pos, decide_true, Option.bind_some]
       refine Ev.bind (lits_impl _ sl) ?_
       by_cases h7 : (kid x 1).vKids.all litOk = true
       ·have ht : rulesTop x = true := by simp only [rulesTop, h1, h2, h3, h4, h5, h6, h7, decide_true, decide_false, Bool.not_false, Bool.and_self]
        simp (disch := omega) only [h7, not_true_eq_false, decide_false, impl_ExpRules.j2, Bool.false_eq_true, if_false, macOf, ht, if_true]
        have hm : TExpForm.mk 3 x.vText x.vScopes x.vFrom x.vKids = x := by rw [← h2]; exact mTExpForm x
        rw [hm]
        refine Ev.bind (copy_got x (by omega)) ?_
        simp (disch := omega) only [if_pos, e2]
        refine Ev.eq (rules_got x.vKids (kid x 1).vKids sl (by omega) (by omega)) ?_
        cases rulesOf (kid x 1).vKids (x.vKids.drop 2) with
        | none => rfl
        | some b => simp [implP, macP]
       ·simp only [h7, Bool.false_eq_true, not_false_eq_true, decide_true]; exact fail x.vSort x.vText x.vScopes x.vFrom x.vKids (by simp only [rulesTop, h7, Bool.and_false])
      ·simp (disch := omega) only [h1, h2, if_neg h3, h4, h5, h6, not_true_eq_false, not_false_eq_true, if_true, if_false, if_pos, decide_true, Option.bind_some]; exact fail x.vSort x.vText x.vScopes x.vFrom x.vKids (by simp only [rulesTop, h6, decide_false, Bool.false_and, Bool.and_false])
     ·simp (disch := omega) only [h1, h2, if_neg h3, h4, h5, not_true_eq_false, not_false_eq_true, if_true, if_false, if_pos, decide_false, Option.bind_some, Bool.false_eq_true]; exact fail x.vSort x.vText x.vScopes x.vFrom x.vKids (by simp only [rulesTop, h5, decide_false, Bool.false_and, Bool.and_false])
    ·simp (disch := omega) only [h1, h2, if_neg h3, h4, not_true_eq_false, not_false_eq_true, if_true, if_false, if_pos, Option.bind_some, Bool.false_eq_true]; exact fail x.vSort x.vText x.vScopes x.vFrom x.vKids (by simp only [rulesTop, h4, decide_false, Bool.false_and, Bool.and_false])
  ·simp only [h1, h2, not_true_eq_false, not_false_eq_true, if_true, if_false]; exact fail x.vSort x.vText x.vScopes x.vFrom x.vKids (by simp only [rulesTop, h2, decide_false, Bool.false_and, Bool.and_false])
 ·simp only [h1, not_false_eq_true, if_true]; exact fail x.vSort x.vText x.vScopes x.vFrom x.vKids (by simp only [rulesTop, h1, Bool.false_and])
end Go.Proofs.YtmcbhnbemhfifaaDoor.RX
end
section
namespace Go.Proofs.YtmcbhnbemhfifaaDoor.RX
open Go K
set_option autoImplicit false
set_option linter.unusedVariables false
set_option linter.unusedSimpArgs false
def upFrom : Int → List Int → List Int
 | _, [] => []
 | n, _ :: l => n :: upFrom (n + 1) l
theorem upFrom_length : ∀ (l : List Int) (n : Int), (upFrom n l).length = l.length
 | [], _ => rfl
 | _ :: l, n => by simp only [upFrom, List.length_cons, upFrom_length l]
theorem markInts_go (l : List Int) (hl : (l.length : Int) ≤ 1000000000) : ∀ (s d : List Int) (n i : Int), i = (d.length : Int) → (d.length : Int) + (s.length : Int) ≤ 1000000000 → 0 ≤ n → n + (s.length : Int) ≤ 4000000000000000000 → Ev (fun k => laws_markIntS.l2 k n i (d ++ s)) (n + (s.length : Int), d ++ upFrom n s) := by
 intro s
 induction s with
 | nil =>
  intro d n i hi hd h0 h1
  refine Ev.shift ?_
  rw [List.append_nil]
  simp (disch := omega) only [laws_markIntS.l2, if_neg, upFrom, List.append_nil, laws_markIntS.j6]
  exact Ev.eq (Ev.now _) (by simp)
 | cons x s ih =>
  intro d n i hi hd h0 h1
  rw [List.length_cons] at hd h1
  have hlen : ((d ++ x :: s).length : Int) = (d.length : Int) + (s.length : Int) + 1 := by rw [List.length_append, List.length_cons]; omega
  have hlen2 : (((d ++ x :: s).set i.toNat n).length : Int) = (d.length : Int) + (s.length : Int) + 1 := by rw [List.length_set]; exact hlen
  refine Ev.shift ?_
  simp (disch := omega) only [laws_markIntS.l2, if_pos, laws_markIntS.j4b, laws_markIntS.j5b, laws_markIntS.j3b, w64]
  have hset : (d ++ x :: s).set i.toNat n = (d ++ [n]) ++ s := by
   have := mid_set (l := d) (r := s) (x := x) (y := n) (i := i) hi.symm
   simpa using this
  rw [hset]
  refine Ev.eq (ih (d ++ [n]) (n + 1) (i + 1) (by simp; omega) (by simp; omega) (by omega) (by omega)) ?_
  simp only [upFrom, List.length_cons, List.append_assoc, List.singleton_append]
  congr 1
  omega
theorem markInts (l : List Int) (n : Int) (hl : (l.length : Int) ≤ 1000000000) (h0 : 0 ≤ n) (h1 : n + (l.length : Int) ≤ 4000000000000000000) : Ev (fun k => laws_markIntS.f k n l) (n + (l.length : Int), upFrom n l) := by
 simp only [laws_markIntS.f, laws_markIntS.j1, laws_markIntS.j2]
 exact markInts_go l hl l [] n 0 rfl (by simpa using hl) h0 h1
theorem strOf_one (x : Int) : (strOf [x]).size = 1 := rfl
theorem markText_go : ∀ (m : Nat) (n : Int) (s : ByteArray), n.toNat ≤ m → 0 ≤ n → (s.size : Int) + n ≤ 8000000000000000000 → ∃ r, Ev (fun k => laws_markText.l4 k n s) r := by
 intro m
 induction m with
 | zero =>
  intro n s hm h0 hs
  refine ⟨_, Ev.shift (r := ByteArray.mk #[109] ++ s) ?_⟩
  have h1 : (ByteArray.mk #[109]).size + s.size ≤ 9223372036854775807 := by
   have : (ByteArray.mk #[109]).size = 1 := rfl
   omega
  simp (disch := omega) only [laws_markText.l4, if_neg, if_pos h1]
  exact Ev.now _
 | succ m ih =>
  intro n s hm h0 hs
  by_cases hp : 0 < n
  ·have hd : n.tdiv 10 = n / 10 := Int.tdiv_eq_ediv_of_nonneg h0
   obtain ⟨r, hr⟩ := ih (n / 10) (strOf [IntKind.u8.wrap (IntKind.i64.wrap ((48 : Int) + (n.tmod (10 : Int))))] ++ s) (by omega) (by omega) (by rw [ByteArray.size_append, strOf_one]; omega)
   refine ⟨r, Ev.shift ?_⟩
   have h1 : (strOf [IntKind.u8.wrap (IntKind.i64.wrap ((48 : Int) + (n.tmod (10 : Int))))]).size + s.size ≤ 9223372036854775807 := by rw [strOf_one]; omega
   simp (disch := omega) only [laws_markText.l4, if_pos hp, if_pos h1, hd, w64]
   exact hr
  ·refine ⟨_, Ev.shift (r := ByteArray.mk #[109] ++ s) ?_⟩
   have h1 : (ByteArray.mk #[109]).size + s.size ≤ 9223372036854775807 := by
    have : (ByteArray.mk #[109]).size = 1 := rfl
    omega
   simp (disch := omega) only [laws_markText.l4, if_neg, if_pos h1]
   exact Ev.now _
theorem markText_ex (n : Int) (h0 : 0 ≤ n) (h1 : n ≤ 4000000000000000000) : ∃ r, Ev (fun k => laws_markText.f k n) r := by
 by_cases h : n ≤ 0
 ·refine ⟨ByteArray.mk #[109, 48], ?_⟩
  simp only [laws_markText.f, if_pos h]
  exact Ev.now _
 ·obtain ⟨r, hr⟩ := markText_go n.toNat n (ByteArray.mk #[]) (Nat.le_refl _) h0 (by have : (ByteArray.mk #[]).size = 0 := rfl; omega)
  refine ⟨r, ?_⟩
  simp only [laws_markText.f, if_neg h]
  exact hr
open Classical in
noncomputable def mtxt (n : Int) : ByteArray := if h : ∃ r, Ev (fun k => laws_markText.f k n) r then Classical.choose h else ByteArray.empty
theorem markText_ok (n : Int) (h0 : 0 ≤ n) (h1 : n ≤ 4000000000000000000) : Ev (fun k => laws_markText.f k n) (mtxt n) := by
 have h := markText_ex n h0 h1
 unfold mtxt
 rw [dif_pos h]
 exact Classical.choose_spec h
mutual
noncomputable def mkF : TExpForm → Int → Int × TExpForm
 | ⟨_, _, sc, _, ks⟩, n => ((mkFs ks (n + 2 + (sc.length : Int) + 1)).1, ⟨n, mtxt (n + 1), upFrom (n + 2) sc, n + 2 + (sc.length : Int), (mkFs ks (n + 2 + (sc.length : Int) + 1)).2⟩)
noncomputable def mkFs : List TExpForm → Int → Int × List TExpForm
 | [], n => (n, [])
 | x :: l, n => ((mkFs l (mkF x n).1).1, (mkF x n).2 :: (mkFs l (mkF x n).1).2)
end
theorem mkF_mk (x : TExpForm) (n : Int) : mkF x n = ((mkFs x.vKids (n + 2 + (x.vScopes.length : Int) + 1)).1, ⟨n, mtxt (n + 1), upFrom (n + 2) x.vScopes, n + 2 + (x.vScopes.length : Int), (mkFs x.vKids (n + 2 + (x.vScopes.length : Int) + 1)).2⟩) := by cases x; simp only [mkF]
theorem mkFs_of (l : List TExpForm) (h : ∀ x ∈ l, ∀ n, n ≤ (mkF x n).1 ∧ (mkF x n).1 ≤ n + 3 * wid x) : ∀ n, n ≤ (mkFs l n).1 ∧ (mkFs l n).1 ≤ n + 3 * wids l ∧ (mkFs l n).2.length = l.length := by
 induction l with
 | nil => intro n; simp [mkFs, wids]
 | cons x l ih =>
  intro n
  have h1 := h x (by simp) n
  have h2 := ih (fun y hy => h y (List.mem_cons_of_mem _ hy)) (mkF x n).1
  simp only [mkFs, wids, List.length_cons]
  omega
theorem mkF_num : ∀ (x : TExpForm) (n : Int), n ≤ (mkF x n).1 ∧ (mkF x n).1 ≤ n + 3 * wid x := by
 refine indForm fun x ih n => ?_
 have h := mkFs_of x.vKids ih (n + 2 + (x.vScopes.length : Int) + 1)
 rw [mkF_mk]
 have hp := wid_mk x
 simp only
 omega
theorem mkFs_num (l : List TExpForm) (n : Int) : n ≤ (mkFs l n).1 ∧ (mkFs l n).1 ≤ n + 3 * wids l ∧ (mkFs l n).2.length = l.length := mkFs_of l (fun x _ => mkF_num x) n
theorem getD_mid {d s : List TExpForm} {x z : TExpForm} {i : Int} (h : i = (d.length : Int)) : (d ++ x :: s).getD i.toNat z = x := by subst h; simp
theorem set_mid {d s : List TExpForm} {x y : TExpForm} {i : Int} (h : i = (d.length : Int)) : (d ++ x :: s).set i.toNat y = d ++ y :: s := by subst h; simp
theorem markForms_of (l : List TExpForm) (hP : ∀ y ∈ l, ∀ n, 0 ≤ n → n + 3 * wids y.vKids ≤ 1000000000 → Ev (fun k => laws_markExpFormS.f k n y.vKids) ((mkFs y.vKids n).1, (mkFs y.vKids n).2)) :
  ∀ (s d : List TExpForm) (n i : Int), (∀ y ∈ s, y ∈ l) → i = (d.length : Int) → (d.length : Int) + (s.length : Int) ≤ 1000000000 → 0 ≤ n → n + 3 * wids s ≤ 1000000000 → Ev (fun k => laws_markExpFormS.l2 k n i (d ++ s)) ((mkFs s n).1, d ++ (mkFs s n).2) := by
 intro s
 induction s with
 | nil =>
  intro d n i _ hi hd h0 h1
  refine Ev.shift ?_
  rw [List.append_nil]
  simp (disch := omega) only [laws_markExpFormS.l2, if_neg, laws_markExpFormS.j12, mkFs, List.append_nil]
  exact Ev.now _
 | cons x s ih =>
  intro d n i hm hi hd h0 h1
  rw [List.length_cons] at hd
  simp only [wids] at h1
  have hw := wid_mk x
  have hp := wid_parts x
  have hq := (wids_len s).1
  have hl : ∀ y : TExpForm, ((d ++ y :: s).length : Int) = (d.length : Int) + (s.length : Int) + 1 := fun y => by rw [List.length_append, List.length_cons]; omega
  have hk := mkFs_num x.vKids (n + 2 + (x.vScopes.length : Int) + 1)
  refine Ev.shift ?_
  simp (disch := first | omega | (rw [hl]; omega)) only [laws_markExpFormS.l2, if_pos, laws_markExpFormS.j4b, getD_mid hi, set_mid hi, laws_markExpFormS.j5b, laws_markExpFormS.j6b, w64]
  refine Ev.bind (markText_ok (n + 1) (by omega) (by omega)) ?_
  simp (disch := first | omega | (rw [hl]; omega)) only [if_pos, getD_mid hi, set_mid hi, laws_markExpFormS.j7b, laws_markExpFormS.j8b, w64]
  refine Ev.bind (markInts x.vScopes (n + 1 + 1) (by omega) (by omega) (by omega)) ?_
  simp (disch := first | omega | (rw [hl]; omega)) only [if_pos, getD_mid hi, set_mid hi, laws_markExpFormS.j9b, laws_markExpFormS.j10b, laws_markExpFormS.j11b, w64]
  have e : n + 1 + 1 + (x.vScopes.length : Int) + 1 = n + 2 + (x.vScopes.length : Int) + 1 := by omega
  rw [e]
  refine Ev.bind (hP x (hm x (by simp)) _ (by omega) (by omega)) ?_
  simp (disch := first | omega | (rw [hl]; omega)) only [if_pos, getD_mid hi, set_mid hi, laws_markExpFormS.j3b, w64]
  have := ih (d ++ [(mkF x n).2]) (mkF x n).1 (i + 1) (fun y hy => hm y (List.mem_cons_of_mem _ hy)) (by simp; omega) (by simp; omega) (by have := mkF_num x n; omega) (by have := mkF_num x n; omega)
  rw [List.append_assoc, List.singleton_append] at this
  rw [mkF_mk] at this
  simp only at this
  refine Ev.eq ?_ (show _ = ((mkFs (x :: s) n).1, d ++ (mkFs (x :: s) n).2) from rfl)
  simp only [mkFs, mkF_mk]
  rw [List.append_assoc, List.singleton_append] at this
  have e2 : n + 1 + 1 + (x.vScopes.length : Int) = n + 2 + (x.vScopes.length : Int) := by omega
  have e3 : n + 1 + 1 = n + 2 := by omega
  rw [e2, e3]
  exact this
theorem markForms : ∀ (l : List TExpForm) (n : Int), 0 ≤ n → n + 3 * wids l ≤ 1000000000 → Ev (fun k => laws_markExpFormS.f k n l) ((mkFs l n).1, (mkFs l n).2) := by
 have key : ∀ (l : List TExpForm), (∀ y ∈ l, ∀ n, 0 ≤ n → n + 3 * wids y.vKids ≤ 1000000000 → Ev (fun k => laws_markExpFormS.f k n y.vKids) ((mkFs y.vKids n).1, (mkFs y.vKids n).2)) → ∀ (n : Int), 0 ≤ n → n + 3 * wids l ≤ 1000000000 → Ev (fun k => laws_markExpFormS.f k n l) ((mkFs l n).1, (mkFs l n).2) := by
  intro l hP n h0 h1
  have hw := wids_len l
  refine Ev.shift ?_
  simp only [laws_markExpFormS.f, laws_markExpFormS.j1b, laws_markExpFormS.j2b]
  exact markForms_of l hP l [] n 0 (fun _ h => h) rfl (by simp; omega) h0 h1
 have all : ∀ x : TExpForm, ∀ n, 0 ≤ n → n + 3 * wids x.vKids ≤ 1000000000 → Ev (fun k => laws_markExpFormS.f k n x.vKids) ((mkFs x.vKids n).1, (mkFs x.vKids n).2) := by
  refine indForm fun x ih => ?_
  exact key x.vKids ih
 exact fun l => key l fun y _ => all y
theorem rd_mid {α : Type} {d s : List α} {x z : α} {i : Int} (h : i = (d.length : Int)) : rdAt z (d ++ x :: s) i = x := by subst h; simp [rdAt]
theorem heldInts_go : ∀ (t d : List Int) (m i : Int), i = (d.length : Int) → (d.length : Int) + (t.length : Int) ≤ 1000000000 → 0 ≤ m → m + (t.length : Int) ≤ 4000000000000000000 → Ev (fun k => laws_heldIntS.l2 k (d ++ upFrom m t) m i) (m + (t.length : Int)) := by
 intro t
 induction t with
 | nil =>
  intro d m i hi hd h0 h1
  refine Ev.shift ?_
  simp (disch := (simp [upFrom]; omega)) only [laws_heldIntS.l2, if_neg]
  exact Ev.eq (Ev.now _) (by simp)
 | cons x t ih =>
  intro d m i hi hd h0 h1
  rw [List.length_cons] at hd h1
  have hl : ((d ++ m :: upFrom (m + 1) t).length : Int) = (d.length : Int) + (t.length : Int) + 1 := by rw [List.length_append, List.length_cons, upFrom_length]; omega
  refine Ev.shift ?_
  simp (disch := first | omega | (rw [hl]; omega)) only [upFrom, laws_heldIntS.l2, if_pos, rd_mid hi, not_true_eq_false, if_false, w64]
  have := ih (d ++ [m]) (m + 1) (i + 1) (by simp; omega) (by simp; omega) (by omega) (by omega)
  rw [List.append_assoc, List.singleton_append] at this
  refine Ev.eq this ?_
  rw [List.length_cons]; omega
theorem heldInts (l : List Int) (n : Int) (hl : (l.length : Int) ≤ 1000000000) (h0 : 0 ≤ n) (h1 : n + (l.length : Int) ≤ 4000000000000000000) : Ev (fun k => laws_heldIntS.f k (upFrom n l) n) (n + (l.length : Int)) := by
 simp only [laws_heldIntS.f]
 exact heldInts_go l [] n 0 rfl (by simpa using hl) h0 h1
theorem heldForms_of (l : List TExpForm) (hP : ∀ y ∈ l, ∀ n, 0 ≤ n → n + 3 * wids y.vKids ≤ 1000000000 → Ev (fun k => laws_heldExpFormS.f k (mkFs y.vKids n).2 n) (mkFs y.vKids n).1) :
  ∀ (s d : List TExpForm) (n i : Int), (∀ y ∈ s, y ∈ l) → i = (d.length : Int) → (d.length : Int) + (s.length : Int) ≤ 1000000000 → 0 ≤ n → n + 3 * wids s ≤ 1000000000 → Ev (fun k => laws_heldExpFormS.l2 k (d ++ (mkFs s n).2) n i) (mkFs s n).1 := by
 intro s
 induction s with
 | nil =>
  intro d n i _ hi hd h0 h1
  refine Ev.shift ?_
  simp (disch := omega) only [mkFs, List.append_nil, laws_heldExpFormS.l2, if_neg]
  exact Ev.now _
 | cons x s ih =>
  intro d n i hm hi hd h0 h1
  rw [List.length_cons] at hd
  simp only [wids] at h1
  have hw := wid_mk x
  have hp := wid_parts x
  have hq := (wids_len s).1
  have hn := mkF_num x n
  have hr := mkFs_num s (mkF x n).1
  have hk := mkFs_num x.vKids (n + 2 + (x.vScopes.length : Int) + 1)
  have hl : ∀ y : TExpForm, ((d ++ y :: (mkFs s (mkF x n).1).2).length : Int) = (d.length : Int) + (s.length : Int) + 1 := fun y => by rw [List.length_append, List.length_cons, hr.2.2]; omega
  have e3 : n + 1 + 1 = n + 2 := by omega
  refine Ev.shift ?_
  rw [show (mkFs (x :: s) n) = ((mkFs s (mkF x n).1).1, (mkF x n).2 :: (mkFs s (mkF x n).1).2) from rfl]
  simp only
  have hx := mkF_mk x n
  have a1 : (mkF x n).2.vSort = n := by rw [hx]
  have a2 : (mkF x n).2.vText = mtxt (n + 1) := by rw [hx]
  have a3 : (mkF x n).2.vScopes = upFrom (n + 2) x.vScopes := by rw [hx]
  have a4 : (mkF x n).2.vFrom = n + 2 + (x.vScopes.length : Int) := by rw [hx]
  have a5 : (mkF x n).2.vKids = (mkFs x.vKids (n + 2 + (x.vScopes.length : Int) + 1)).2 := by rw [hx]
  have a6 : (mkF x n).1 = (mkFs x.vKids (n + 2 + (x.vScopes.length : Int) + 1)).1 := by rw [hx]
  simp (disch := first | omega | (rw [hl]; omega)) only [laws_heldExpFormS.l2, if_pos, rd_mid hi, a1, not_true_eq_false, if_false, laws_heldExpFormS.d7b, w64]
  refine Ev.bind (markText_ok (n + 1) (by omega) (by omega)) ?_
  simp (disch := first | omega | (rw [hl]; omega)) only [if_pos, rd_mid hi, a2, a3, not_true_eq_false, if_false, w64, e3]
  refine Ev.bind (heldInts x.vScopes (n + 2) (by omega) (by omega) (by omega)) ?_
  simp (disch := first | omega | (rw [hl]; omega)) only [if_pos, if_neg, rd_mid hi, a4, a5, not_true_eq_false, if_false, w64]
  refine Ev.bind (hP x (hm x (by simp)) _ (by omega) (by omega)) ?_
  rw [← a6]
  simp (disch := first | omega | (rw [hl]; omega)) only [if_neg, w64]
  have := ih (d ++ [(mkF x n).2]) (mkF x n).1 (i + 1) (fun y hy => hm y (List.mem_cons_of_mem _ hy)) (by simp; omega) (by simp; omega) (by omega) (by omega)
  rw [List.append_assoc, List.singleton_append] at this
  exact this
theorem heldForms : ∀ (l : List TExpForm) (n : Int), 0 ≤ n → n + 3 * wids l ≤ 1000000000 → Ev (fun k => laws_heldExpFormS.f k (mkFs l n).2 n) (mkFs l n).1 := by
 have key : ∀ (l : List TExpForm), (∀ y ∈ l, ∀ n, 0 ≤ n → n + 3 * wids y.vKids ≤ 1000000000 → Ev (fun k => laws_heldExpFormS.f k (mkFs y.vKids n).2 n) (mkFs y.vKids n).1) → ∀ (n : Int), 0 ≤ n → n + 3 * wids l ≤ 1000000000 → Ev (fun k => laws_heldExpFormS.f k (mkFs l n).2 n) (mkFs l n).1 := by
  intro l hP n h0 h1
  have hw := wids_len l
  refine Ev.shift ?_
  simp only [laws_heldExpFormS.f]
  exact heldForms_of l hP l [] n 0 (fun _ h => h) rfl (by simp; omega) h0 h1
 have all : ∀ x : TExpForm, ∀ n, 0 ≤ n → n + 3 * wids x.vKids ≤ 1000000000 → Ev (fun k => laws_heldExpFormS.f k (mkFs x.vKids n).2 n) (mkFs x.vKids n).1 := by
  refine indForm fun x ih => ?_
  exact key x.vKids ih
 exact fun l => key l fun y _ => all y
end Go.Proofs.YtmcbhnbemhfifaaDoor.RX
end
section
namespace Go.Proofs.YtmcbhnbemhfifaaDoor.RX
open Go K
set_option autoImplicit false
set_option linter.unusedVariables false
set_option linter.unusedSimpArgs false
noncomputable def mkR (r : TExpRule) (n : Int) : Int × TExpRule := ((mkF r.vTemplate (mkF r.vPattern n).1).1, ⟨(mkF r.vPattern n).2, (mkF r.vTemplate (mkF r.vPattern n).1).2⟩)
noncomputable def mkRs : List TExpRule → Int → Int × List TExpRule
 | [], n => (n, [])
 | x :: l, n => ((mkRs l (mkR x n).1).1, (mkR x n).2 :: (mkRs l (mkR x n).1).2)
def widR (r : TExpRule) : Int := wid r.vPattern + wid r.vTemplate
def widRs : List TExpRule → Int
 | [] => 0
 | x :: l => widR x + widRs l
theorem widRs_len (l : List TExpRule) : 0 ≤ widRs l ∧ (l.length : Int) ≤ widRs l := by
 induction l with
 | nil => simp [widRs]
 | cons x l ih =>
  have := wid_pos x.vPattern
  have := wid_pos x.vTemplate
  simp only [widRs, widR, List.length_cons]
  omega
theorem mkR_num (x : TExpRule) (n : Int) : n ≤ (mkR x n).1 ∧ (mkR x n).1 ≤ n + 3 * widR x := by
 have h1 := mkF_num x.vPattern n
 have h2 := mkF_num x.vTemplate (mkF x.vPattern n).1
 simp only [mkR, widR]
 omega
theorem mkRs_num (l : List TExpRule) : ∀ n : Int, n ≤ (mkRs l n).1 ∧ (mkRs l n).1 ≤ n + 3 * widRs l ∧ (mkRs l n).2.length = l.length := by
 induction l with
 | nil => intro n; simp [mkRs, widRs]
 | cons x l ih =>
  intro n
  have h1 := mkR_num x n
  have h2 := ih (mkR x n).1
  simp only [mkRs, widRs, List.length_cons]
  omega
theorem getD_midR {d s : List TExpRule} {x z : TExpRule} {i : Int} (h : i = (d.length : Int)) : (d ++ x :: s).getD i.toNat z = x := by subst h; simp
theorem set_midR {d s : List TExpRule} {x y : TExpRule} {i : Int} (h : i = (d.length : Int)) : (d ++ x :: s).set i.toNat y = d ++ y :: s := by subst h; simp
theorem markRules_go : ∀ (s d : List TExpRule) (n i : Int), i = (d.length : Int) → (d.length : Int) + (s.length : Int) ≤ 1000000000 → 0 ≤ n → n + 3 * widRs s ≤ 1000000000 → Ev (fun k => laws_markExpRuleS.l2 k n i (d ++ s)) ((mkRs s n).1, d ++ (mkRs s n).2) := by
 intro s
 induction s with
 | nil =>
  intro d n i hi hd h0 h1
  refine Ev.shift ?_
  rw [List.append_nil]
  simp (disch := omega) only [laws_markExpRuleS.l2, if_neg, laws_markExpRuleS.j20, mkRs, List.append_nil]
  exact Ev.now _
 | cons x s ih =>
  intro d n i hi hd h0 h1
  rw [List.length_cons] at hd
  simp only [widRs, widR] at h1
  have hw := wid_mk x.vPattern
  have hp := wid_parts x.vPattern
  have gw := wid_mk x.vTemplate
  have gp := wid_parts x.vTemplate
  have hq := (widRs_len s).1
  have hl : ∀ y : TExpRule, ((d ++ y :: s).length : Int) = (d.length : Int) + (s.length : Int) + 1 := fun y => by rw [List.length_append, List.length_cons]; omega
  have hk := mkFs_num x.vPattern.vKids (n + 2 + (x.vPattern.vScopes.length : Int) + 1)
  have hn := mkF_num x.vPattern n
  have ha := mkF_mk x.vPattern n
  have hb := mkF_mk x.vTemplate (mkF x.vPattern n).1
  have ea : (mkF x.vPattern n).1 = (mkFs x.vPattern.vKids (n + 2 + (x.vPattern.vScopes.length : Int) + 1)).1 := by rw [ha]
  generalize hm : (mkF x.vPattern n).1 = m at *
  have gk := mkFs_num x.vTemplate.vKids (m + 2 + (x.vTemplate.vScopes.length : Int) + 1)
  refine Ev.shift ?_
  simp (disch := first | omega | (rw [hl]; omega)) only [laws_markExpRuleS.l2, if_pos, laws_markExpRuleS.j4b, getD_midR hi, set_midR hi, laws_markExpRuleS.j5b, laws_markExpRuleS.j6b, w64, eTExpForm_eq]
  refine Ev.bind (markText_ok (n + 1) (by omega) (by omega)) ?_
  simp (disch := first | omega | (rw [hl]; omega)) only [if_pos, getD_midR hi, set_midR hi, laws_markExpRuleS.j7b, laws_markExpRuleS.j8b, w64, eTExpForm_eq]
  refine Ev.bind (markInts x.vPattern.vScopes (n + 1 + 1) (by omega) (by omega) (by omega)) ?_
  simp (disch := first | omega | (rw [hl]; omega)) only [if_pos, getD_midR hi, set_midR hi, laws_markExpRuleS.j9b, laws_markExpRuleS.j10b, laws_markExpRuleS.j11b, w64, eTExpForm_eq]
  have e : n + 1 + 1 + (x.vPattern.vScopes.length : Int) + 1 = n + 2 + (x.vPattern.vScopes.length : Int) + 1 := by omega
  rw [e]
  refine Ev.bind (markForms x.vPattern.vKids _ (by omega) (by omega)) ?_
  rw [← ea]
  simp (disch := first | omega | (rw [hl]; omega)) only [if_pos, getD_midR hi, set_midR hi, laws_markExpRuleS.j12b, laws_markExpRuleS.j13b, laws_markExpRuleS.j14b, w64, eTExpForm_eq]
  refine Ev.bind (markText_ok (m + 1) (by omega) (by omega)) ?_
  simp (disch := first | omega | (rw [hl]; omega)) only [if_pos, getD_midR hi, set_midR hi, laws_markExpRuleS.j15b, laws_markExpRuleS.j16b, w64, eTExpForm_eq]
  refine Ev.bind (markInts x.vTemplate.vScopes (m + 1 + 1) (by omega) (by omega) (by omega)) ?_
  simp (disch := first | omega | (rw [hl]; omega)) only [if_pos, getD_midR hi, set_midR hi, laws_markExpRuleS.j17b, laws_markExpRuleS.j18b, laws_markExpRuleS.j19b, w64, eTExpForm_eq]
  have e' : m + 1 + 1 + (x.vTemplate.vScopes.length : Int) + 1 = m + 2 + (x.vTemplate.vScopes.length : Int) + 1 := by omega
  rw [e']
  refine Ev.bind (markForms x.vTemplate.vKids _ (by omega) (by omega)) ?_
  simp (disch := first | omega | (rw [hl]; omega)) only [if_pos, getD_midR hi, set_midR hi, laws_markExpRuleS.j3b, w64, eTExpForm_eq]
  have hx := mkR_num x n
  have hwx : widR x = wid x.vPattern + wid x.vTemplate := rfl
  have := ih (d ++ [(mkR x n).2]) (mkR x n).1 (i + 1) (by simp; omega) (by simp; omega) (by omega) (by omega)
  rw [List.append_assoc, List.singleton_append] at this
  have e2 : n + 1 + 1 + (x.vPattern.vScopes.length : Int) = n + 2 + (x.vPattern.vScopes.length : Int) := by omega
  have e3 : n + 1 + 1 = n + 2 := by omega
  have e4 : m + 1 + 1 + (x.vTemplate.vScopes.length : Int) = m + 2 + (x.vTemplate.vScopes.length : Int) := by omega
  have e5 : m + 1 + 1 = m + 2 := by omega
  have er : mkR x n = ((mkFs x.vTemplate.vKids (m + 2 + (x.vTemplate.vScopes.length : Int) + 1)).1, ⟨⟨n, mtxt (n + 1), upFrom (n + 2) x.vPattern.vScopes, n + 2 + (x.vPattern.vScopes.length : Int), (mkFs x.vPattern.vKids (n + 2 + (x.vPattern.vScopes.length : Int) + 1)).2⟩, ⟨m, mtxt (m + 1), upFrom (m + 2) x.vTemplate.vScopes, m + 2 + (x.vTemplate.vScopes.length : Int), (mkFs x.vTemplate.vKids (m + 2 + (x.vTemplate.vScopes.length : Int) + 1)).2⟩⟩) := by
   unfold mkR; rw [hm, hb, ha]
  simp only [mkRs]
  rw [List.append_assoc, List.singleton_append] at this
  rw [er] at this ⊢
  rw [e2, e3, e4, e5]
  exact this
theorem markRules (l : List TExpRule) (n : Int) (h0 : 0 ≤ n) (h1 : n + 3 * widRs l ≤ 1000000000) : Ev (fun k => laws_markExpRuleS.f k n l) ((mkRs l n).1, (mkRs l n).2) := by
 have hw := widRs_len l
 simp only [laws_markExpRuleS.f, laws_markExpRuleS.j1, laws_markExpRuleS.j2]
 exact markRules_go l [] n 0 rfl (by simp; omega) h0 h1
theorem heldTemplate (G : Nat → List TExpRule → Int → Int → Option Int) (xs : List TExpRule) (x : TExpForm) (m i : Int) (res : Int) (i0 : 0 ≤ i) (i1 : i < (xs.length : Int)) (hl : (xs.length : Int) ≤ 1000000000) (h0 : 0 ≤ m) (h1 : m + 3 * wid x ≤ 1000000000)
  (hx : (rdAt zTExpRule xs i).vTemplate = (mkF x m).2) (hG : Ev (fun k => G k xs (mkF x m).1 (i + 1)) res) : Ev (fun k => laws_heldExpRuleS.d22b k (G k) xs (m + 1) i) res := by
 have gw := wid_mk x
 have gp := wid_parts x
 have hb := mkF_mk x m
 have gk := mkFs_num x.vKids (m + 2 + (x.vScopes.length : Int) + 1)
 have eb : (mkFs x.vKids (m + 2 + (x.vScopes.length : Int) + 1)).1 = (mkF x m).1 := by rw [hb]
 have b2 : (mkF x m).2.vText = mtxt (m + 1) := by rw [hb]
 have b3 : (mkF x m).2.vScopes = upFrom (m + 2) x.vScopes := by rw [hb]
 have b4 : (mkF x m).2.vFrom = m + 2 + (x.vScopes.length : Int) := by rw [hb]
 have b5 : (mkF x m).2.vKids = (mkFs x.vKids (m + 2 + (x.vScopes.length : Int) + 1)).2 := by rw [hb]
 have e5 : m + 1 + 1 = m + 2 := by omega
 simp (disch := omega) only [laws_heldExpRuleS.d22b, if_pos]
 refine Ev.bind (markText_ok (m + 1) (by omega) (by omega)) ?_
 simp (disch := omega) only [hx, b2, b3, not_true_eq_false, if_false, w64, e5]
 refine Ev.bind (heldInts x.vScopes (m + 2) (by omega) (by omega) (by omega)) ?_
 simp (disch := omega) only [if_neg, hx, b4, b5, not_true_eq_false, if_false, w64]
 refine Ev.bind (heldForms x.vKids _ (by omega) (by omega)) ?_
 rw [eb] at gk ⊢
 simp (disch := omega) only [if_neg, w64]
 exact hG
theorem heldRules_go : ∀ (s d : List TExpRule) (n i : Int), i = (d.length : Int) → (d.length : Int) + (s.length : Int) ≤ 1000000000 → 0 ≤ n → n + 3 * widRs s ≤ 1000000000 → Ev (fun k => laws_heldExpRuleS.l2 k (d ++ (mkRs s n).2) n i) (mkRs s n).1 := by
 intro s
 induction s with
 | nil =>
  intro d n i hi hd h0 h1
  refine Ev.shift ?_
  simp (disch := omega) only [mkRs, List.append_nil, laws_heldExpRuleS.l2, if_neg]
  exact Ev.now _
 | cons x s ih =>
  intro d n i hi hd h0 h1
  rw [List.length_cons] at hd
  simp only [widRs, widR] at h1
  have hwx : widR x = wid x.vPattern + wid x.vTemplate := rfl
  have hw := wid_mk x.vPattern
  have hp := wid_parts x.vPattern
  have gw := wid_mk x.vTemplate
  have gp := wid_parts x.vTemplate
  have hq := (widRs_len s).1
  have hn := mkR_num x n
  have hr := mkRs_num s (mkR x n).1
  have hk := mkFs_num x.vPattern.vKids (n + 2 + (x.vPattern.vScopes.length : Int) + 1)
  have hl : ∀ y : TExpRule, ((d ++ y :: (mkRs s (mkR x n).1).2).length : Int) = (d.length : Int) + (s.length : Int) + 1 := fun y => by rw [List.length_append, List.length_cons, hr.2.2]; omega
  refine Ev.shift ?_
  rw [show (mkRs (x :: s) n) = ((mkRs s (mkR x n).1).1, (mkR x n).2 :: (mkRs s (mkR x n).1).2) from rfl]
  simp only
  have ha := mkF_mk x.vPattern n
  have hb := mkF_mk x.vTemplate (mkF x.vPattern n).1
  have hf := mkF_num x.vPattern n
  have ea : (mkFs x.vPattern.vKids (n + 2 + (x.vPattern.vScopes.length : Int) + 1)).1 = (mkF x.vPattern n).1 := by rw [ha]
  have c1 : (mkF x.vTemplate (mkF x.vPattern n).1).1 = (mkR x n).1 := rfl
  have a0 : (mkR x n).2.vPattern = (mkF x.vPattern n).2 := rfl
  have a1 : (mkF x.vPattern n).2.vSort = n := by rw [ha]
  have a2 : (mkF x.vPattern n).2.vText = mtxt (n + 1) := by rw [ha]
  have a3 : (mkF x.vPattern n).2.vScopes = upFrom (n + 2) x.vPattern.vScopes := by rw [ha]
  have a4 : (mkF x.vPattern n).2.vFrom = n + 2 + (x.vPattern.vScopes.length : Int) := by rw [ha]
  have a5 : (mkF x.vPattern n).2.vKids = (mkFs x.vPattern.vKids (n + 2 + (x.vPattern.vScopes.length : Int) + 1)).2 := by rw [ha]
  have b0 : (mkR x n).2.vTemplate = (mkF x.vTemplate (mkF x.vPattern n).1).2 := rfl
  generalize hm : (mkF x.vPattern n).1 = m at *
  have gk := mkFs_num x.vTemplate.vKids (m + 2 + (x.vTemplate.vScopes.length : Int) + 1)
  have b1 : (mkF x.vTemplate m).2.vSort = m := by rw [hb]
  have e3 : n + 1 + 1 = n + 2 := by omega
  simp (disch := first | omega | (rw [hl]; omega)) only [laws_heldExpRuleS.l2, if_pos, rd_mid hi, a0, a1, not_true_eq_false, if_false, laws_heldExpRuleS.d7b, w64]
  refine Ev.bind (markText_ok (n + 1) (by omega) (by omega)) ?_
  simp (disch := first | omega | (rw [hl]; omega)) only [if_pos, rd_mid hi, a0, a2, a3, not_true_eq_false, if_false, w64, e3]
  refine Ev.bind (heldInts x.vPattern.vScopes (n + 2) (by omega) (by omega) (by omega)) ?_
  simp (disch := first | omega | (rw [hl]; omega)) only [if_pos, if_neg, rd_mid hi, a0, a4, a5, not_true_eq_false, if_false, w64]
  refine Ev.bind (heldForms x.vPattern.vKids _ (by omega) (by omega)) ?_
  rw [ea]
  have := ih (d ++ [(mkR x n).2]) (mkR x n).1 (i + 1) (by simp; omega) (by simp; omega) (by omega) (by omega)
  rw [List.append_assoc, List.singleton_append] at this
  simp (disch := first | omega | (rw [hl]; omega)) only [if_pos, if_neg, rd_mid hi, b0, b1, not_true_eq_false, if_false, w64]
  exact heldTemplate (fun k => laws_heldExpRuleS.l2 k) _ x.vTemplate m i _ (by omega) (by rw [hl]; omega) (by rw [hl]; omega) (by omega) (by omega) (by rw [rd_mid hi, b0]) (by rw [c1]; exact this)
theorem heldRules (l : List TExpRule) (n : Int) (h0 : 0 ≤ n) (h1 : n + 3 * widRs l ≤ 1000000000) : Ev (fun k => laws_heldExpRuleS.f k (mkRs l n).2 n) (mkRs l n).1 := by
 have hw := widRs_len l
 simp only [laws_heldExpRuleS.f]
 exact heldRules_go l [] n 0 rfl (by simp; omega) h0 h1
theorem markMacro (x : TExpMacro) (n : Int) (h0 : 0 ≤ n) (h1 : n + 3 * wids x.vLiterals + 3 * widRs x.vRules ≤ 900000000) :
  Ev (fun k => laws_markExpMacro.f k n x.vLiterals x.vRules) ((mkRs x.vRules (mkFs x.vLiterals n).1).1, (mkFs x.vLiterals n).2, (mkRs x.vRules (mkFs x.vLiterals n).1).2) := by
 have hn := mkFs_num x.vLiterals n
 have hr := (widRs_len x.vRules).1
 simp only [laws_markExpMacro.f, laws_markExpMacro.j1, laws_markExpMacro.j2, laws_markExpMacro.j3]
 refine Ev.bind (markForms x.vLiterals n h0 (by omega)) ?_
 exact Ev.bind (markRules x.vRules _ (by omega) (by omega)) (Ev.now _)
theorem heldMacro (x : TExpMacro) (n : Int) (h0 : 0 ≤ n) (h1 : n + 3 * wids x.vLiterals + 3 * widRs x.vRules ≤ 900000000) :
  Ev (fun k => laws_heldExpMacro.f k ⟨(mkFs x.vLiterals n).2, (mkRs x.vRules (mkFs x.vLiterals n).1).2⟩ n) (mkRs x.vRules (mkFs x.vLiterals n).1).1 := by
 have hn := mkFs_num x.vLiterals n
 have hm := mkRs_num x.vRules (mkFs x.vLiterals n).1
 have hr := (widRs_len x.vRules).1
 simp only [laws_heldExpMacro.f]
 refine Ev.bind (heldForms x.vLiterals n h0 (by omega)) ?_
 simp (disch := omega) only [if_neg]
 refine Ev.bind (heldRules x.vRules _ (by omega) (by omega)) ?_
 simp (disch := omega) only [if_neg]
 exact Ev.now _
theorem eqRule_same (x : TExpRule) (hw : widR x ≤ 1000000000) : Ev (fun k => laws_eqExpRule.f k x x) true := by
 have h1 := wid_pos x.vPattern
 have h2 := wid_pos x.vTemplate
 unfold widR at hw
 simp only [laws_eqExpRule.f, eTExpForm_eq]
 refine Ev.bind (eqForm_same _ (by omega)) ?_
 simp only [not_true_eq_false, if_false]
 refine Ev.bind (eqForm_same _ (by omega)) ?_
 simp only [not_true_eq_false, if_false]
 exact Ev.now _
theorem widRs_mem {l : List TExpRule} {x : TExpRule} (h : x ∈ l) : widR x ≤ widRs l := by
 induction l with
 | nil => cases h
 | cons y l ih =>
  have h1 := wid_pos y.vPattern
  have h2 := wid_pos y.vTemplate
  have h3 := (widRs_len l).1
  cases h with
  | head => simp only [widRs]; omega
  | tail _ h => have := ih h; simp only [widRs, widR] at *; omega
theorem eqRules_same (l : List TExpRule) (hw : widRs l ≤ 1000000000) : Ev (fun k => laws_eqExpRuleS.f k l l) true := by
 have hl := widRs_len l
 simp only [laws_eqExpRuleS.f, not_true_eq_false, if_false]
 refine goList l (P := fun i suf => Ev (fun k => laws_eqExpRuleS.l4 k l l i) true) ?_ ?_
 ·refine Ev.shift ?_
  simp (disch := omega) only [laws_eqExpRuleS.l4, if_neg]
  exact Ev.now _
 ·intro i y r h0 h1 hx hm _ _ _ ihr
  have hy := widRs_mem hm
  refine Ev.shift ?_
  simp (disch := omega) only [laws_eqExpRuleS.l4, if_pos, hx, eTExpForm_eq, mTExpRule, w64]
  refine Ev.bind (eqRule_same y (by omega)) ?_
  simp only [not_true_eq_false, if_false]
  exact ihr
theorem eqMacro_same (x : TExpMacro) (h1 : wids x.vLiterals ≤ 1000000000) (h2 : widRs x.vRules ≤ 1000000000) : Ev (fun k => laws_eqExpMacro.f k x x) true := by
 simp only [laws_eqExpMacro.f]
 refine Ev.bind (eqForms_same _ h1) ?_
 simp only [not_true_eq_false, if_false]
 refine Ev.bind (eqRules_same _ h2) ?_
 simp only [not_true_eq_false, if_false]
 exact Ev.now _
end Go.Proofs.YtmcbhnbemhfifaaDoor.RX
end
section
namespace Go.Proofs.YtmcbhnbemhfifaaDoor.RX
open Go K
set_option autoImplicit false
set_option linter.unusedVariables false
set_option linter.unusedSimpArgs false
theorem markTop (x : TExpForm) (n : Int) (h0 : 0 ≤ n) (h1 : n + 3 * wid x ≤ 900000000) (a c : Int) (b : ByteArray) :
  Ev (fun k => laws_markExpForm.f k a b c n x.vScopes x.vKids) ((mkFs x.vKids (n + (x.vScopes.length : Int))).1, upFrom n x.vScopes, (mkFs x.vKids (n + (x.vScopes.length : Int))).2) := by
 have hp := wid_parts x
 have hm := wid_mk x
 simp only [laws_markExpForm.f, laws_markExpForm.j1, laws_markExpForm.j2, laws_markExpForm.j3]
 refine Ev.bind (markInts x.vScopes n (by omega) h0 (by omega)) ?_
 exact Ev.bind (markForms x.vKids _ (by omega) (by omega)) (Ev.now _)
theorem ruleOf_wid (lits : List TExpForm) (r : TExpForm) (a : TExpRule) (h : ruleOf lits r = some a) : widR a ≤ 3 * wid r := by
 unfold ruleOf at h
 split at h
 ·split at h
  ·rename_i h1 h2
   have q0 := kid_wid r 0 (by omega) (by omega)
   have q1 := kid_wid r 1 (by omega) (by omega)
   have q2 := wid_headed (kid r 0)
   have q3 := wid_pos (kid r 0)
   have q4 := wid_pos (kid r 1)
   have q5 : wid (kid r 0) + wid (kid r 1) ≤ wid r := by
    have q6 := wid_parts r
    have q7 : r.vKids = [kid r 0, kid r 1] := by
     have hlen : r.vKids.length = 2 := by omega
     unfold kid
     match hk : r.vKids, hlen with
     | [x, y], _ => rfl
    rw [q7] at q6
    simp only [wids] at q6
    omega
   split at h
   ·split at h
    ·injection h with h; subst h; simp only [widR]; omega
    ·cases h
   ·cases h
  ·cases h
 ·cases h
theorem rulesOf_wid (lits : List TExpForm) : ∀ (l : List TExpForm) (b : List TExpRule), rulesOf lits l = some b → widRs b ≤ 3 * wids l := by
 intro l
 induction l with
 | nil => intro b h; simp only [rulesOf] at h; injection h with h; subst h; simp [widRs, wids]
 | cons x l ih =>
  intro b h
  simp only [rulesOf] at h
  cases hx : ruleOf lits x with
  | none => rw [hx] at h; cases h
  | some a =>
   rw [hx] at h
   cases hl : rulesOf lits l with
   | none => rw [hl] at h; cases h
   | some c =>
    rw [hl] at h
    simp only [Option.bind_some, Option.map_some] at h
    injection h with h
    subst h
    have h1 := ruleOf_wid lits x a hx
    have h2 := ih c hl
    simp only [widRs, wids]
    omega
theorem wids_drop_le (l : List TExpForm) : ∀ n, wids (l.drop n) ≤ wids l := by
 induction l with
 | nil => intro n; simp
 | cons x l ih =>
  intro n
  have := wid_pos x
  cases n with
  | zero => simp
  | succ n => have := ih n; simp only [List.drop_succ_cons, wids]; omega
theorem macOf_wid (x : TExpForm) : wids (macOf x).1.vLiterals ≤ wid x ∧ widRs (macOf x).1.vRules ≤ 3 * wid x := by
 have h0 := wid_pos x
 unfold macOf
 split
 ·rename_i ht
  have hlen : ¬ (x.vKids.length : Int) < 2 := by
   intro hc
   simp only [rulesTop, hc, decide_true, Bool.not_true, Bool.false_and, Bool.and_false] at ht
   cases ht
  have q1 := kid_wid x 1 (by omega) (by omega)
  have q2 := wid_parts (kid x 1)
  have q3 := wid_parts x
  have q4 := wids_drop_le x.vKids 2
  cases h : rulesOf (kid x 1).vKids (x.vKids.drop 2) with
  | none => simp only [macP, wids, widRs]; omega
  | some b =>
   have := rulesOf_wid _ _ b h
   simp only [macP, List.nil_append]
   omega
 ·simp only [wids, widRs]; omega
theorem law_pure (x : Tlaws_ExpForm) (hx : lokF x) : ∃ k, laws_FnExactExpRules.f k x = some true := by
 refine Ev.some ?_
 simp only [laws_FnExactExpRules.f, eTlaws_ExpForm_eq, eTExpForm_eq]
 have hp := lwid_pos x
 refine Ev.bind (szForm x hx 1048576 (by omega) (by omega)) ?_
 by_cases h1 : lwid x ≤ 1048576
 ·rw [leftI_in h1]
  simp (disch := omega) only [if_neg]
  have w1 := wid_cv x
  have w0 := wid_pos (cv x)
  have c := toForm x (by omega)
  have sp := macro_spec (cv x) (by omega)
  have g := macro_got (cv x) (by omega)
  have wm := macOf_wid (cv x)
  generalize macOf (cv x) = a at sp g wm
  have w2 := wids_len a.1.vLiterals
  have w3 := widRs_len a.1.vRules
  have eqM := eqMacro_same a.1 (by omega) (by omega)
  have m1 := mkFs_num (cv x).vKids (1 + ((cv x).vScopes.length : Int))
  have m2 := mkFs_num a.1.vLiterals 1
  have m3 := mkRs_num a.1.vRules (mkFs a.1.vLiterals 1).1
  have t1 := markTop (cv x) 1 (by omega) (by omega)
  have t2 := markMacro a.1 1 (by omega) (by omega)
  have u2 := heldMacro a.1 1 (by omega) (by omega)
  refine Ev.bind c ?_
  simp only [ow_mk]
  refine Ev.bind sp (Ev.bind c ?_)
  simp only [ow_mk]
  refine Ev.bind g ?_
  simp only [mTExpMacro]
  refine Ev.bind eqM ?_
  simp only [not_true_eq_false, if_false, laws_FnExactExpRules.j10, laws_FnExactExpRules.d10, laws_FnExactExpRules.j16, mTlaws_ExpForm, mTExpForm, mTExpMacro]
  refine Ev.bind c ?_
  simp only [ow_mk, ow, mTExpForm]
  refine Ev.bind (eqForm_same _ (by omega)) ?_
  simp only [not_true_eq_false, if_false]
  refine Ev.bind (t1 _ _ _) ?_
  simp (disch := omega) only [if_neg]
  refine Ev.bind eqM ?_
  simp only [not_true_eq_false, if_false]
  refine Ev.bind t2 (Ev.bind u2 ?_)
  simp (disch := omega) only [if_neg, not_true_eq_false, if_false]
  refine Ev.bind c ?_
  simp only [ow_mk]
  refine Ev.bind g ?_
  simp only [mTExpMacro]
  refine Ev.bind eqM ?_
  simp only [not_true_eq_false, if_false]
  refine Ev.bind u2 ?_
  simp (disch := omega) only [if_neg, not_true_eq_false, if_false]
  exact Ev.now _
 ·rw [leftI_out h1]
  simp only [show (-1 : Int) < 0 by decide, if_true]; exact Ev.now _
end Go.Proofs.YtmcbhnbemhfifaaDoor.RX
end
section
namespace Go.Proofs.YtmcbhnbemhfifaaDoor.RX
open Go Go.RowKit
set_option autoImplicit false
set_option linter.unusedVariables false
theorem bnd_form : ∀ x : Tlaws_ExpForm, Bnd sg (.st 3) x → lokF x := by
 refine indLForm fun x ih h => ?_
 have h1 := bnd_st h
 have h1 : BndF sg [.int .i64, .str, .sl 3 (.int .i64), .int .i64, .sl 25 (.st 3)] (x.vSort, x.vText, x.vScopes, x.vFrom, x.vKids, ()) := h1
 obtain ⟨_, h2⟩ := bndF_cons h1
 obtain ⟨a2, h3⟩ := bndF_cons h2
 obtain ⟨a3, h4⟩ := bndF_cons h3
 obtain ⟨_, h5⟩ := bndF_cons h4
 obtain ⟨a5, _⟩ := bndF_cons h5
 have b2 := bnd_str a2
 have b3 := (bnd_sl a3).1
 have b5 := bnd_sl a5
 exact (lokF_mk x).2 ⟨b2, b3, b5.1, lokFs_all fun y hy => ih y hy (b5.2 y hy)⟩
theorem bnd0 (x : Tlaws_ExpForm) (h : Bnd sg (.st 3) x) : lokF x := bnd_form x h
end Go.Proofs.YtmcbhnbemhfifaaDoor.RX
end
