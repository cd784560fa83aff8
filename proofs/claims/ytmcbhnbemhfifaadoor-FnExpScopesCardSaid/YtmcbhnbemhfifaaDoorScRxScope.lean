/- Scopes put to forms and turned: the program's and the reference's functions come to the same plain ones. Condition: the form is not very large. -/
import Derived.Test.YtmcbhnbemhfifaaDoorScRxFormOk
namespace Go.Proofs.YtmcbhnbemhfifaaDoor.RX
open Go K
set_option autoImplicit false
set_option linter.unusedVariables false
set_option linter.unusedSimpArgs false
/-- Ascending numbers and one more. -/
def put (n : Int) : List Int → List Int
  | [] => [n]
  | x :: l => if x < n then x :: put n l else if x = n then x :: l else n :: x :: l
/-- Numbers without one. -/
def less (n : Int) : List Int → List Int
  | [] => []
  | x :: l => if x = n then less n l else x :: less n l
def flip (n : Int) (l : List Int) : List Int := if l.contains n = true then less n l else put n l
theorem put_length (n : Int) (l : List Int) : (put n l).length ≤ l.length + 1 := by
  induction l with
  | nil => simp [put]
  | cons x l ih =>
    simp only [put]
    split
    · simp only [List.length_cons]; omega
    · split <;> simp only [List.length_cons] <;> omega
theorem less_length (n : Int) (l : List Int) : (less n l).length ≤ l.length := by
  induction l with
  | nil => simp [less]
  | cons x l ih => simp only [less]; split <;> simp only [List.length_cons] <;> omega
theorem flip_length (n : Int) (l : List Int) : (flip n l).length ≤ l.length + 1 := by
  unfold flip
  split
  · have := less_length n l; omega
  · exact put_length n l
theorem has_impl (l : List Int) (n : Int) (hl : (l.length : Int) ≤ 1000000000) : Ev (fun k => impl_expHas.f k l n) (l.contains n) := by
  simp only [impl_expHas.f]
  refine goList l (P := fun i suf => Ev (fun k => impl_expHas.l2 k n l (l.length : Int) i) (suf.contains n)) ?_ ?_
  · refine Ev.shift ?_
    simp (disch := omega) only [impl_expHas.l2, if_neg, List.contains_nil]
    exact Ev.now _
  · intro i x r h0 h1 hx hm _ _ _ ih
    refine Ev.shift ?_
    simp (disch := omega) only [impl_expHas.l2, if_pos, hx, w64, List.contains_cons]
    by_cases h : x = n
    · subst h; simp only [if_true, beq_self_eq_true, Bool.true_or]; exact Ev.now _
    · have h' : (n == x) = false := by simpa using fun e => h e.symm
      simp only [if_neg h, h', Bool.false_or]; exact ih
theorem has_spec (l : List Int) (n : Int) (hl : (l.length : Int) ≤ 1000000000) : Ev (fun k => spec_l2Has.f k l n) (l.contains n) := by
  simp only [spec_l2Has.f]
  refine goList l (P := fun i suf => Ev (fun k => spec_l2Has.l2 k l n i) (suf.contains n)) ?_ ?_
  · refine Ev.shift ?_
    simp (disch := omega) only [spec_l2Has.l2, if_neg, List.contains_nil]
    exact Ev.now _
  · intro i x r h0 h1 hx hm _ _ _ ih
    refine Ev.shift ?_
    simp (disch := omega) only [spec_l2Has.l2, if_pos, hx, w64, List.contains_cons]
    by_cases h : x = n
    · subst h; simp only [if_true, beq_self_eq_true, Bool.true_or]; exact Ev.now _
    · have h' : (n == x) = false := by simpa using fun e => h e.symm
      simp only [if_neg h, h', Bool.false_or]; exact ih
theorem drop_impl (l : List Int) (n : Int) (hl : (l.length : Int) ≤ 1000000000) : Ev (fun k => impl_expDrop.f k l n) (less n l) := by
  simp only [impl_expDrop.f]
  refine goList l (P := fun i suf => ∀ out : List Int, (out.length : Int) ≤ i → Ev (fun k => impl_expDrop.l3 k n l (l.length : Int) i out) (out ++ less n suf)) ?_ ?_ [] (by simp)
  · intro out ho
    refine Ev.shift ?_
    simp (disch := omega) only [impl_expDrop.l3, if_neg, less, List.append_nil]
    exact Ev.now _
  · intro i x r h0 h1 hx hm _ _ _ ih out ho
    refine Ev.shift ?_
    simp (disch := omega) only [impl_expDrop.l3, if_pos, hx, w64, less]
    by_cases h : x = n
    · simp only [if_neg (decide_not_ne h), if_pos h]; exact ih out (by omega)
    · simp (disch := (simp; omega)) only [if_neg h, if_pos h, if_pos]
      exact Ev.eq (ih (out ++ [x]) (by simp; omega)) (by simp)
theorem take_spec (l : List Int) (n : Int) (hl : (l.length : Int) ≤ 1000000000) : Ev (fun k => spec_l2Take.f k l n) (less n l) := by
  simp only [spec_l2Take.f]
  refine goList l (P := fun i suf => ∀ out : List Int, (out.length : Int) ≤ i → Ev (fun k => spec_l2Take.l3 k l n i out) (out ++ less n suf)) ?_ ?_ [] (by simp)
  · intro out ho
    refine Ev.shift ?_
    simp (disch := omega) only [spec_l2Take.l3, if_neg, less, List.append_nil]
    exact Ev.now _
  · intro i x r h0 h1 hx hm _ _ _ ih out ho
    refine Ev.shift ?_
    simp (disch := omega) only [spec_l2Take.l3, if_pos, hx, w64, less]
    by_cases h : x = n
    · simp only [if_neg (decide_not_ne h), if_pos h]; exact ih out (by omega)
    · simp (disch := (simp; omega)) only [if_neg h, if_pos h, if_pos]
      exact Ev.eq (ih (out ++ [x]) (by simp; omega)) (by simp)
theorem add_impl (l : List Int) (n : Int) (hl : (l.length : Int) ≤ 1000000000) : Ev (fun k => impl_expAdd.f k l n) (put n l) := by
  simp only [impl_expAdd.f]
  have done : ∀ out : List Int, ∀ m : Nat, m ≤ l.length → (out.length : Int) ≤ (m : Int) + 1 → Ev (fun k => impl_expAdd.l4 k n true l (l.length : Int) (m : Int) out) (out ++ l.drop m) := by
    intro out m hm ho
    refine goFrom l (P := fun i suf => ∀ out : List Int, (out.length : Int) ≤ i + 1 → Ev (fun k => impl_expAdd.l4 k n true l (l.length : Int) i out) (out ++ suf)) ?_ ?_ m hm out ho
    · intro out ho
      refine Ev.shift ?_
      simp (disch := omega) only [impl_expAdd.l4, if_neg, not_true_eq_false, if_false, List.append_nil]
      exact Ev.now _
    · intro i x r h0 h1 hx hm _ _ _ ih out ho
      refine Ev.shift ?_
      simp (disch := first | omega | (simp; omega)) only [impl_expAdd.l4, if_pos, hx, w64, not_true_eq_false, if_false, impl_expAdd.j10b]
      exact Ev.eq (ih (out ++ [x]) (by simp; omega)) (by simp)
  refine goList l (P := fun i suf => ∀ out : List Int, (out.length : Int) ≤ i → Ev (fun k => impl_expAdd.l4 k n false l (l.length : Int) i out) (out ++ put n suf)) ?_ ?_ [] (by simp)
  · intro out ho
    refine Ev.shift ?_
    simp (disch := first | omega | (simp; omega)) only [impl_expAdd.l4, if_neg, Bool.false_eq_true, not_false_eq_true, if_true, if_pos, put]
    exact Ev.now _
  · intro i x r h0 h1 hx hm _ hdr _ ih out ho
    have e : (i.toNat : Int) = i := by omega
    have d1 := fun o (h : (o.length : Int) ≤ (((i.toNat + 1 : Nat)) : Int) + 1) => done o (i.toNat + 1) (by omega) h
    have e1 : l.drop (i.toNat + 1) = r := by rw [← List.drop_drop, hdr]; rfl
    rw [e1] at d1
    refine Ev.shift ?_
    simp (disch := omega) only [impl_expAdd.l4, if_pos, hx, w64, Bool.false_eq_true, not_false_eq_true, if_true, put]
    have e2 : ((i.toNat + 1 : Nat) : Int) = i + 1 := by omega
    rw [e2] at d1
    by_cases h1 : x < n
    · simp (disch := first | omega | (simp; omega)) only [if_neg, if_pos, impl_expAdd.j10b, w64]
      exact Ev.eq (ih (out ++ [x]) (by simp; omega)) (by simp)
    by_cases h2 : x = n
    · simp (disch := first | omega | (simp; omega)) only [if_neg, if_pos, impl_expAdd.j10b, w64]
      exact Ev.eq (d1 (out ++ [x]) (by simp; omega)) (by simp)
    · simp (disch := first | omega | (simp; omega)) only [if_neg, if_pos, impl_expAdd.j10b, w64]
      exact Ev.eq (d1 (out ++ [n] ++ [x]) (by simp; omega)) (by simp)
theorem put_spec (l : List Int) (n : Int) (hl : (l.length : Int) ≤ 1000000000) : Ev (fun k => spec_l2Put.f k l n) (put n l) := by
  simp only [spec_l2Put.f]
  have d6 : ∀ i : Int, 0 ≤ i → i ≤ (l.length : Int) → Ev (fun k => spec_l2Put.d6 k l n i) (l.take i.toNat ++ n :: l.drop i.toNat) := by
    intro i h0 h1
    simp (disch := first | omega | (simp; omega)) only [spec_l2Put.d6, if_pos]
    refine Ev.eq (Ev.now _) ?_
    simp
  refine Ev.eq (goList l (P := fun i suf => 0 ≤ i → i ≤ (l.length : Int) → suf = l.drop i.toNat → Ev (fun k => spec_l2Put.l2 k l n i) (l.take i.toNat ++ put n suf)) ?_ ?_ (by omega) (by omega) rfl) (by simp)
  · intro h0 h1 hs
    refine Ev.shift ?_
    simp (disch := omega) only [spec_l2Put.l2, if_neg, put]
    refine Ev.eq (d6 _ h0 h1) ?_
    simp
  · intro i x r h0 h1 hx hm _ hdr htk ih _ _ hs
    have e1 : l.drop (i + 1).toNat = r := by
      rw [show (i + 1).toNat = i.toNat + 1 by omega, ← List.drop_drop, hdr]; rfl
    refine Ev.shift ?_
    simp (disch := omega) only [spec_l2Put.l2, if_pos, hx, w64, put]
    by_cases h1 : x < n
    · simp (disch := omega) only [if_pos]
      refine Ev.eq (ih (by omega) (by omega) e1.symm) ?_
      rw [show (i + 1).toNat = i.toNat + 1 by omega, htk]; simp
    by_cases h2 : x = n
    · simp (disch := first | omega | (simp; omega)) only [if_neg, if_pos]
      refine Ev.eq (Ev.now _) ?_
      rw [← hdr]; simp
    · simp (disch := omega) only [if_neg]
      refine Ev.eq (d6 i h0 (by omega)) ?_
      rw [hdr]
-- ------------------------------------------------------------ forms with other scopes
mutual
/-- A form, each identifier's scopes turned. -/
def wf (g : List Int → List Int) : TExpForm → TExpForm
  | ⟨a, t, s, d, ks⟩ => if a = 1 then ⟨a, t, g s, d, ks⟩ else ⟨a, t, s, d, wfs g ks⟩
def wfs (g : List Int → List Int) : List TExpForm → List TExpForm
  | [] => []
  | x :: l => wf g x :: wfs g l
end
theorem wf_mk (g : List Int → List Int) (x : TExpForm) : wf g x = if x.vSort = 1 then ⟨x.vSort, x.vText, g x.vScopes, x.vFrom, x.vKids⟩ else ⟨x.vSort, x.vText, x.vScopes, x.vFrom, wfs g x.vKids⟩ := by cases x; simp only [wf]
theorem wf_one (g : List Int → List Int) {x : TExpForm} (h : x.vSort = 1) : wf g x = ⟨x.vSort, x.vText, g x.vScopes, x.vFrom, x.vKids⟩ := by rw [wf_mk, if_pos h]
theorem wf_not (g : List Int → List Int) {x : TExpForm} (h : ¬ x.vSort = 1) : wf g x = ⟨x.vSort, x.vText, x.vScopes, x.vFrom, wfs g x.vKids⟩ := by rw [wf_mk, if_neg h]
theorem wf_sort (g : List Int → List Int) (x : TExpForm) : (wf g x).vSort = x.vSort := by rw [wf_mk]; split <;> rfl
theorem wfs_length (g : List Int → List Int) (l : List TExpForm) : (wfs g l).length = l.length := by
  induction l with
  | nil => rfl
  | cons x l ih => simp only [wfs, List.length_cons, ih]
theorem wfs_map (g : List Int → List Int) (l : List TExpForm) : wfs g l = l.map (wf g) := by
  induction l with
  | nil => rfl
  | cons x l ih => simp only [wfs, List.map_cons, ih]
theorem with_impl : ∀ (n : Int) (x : TExpForm), wid x ≤ 1000000000 → Ev (fun k => impl_expMap.f k x n) (wf (put n) x, n) := by
  intro n
  refine indForm fun x ih hw => ?_
  have hp := wid_parts x
  refine Ev.shift ?_
  simp only [impl_expMap.f, impl_expWith_1.f]
  by_cases h : x.vSort = 1
  · simp only [if_pos h, wf_one _ h]
    exact Ev.bind (Ev.bind (add_impl x.vScopes n (by omega)) (Ev.now _)) (Ev.now _)
  · simp only [if_neg h, wf_not _ h]
    refine goList x.vKids (P := fun i suf => ∀ out : List TExpForm, (out.length : Int) = i → Ev (fun k => impl_expMap.l6 k x.vKids (x.vKids.length : Int) i n x.vSort x.vText x.vScopes x.vFrom out) (⟨x.vSort, x.vText, x.vScopes, x.vFrom, out ++ wfs (put n) suf⟩, n)) ?_ ?_ [] rfl
    · intro out ho
      refine Ev.shift ?_
      simp (disch := omega) only [impl_expMap.l6, if_neg, wfs, List.append_nil]
      exact Ev.now _
    · intro i y r h0 h1 hx hm _ _ _ ihr out ho
      have hy := wids_mem hm
      refine Ev.shift ?_
      simp (disch := omega) only [impl_expMap.l6, if_pos, hx, w64, wfs, eTExpForm_eq]
      refine Ev.bind (ih y hm (by omega)) ?_
      simp (disch := first | omega | (simp; omega)) only [if_pos]
      exact Ev.eq (ihr (out ++ [wf (put n) y]) (by simp; omega)) (by simp)
theorem flip_impl : ∀ (n : Int) (x : TExpForm), wid x ≤ 1000000000 → Ev (fun k => impl_expMap__a.f k x n) (wf (flip n) x, n) := by
  intro n
  refine indForm fun x ih hw => ?_
  have hp := wid_parts x
  refine Ev.shift ?_
  simp only [impl_expMap__a.f, impl_expFlip_1.f]
  by_cases h : x.vSort = 1
  · simp only [if_pos h, wf_one _ h, flip]
    refine Ev.bind (r := (n, if x.vScopes.contains n = true then less n x.vScopes else put n x.vScopes)) (Ev.bind (has_impl x.vScopes n (by omega)) ?_) (Ev.now _)
    by_cases hc : x.vScopes.contains n = true
    · simp only [if_pos hc]; exact Ev.bind (drop_impl x.vScopes n (by omega)) (Ev.now _)
    · simp only [if_neg hc]; exact Ev.bind (add_impl x.vScopes n (by omega)) (Ev.now _)
  · simp only [if_neg h, wf_not _ h]
    refine goList x.vKids (P := fun i suf => ∀ out : List TExpForm, (out.length : Int) = i → Ev (fun k => impl_expMap__a.l6 k x.vKids (x.vKids.length : Int) i n x.vSort x.vText x.vScopes x.vFrom out) (⟨x.vSort, x.vText, x.vScopes, x.vFrom, out ++ wfs (flip n) suf⟩, n)) ?_ ?_ [] rfl
    · intro out ho
      refine Ev.shift ?_
      simp (disch := omega) only [impl_expMap__a.l6, if_neg, wfs, List.append_nil]
      exact Ev.now _
    · intro i y r h0 h1 hx hm _ _ _ ihr out ho
      have hy := wids_mem hm
      refine Ev.shift ?_
      simp (disch := omega) only [impl_expMap__a.l6, if_pos, hx, w64, wfs, eTExpForm_eq]
      refine Ev.bind (ih y hm (by omega)) ?_
      simp (disch := first | omega | (simp; omega)) only [if_pos]
      exact Ev.eq (ihr (out ++ [wf (flip n) y]) (by simp; omega)) (by simp)
theorem with_spec : ∀ (n : Int) (x : TExpForm), wid x ≤ 1000000000 → Ev (fun k => spec_l2With.f k x n) (wf (put n) x) := by
  intro n
  refine indForm fun x ih hw => ?_
  have hp := wid_parts x
  refine Ev.shift ?_
  simp only [spec_l2With.f, eTExpForm_eq]
  refine Ev.bind (copy_all x (by omega)) ?_
  by_cases h : x.vSort = 1
  · simp only [if_pos h, wf_one _ h]
    exact Ev.bind (put_spec x.vScopes n (by omega)) (Ev.now _)
  · simp only [if_neg h, wf_not _ h]
    refine goList x.vKids (P := fun i suf => ∀ out : List TExpForm, (out.length : Int) = i → Ev (fun k => spec_l2With.l6 k n i x.vSort x.vText x.vFrom x.vScopes (out ++ suf)) (⟨x.vSort, x.vText, x.vScopes, x.vFrom, out ++ wfs (put n) suf⟩)) ?_ ?_ [] rfl
    · intro out ho
      refine Ev.shift ?_
      simp (disch := first | omega | (simp; omega)) only [spec_l2With.l6, if_neg, wfs, List.append_nil]
      exact Ev.now _
    · intro i y r h0 h1 hx hm hl _ _ ihr out ho
      have hy := wids_mem hm
      refine Ev.shift ?_
      simp (disch := first | omega | (simp; omega)) only [spec_l2With.l6, if_pos, w64, wfs, eTExpForm_eq, spec_l2With.d8b, mid_getD ho, mid_set ho]
      refine Ev.bind (ih y hm (by omega)) ?_
      exact Ev.eq (ihr (out ++ [wf (put n) y]) (by simp; omega)) (by simp)
theorem flip_spec : ∀ (n : Int) (x : TExpForm), wid x ≤ 1000000000 → Ev (fun k => spec_l2Flip.f k x n) (wf (flip n) x) := by
  intro n
  refine indForm fun x ih hw => ?_
  have hp := wid_parts x
  refine Ev.shift ?_
  simp only [spec_l2Flip.f, eTExpForm_eq]
  refine Ev.bind (copy_all x (by omega)) ?_
  by_cases h : x.vSort = 1
  · simp only [if_pos h, wf_one _ h, flip]
    refine Ev.bind (has_spec x.vScopes n (by omega)) ?_
    by_cases hc : x.vScopes.contains n = true
    · simp only [if_pos hc]; exact Ev.bind (take_spec x.vScopes n (by omega)) (Ev.now _)
    · simp only [if_neg hc]; exact Ev.bind (put_spec x.vScopes n (by omega)) (Ev.now _)
  · simp only [if_neg h, wf_not _ h]
    refine goList x.vKids (P := fun i suf => ∀ out : List TExpForm, (out.length : Int) = i → Ev (fun k => spec_l2Flip.l8 k n i x.vSort x.vText x.vFrom x.vScopes (out ++ suf)) (⟨x.vSort, x.vText, x.vScopes, x.vFrom, out ++ wfs (flip n) suf⟩)) ?_ ?_ [] rfl
    · intro out ho
      refine Ev.shift ?_
      simp (disch := first | omega | (simp; omega)) only [spec_l2Flip.l8, if_neg, wfs, List.append_nil]
      exact Ev.now _
    · intro i y r h0 h1 hx hm hl _ _ ihr out ho
      have hy := wids_mem hm
      refine Ev.shift ?_
      simp (disch := first | omega | (simp; omega)) only [spec_l2Flip.l8, if_pos, w64, wfs, eTExpForm_eq, spec_l2Flip.d10b, mid_getD ho, mid_set ho]
      refine Ev.bind (ih y hm (by omega)) ?_
      exact Ev.eq (ihr (out ++ [wf (flip n) y]) (by simp; omega)) (by simp)
end Go.Proofs.YtmcbhnbemhfifaaDoor.RX
