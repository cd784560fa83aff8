/- FnExactExpPatternOk: whatever the form and the forms beside it, the law's function comes to true. Condition: sizes that a machine may hold. -/
import Derived.Test.YtmcbhnbemhfifaaDoorPoRxPattern
import Derived.Test.YtmcbhnbemhfifaaDoorPoRxExForm
namespace Go.Proofs.YtmcbhnbemhfifaaDoor.RX
open Go K
set_option autoImplicit false
set_option linter.unusedVariables false
set_option linter.unusedSimpArgs false
theorem law_pure (x : Tlaws_ExpForm) (l : List Tlaws_ExpForm) (hx : lokF x) (hl : l.length ≤ 9223372036854775807 ∧ lokFs l) : ∃ k, laws_FnExactExpPatternOk.f k x l = some true := by
  refine Ev.some ?_
  simp only [laws_FnExactExpPatternOk.f, eTlaws_ExpForm_eq, eTExpForm_eq]
  have hp := lwid_pos x
  have hq := lwids_pos l
  refine Ev.bind (szForm x hx 1048576 (by omega) (by omega)) ?_
  by_cases h1 : lwid x ≤ 1048576
  · rw [leftI_in h1]
    simp (disch := omega) only [if_neg]
    refine Ev.bind (szForms l hl.1 hl.2 _ (by omega) (by omega)) ?_
    by_cases h2 : (l.length : Int) + lwids l ≤ 1048576 - lwid x
    · rw [leftI_in h2]
      simp (disch := omega) only [if_neg]
      have c := toForm x (by omega)
      have cs := toForms l (by omega)
      have w1 := wid_cv x
      have w2 := wids_cvs l
      have sm : Sml (cvs l) := Sml.of (by omega)
      refine Ev.bind c (Ev.bind cs (Ev.bind (PatternOk_spec _ _ (by omega) sm) (Ev.bind c (Ev.bind cs (Ev.bind (PatternOk_impl _ _ (by omega) sm) ?_)))))
      simp only [not_true_eq_false, if_false, laws_FnExactExpPatternOk.d14, mTlaws_ExpForm, mTExpForm, eTExpForm_eq]
      refine Ev.bind c (Ev.bind (eqForm_same _ (by omega)) ?_)
      simp only [not_true_eq_false, if_false]
      refine Ev.bind cs (Ev.bind (eqForms_same _ (by omega)) ?_)
      simp only [not_true_eq_false, if_false]; exact Ev.now _
    · rw [leftI_out h2]
      simp only [show (-1 : Int) < 0 by decide, if_true]; exact Ev.now _
  · rw [leftI_out h1]
    simp only [show (-1 : Int) < 0 by decide, if_true]; exact Ev.now _
end Go.Proofs.YtmcbhnbemhfifaaDoor.RX
