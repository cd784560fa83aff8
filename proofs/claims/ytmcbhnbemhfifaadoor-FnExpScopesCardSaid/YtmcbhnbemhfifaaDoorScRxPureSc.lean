/- FnExpScopes: at every code of bytes the law's function comes to true. No other condition. -/
import Derived.Test.YtmcbhnbemhfifaaDoorScRxScope
import Derived.Test.YtmcbhnbemhfifaaDoorScRxShow
import Derived.Test.YtmcbhnbemhfifaaDoorScRxDrawForm
namespace Go.Proofs.YtmcbhnbemhfifaaDoor.RX
open Go K
set_option autoImplicit false
set_option linter.unusedVariables false
set_option linter.unusedSimpArgs false
theorem put_put (n : Int) (l : List Int) : put n (put n l) = put n l := by
  induction l with
  | nil => simp [put]
  | cons x l ih =>
    simp only [put]
    by_cases h1 : x < n
    · simp only [if_pos h1, put, ih]
    · by_cases h2 : x = n
      · simp only [if_neg h1, if_pos h2, put]
      · simp only [if_neg h1, if_neg h2, put, if_neg (Int.lt_irrefl n), if_true]
theorem asc_some {a : Int} {l : List Int} (h : ascFrom (some a) l = true) : ∀ x ∈ l, a < x := by
  induction l generalizing a with
  | nil => simp
  | cons b l ih =>
    simp only [ascFrom, Bool.and_eq_true, decide_eq_true_eq] at h
    intro x hx
    rcases List.mem_cons.1 hx with rfl | hx
    · omega
    · have := ih h.2 x hx; omega
theorem put_asc (n : Int) (hn : 0 ≤ n) : ∀ (l : List Int) (o : Option Int), (match o with | none => True | some p => p < n) → ascFrom o l = true → ascFrom o (put n l) = true := by
  intro l
  induction l with
  | nil =>
    intro o ho _
    cases o with
    | none => simp [put, ascFrom]; omega
    | some p => simp only at ho; simp [put, ascFrom]; omega
  | cons x l ih =>
    intro o ho h
    simp only [put]
    have h' := h
    simp only [ascFrom, Bool.and_eq_true] at h'
    by_cases h1 : x < n
    · rw [if_pos h1]
      simp only [ascFrom, Bool.and_eq_true]
      exact ⟨h'.1, ih (some x) h1 h'.2⟩
    rw [if_neg h1]
    by_cases h2 : x = n
    · rw [if_pos h2]; exact h
    rw [if_neg h2]
    simp only [ascFrom, Bool.and_eq_true, decide_eq_true_eq]
    refine ⟨⟨hn, ?_⟩, ⟨by have := h'.1.1; simp at this; omega, by omega⟩, h'.2⟩
    cases o with
    | none => rfl
    | some p => simp only at ho; simp; omega
theorem asc_lower {l : List Int} {o : Option Int} {a : Int} (ho : match o with | none => True | some p => p < a) (h : ascFrom (some a) l = true) : ascFrom o l = true := by
  cases l with
  | nil => rfl
  | cons b l =>
    simp only [ascFrom, Bool.and_eq_true, decide_eq_true_eq] at h ⊢
    refine ⟨⟨h.1.1, ?_⟩, h.2⟩
    cases o with
    | none => rfl
    | some p => simp only at ho; simp; omega
theorem less_asc (n : Int) : ∀ (l : List Int) (o : Option Int), ascFrom o l = true → ascFrom o (less n l) = true := by
  intro l
  induction l with
  | nil => intro o _; rfl
  | cons x l ih =>
    intro o h
    have h' := h
    simp only [ascFrom, Bool.and_eq_true] at h'
    simp only [less]
    by_cases hx : x = n
    · rw [if_pos hx]
      refine ih o (asc_lower (a := x) ?_ h'.2)
      cases o with
      | none => trivial
      | some p => have := h'.1.2; simp at this; exact this
    · rw [if_neg hx]
      simp only [ascFrom, Bool.and_eq_true]
      exact ⟨h'.1, ih (some x) h'.2⟩
theorem less_none {n : Int} {l : List Int} (h : ∀ x ∈ l, x ≠ n) : less n l = l := by
  induction l with
  | nil => rfl
  | cons x l ih => simp only [less, if_neg (h x (by simp)), ih (fun y hy => h y (List.mem_cons_of_mem _ hy))]
theorem less_put {n : Int} {l : List Int} (h : ∀ x ∈ l, x ≠ n) : less n (put n l) = l := by
  induction l with
  | nil => simp [put, less]
  | cons x l ih =>
    have hx := h x (by simp)
    simp only [put]
    by_cases h1 : x < n
    · simp only [if_pos h1, less, if_neg hx, ih (fun y hy => h y (List.mem_cons_of_mem _ hy))]
    · simp only [if_neg h1, if_neg hx, less, if_true, less_none (fun y hy => h y (List.mem_cons_of_mem _ hy))]
theorem put_has (n : Int) (l : List Int) : (put n l).contains n = true := by
  induction l with
  | nil => simp [put]
  | cons x l ih =>
    simp only [put]
    by_cases h1 : x < n
    · rw [if_pos h1, List.contains_cons, ih]; simp
    · by_cases h2 : x = n
      · rw [if_neg h1, if_pos h2]; simp [h2]
      · rw [if_neg h1, if_neg h2]; simp
theorem less_has (n : Int) (l : List Int) : (less n l).contains n = false := by
  induction l with
  | nil => rfl
  | cons x l ih =>
    simp only [less]
    by_cases h : x = n
    · rw [if_pos h]; exact ih
    · rw [if_neg h, List.contains_cons, ih]
      have : ¬ n = x := fun e => h e.symm
      simp [this]
theorem put_less {n : Int} : ∀ (l : List Int) (o : Option Int), ascFrom o l = true → l.contains n = true → put n (less n l) = l := by
  intro l
  induction l with
  | nil => intro o _ h; simp at h
  | cons x l ih =>
    intro o h hc
    simp only [ascFrom, Bool.and_eq_true] at h
    have ha := asc_some h.2
    simp only [less]
    by_cases hx : x = n
    · subst hx
      rw [if_pos rfl, less_none (fun y hy => by have := ha y hy; omega)]
      cases l with
      | nil => rfl
      | cons y l =>
        have := ha y (by simp)
        simp only [put, if_neg (show ¬ y < x by omega), if_neg (show ¬ y = x by omega)]
    · rw [if_neg hx]
      have hc' : l.contains n = true := by
        rw [List.contains_cons] at hc
        have : (n == x) = false := by simpa using fun e => hx e.symm
        simpa [this] using hc
      have hm : n ∈ l := by simpa using hc'
      have := ha n hm
      simp only [put, if_pos this, ih (some x) h.2 hc']
theorem flip_flip (n : Int) (l : List Int) (h : scOk l = true) : flip n (flip n l) = l := by
  unfold flip
  by_cases hc : l.contains n = true
  · rw [if_pos hc, if_neg (by rw [less_has]; decide)]
    exact put_less l none h hc
  · rw [if_neg hc, if_pos (put_has n l)]
    refine less_put (fun x hx e => hc ?_)
    subst e
    simpa using hx
theorem put_ok {n : Int} (hn : 0 ≤ n) (l : List Int) (h : scOk l = true) : scOk (put n l) = true := put_asc n hn l none trivial h
theorem flip_ok {n : Int} (hn : 0 ≤ n) (l : List Int) (h : scOk l = true) : scOk (flip n l) = true := by
  unfold flip
  split
  · exact less_asc n l none h
  · exact put_ok hn l h
theorem map_same {α : Type} (f g : α → α) (l : List α) (h : ∀ x ∈ l, f x = g x) : l.map f = l.map g := List.map_congr_left h
theorem wf_twice (g : List Int → List Int) (hg : ∀ l, g (g l) = g l) : ∀ x, wf g (wf g x) = wf g x := by
  refine indForm fun x ih => ?_
  by_cases h : x.vSort = 1
  · rw [wf_one g h, wf_one g (x := ⟨x.vSort, x.vText, g x.vScopes, x.vFrom, x.vKids⟩) h]
    simp only [hg]
  · rw [wf_not g h, wf_not g (x := ⟨x.vSort, x.vText, x.vScopes, x.vFrom, wfs g x.vKids⟩) h]
    simp only [wfs_map, List.map_map]
    congr 1
    exact List.map_congr_left fun y hy => ih y hy
theorem okfs_mem {l : List TExpForm} {d : Int} (h : okfs l d = true) : ∀ x ∈ l, okf x d = true := by
  induction l with
  | nil => intro x hx; cases hx
  | cons y l ih =>
    simp only [okfs, Bool.and_eq_true] at h
    intro x hx
    rcases List.mem_cons.1 hx with rfl | hx
    · exact h.1
    · exact ih h.2 x hx
theorem okfs_all {l : List TExpForm} {d : Int} (h : ∀ x ∈ l, okf x d = true) : okfs l d = true := by
  induction l with
  | nil => rfl
  | cons y l ih => simp only [okfs, Bool.and_eq_true]; exact ⟨h y (by simp), ih fun x hx => h x (List.mem_cons_of_mem _ hx)⟩
theorem okf_kids {x : TExpForm} {d : Int} (h : okf x d = true) (h1 : ¬ x.vSort = 1) (h2 : ¬ x.vSort = 2) : okfs x.vKids (d + 1) = true := by
  rw [okf_mk, if_neg h1, if_neg h2] at h
  simp only [Bool.and_eq_true] at h
  exact h.2.2.2.2.2.1
theorem okf_id {x : TExpForm} {d : Int} (h : okf x d = true) (h1 : x.vSort = 1) : scOk x.vScopes = true := by
  rw [okf_mk, if_pos h1] at h
  simp only [Bool.and_eq_true] at h
  exact h.2.2.2.2.1
theorem okf_atom {x : TExpForm} {d : Int} (h : okf x d = true) (h2 : x.vSort = 2) : x.vKids = [] := by
  rw [okf_mk, if_neg (by omega), if_pos h2] at h
  simp only [Bool.and_eq_true, decide_eq_true_eq] at h
  exact List.eq_nil_of_length_eq_zero (by omega)
theorem wf_back (g : List Int → List Int) (hg : ∀ l, scOk l = true → g (g l) = l) : ∀ x d, okf x d = true → wf g (wf g x) = x := by
  refine indForm fun x ih d hx => ?_
  by_cases h : x.vSort = 1
  · rw [wf_one g h, wf_one g (x := ⟨x.vSort, x.vText, g x.vScopes, x.vFrom, x.vKids⟩) h]
    simp only [hg _ (okf_id hx h), mTExpForm]
  · rw [wf_not g h, wf_not g (x := ⟨x.vSort, x.vText, x.vScopes, x.vFrom, wfs g x.vKids⟩) h]
    have hk : ∀ y ∈ x.vKids, okf y (d + 1) = true := by
      by_cases h2 : x.vSort = 2
      · rw [okf_atom hx h2]; intro y hy; cases hy
      · exact okfs_mem (okf_kids hx h h2)
    simp only [wfs_map, List.map_map]
    have : x.vKids.map (wf g ∘ wf g) = x.vKids := by
      conv => rhs; rw [← List.map_id x.vKids]
      exact List.map_congr_left fun y hy => ih y hy (d + 1) (hk y hy)
    rw [this, mTExpForm]
theorem lastOk_wfs (g : List Int → List Int) (l : List TExpForm) : lastOk (wfs g l) = lastOk l := by
  unfold lastOk
  rw [wfs_length]
  by_cases h : 2 ≤ (l.length : Int)
  · rw [wfs_map, rdAt_map (wf g) zTExpForm zTExpForm l _ (by omega) (by omega), wf_sort]
  · rw [decide_eq_false h]; rfl
theorem okf_wf (g : List Int → List Int) (hg : ∀ l, scOk l = true → scOk (g l) = true) : ∀ x d, okf x d = true → okf (wf g x) d = true := by
  refine indForm fun x ih d hx => ?_
  by_cases h : x.vSort = 1
  · have hs := hg _ (okf_id hx h)
    rw [wf_one g h, okf_mk]
    rw [okf_mk] at hx
    simp only [if_pos h, Bool.and_eq_true] at hx ⊢
    exact ⟨hx.1, hx.2.1, hx.2.2.1, hx.2.2.2.1, hs, hx.2.2.2.2.2⟩
  · by_cases h2 : x.vSort = 2
    · have hk := okf_atom hx h2
      rw [wf_not g h, hk]
      rw [show wfs g [] = x.vKids by rw [hk]; rfl]
      rw [mTExpForm]; exact hx
    · have hk := okf_kids hx h h2
      rw [wf_not g h, okf_mk]
      rw [okf_mk] at hx
      simp only [if_neg h, if_neg h2, Bool.and_eq_true] at hx ⊢
      refine ⟨hx.1, hx.2.1, hx.2.2.1, hx.2.2.2.1, hx.2.2.2.2.1, ?_, by rw [lastOk_wfs]; exact hx.2.2.2.2.2.2⟩
      rw [wfs_map]
      refine okfs_all fun y hy => ?_
      obtain ⟨z, hz, rfl⟩ := List.mem_map.1 hy
      exact ih z hz _ (okfs_mem hk z hz)
theorem cnt_wf (g : List Int → List Int) : ∀ x, cnt (wf g x) = cnt x := by
  refine indForm fun x ih => ?_
  have key : ∀ l : List TExpForm, (∀ y ∈ l, cnt (wf g y) = cnt y) → cnts (wfs g l) = cnts l := by
    intro l
    induction l with
    | nil => intro _; rfl
    | cons y l ihl => intro h; simp only [wfs, cnts, h y (by simp), ihl fun z hz => h z (List.mem_cons_of_mem _ hz)]
  by_cases h : x.vSort = 1
  · rw [wf_one g h, cnt_mk, cnt_mk x]
  · rw [wf_not g h, cnt_mk, cnt_mk x, key _ ih]
theorem okb_wf (g : List Int → List Int) (hg : ∀ l, scOk l = true → scOk (g l) = true) (x : TExpForm) (h : okb x = true) : okb (wf g x) = true := by
  unfold okb at h ⊢
  rw [Bool.and_eq_true] at h ⊢
  exact ⟨okf_wf g hg x 0 h.1, by rw [cnt_wf]; exact h.2⟩
theorem shw_wf (g : List Int → List Int) : ∀ x, shw (wf g x) = shw x := by
  refine indForm fun x ih => ?_
  have key : ∀ (d : Bool) (l : List TExpForm), (∀ y ∈ l, shw (wf g y) = shw y) → shws d (wfs g l) = shws d l := by
    intro d l
    induction l with
    | nil => intro _; rfl
    | cons y l ihl => intro h; simp only [wfs, shws, h y (by simp), wfs_length, ihl fun z hz => h z (List.mem_cons_of_mem _ hz)]
  by_cases h : x.vSort = 1
  · rw [wf_one g h, shw_mk, shw_mk x]
  · rw [wf_not g h, shw_mk, shw_mk x, key _ _ ih]
theorem wid_wf (g : List Int → List Int) (hg : ∀ l, (g l).length ≤ l.length + 1) : ∀ x, wid (wf g x) ≤ 2 * wid x := by
  refine indForm fun x ih => ?_
  have key : ∀ l : List TExpForm, (∀ y ∈ l, wid (wf g y) ≤ 2 * wid y) → wids (wfs g l) ≤ 2 * wids l := by
    intro l
    induction l with
    | nil => intro _; simp [wfs, wids]
    | cons y l ihl =>
      intro h
      have h1 := h y (by simp)
      have h2 := ihl fun z hz => h z (List.mem_cons_of_mem _ hz)
      simp only [wfs, wids]; omega
  have hp := wid_parts x
  have := wid_mk x
  by_cases h : x.vSort = 1
  · have := hg x.vScopes
    rw [wf_one g h, wid_c]; omega
  · have := key _ ih
    rw [wf_not g h, wid_c]; omega
-- ------------------------------------------------------------ compared with itself
theorem wxInts_same (l : List Int) (hl : (l.length : Int) ≤ 1000000000) : Ev (fun k => laws_wxInts.f k l l) true := by
  simp (disch := omega) only [laws_wxInts.f, if_neg]
  refine goList l (P := fun i suf => Ev (fun k => laws_wxInts.l4 k l l i) true) ?_ ?_
  · refine Ev.shift ?_
    simp (disch := omega) only [laws_wxInts.l4, if_neg]; exact Ev.now _
  · intro i x r h0 h1 hx hm _ _ _ ih
    refine Ev.shift ?_
    simp (disch := omega) only [laws_wxInts.l4, if_pos, not_true_eq_false, if_false, w64]; exact ih
theorem wxForm_same : ∀ x : TExpForm, wid x ≤ 1000000000 → Ev (fun k => laws_wxForm.f k x x) true := by
  refine indForm fun x ih hw => ?_
  have hp := wid_parts x
  refine Ev.shift ?_
  simp only [laws_wxForm.f, if_true]
  refine Ev.bind (wxInts_same _ (by omega)) ?_
  simp only [if_true]
  refine Ev.bind (r := true) (Ev.shift ?_) (Ev.now _)
  simp (disch := omega) only [laws_wxForms.f, if_neg]
  refine goList x.vKids (P := fun i suf => Ev (fun k => laws_wxForms.l4 k x.vKids x.vKids i) true) ?_ ?_
  · refine Ev.shift ?_
    simp (disch := omega) only [laws_wxForms.l4, if_neg]; exact Ev.now _
  · intro i y r h0 h1 hx hm _ _ _ ihr
    have hy := wids_mem hm
    refine Ev.shift ?_
    simp (disch := omega) only [laws_wxForms.l4, if_pos, hx, eTExpForm_eq, w64]
    refine Ev.bind (ih y hm (by omega)) ?_
    simp only [not_true_eq_false, if_false]; exact ihr
def zf : TExpForm := ⟨0, ByteArray.empty, [], 0, []⟩
def withF (x : TExpForm) (n : Int) : TExpForm := if okb x = true ∧ 0 ≤ n then wf (put n) x else zf
def flipF (x : TExpForm) (n : Int) : TExpForm := if okb x = true ∧ 0 ≤ n then wf (flip n) x else zf
theorem ExpWith_impl (x : TExpForm) (n : Int) (hw : wid x ≤ 1000000000) : Ev (fun k => impl_ExpWith.f k x n) (withF x n) := by
  simp only [impl_ExpWith.f, impl_expWith.f, eTExpForm_eq, withF]
  refine Ev.bind (formOk_impl x hw) ?_
  by_cases h : okb x = true
  · by_cases h0 : 0 ≤ n
    · simp (disch := omega) only [h, not_true_eq_false, if_false, if_neg, h0, and_self, if_true]
      exact Ev.bind (Ev.bind (with_impl n x hw) (Ev.now _)) (Ev.now _)
    · simp (disch := omega) only [h, not_true_eq_false, if_false, if_pos, h0, and_false]; exact Ev.now _
  · simp only [h, not_false_eq_true, if_true, false_and, if_false]; exact Ev.now _
theorem ExpFlip_impl (x : TExpForm) (n : Int) (hw : wid x ≤ 1000000000) : Ev (fun k => impl_ExpFlip.f k x n) (flipF x n) := by
  simp only [impl_ExpFlip.f, impl_expFlip.f, eTExpForm_eq, flipF]
  refine Ev.bind (formOk_impl x hw) ?_
  by_cases h : okb x = true
  · by_cases h0 : 0 ≤ n
    · simp (disch := omega) only [h, not_true_eq_false, if_false, if_neg, h0, and_self, if_true]
      exact Ev.bind (Ev.bind (flip_impl n x hw) (Ev.now _)) (Ev.now _)
    · simp (disch := omega) only [h, not_true_eq_false, if_false, if_pos, h0, and_false]; exact Ev.now _
  · simp only [h, not_false_eq_true, if_true, false_and, if_false]; exact Ev.now _
theorem ExpWith_spec (x : TExpForm) (n : Int) (hw : wid x ≤ 1000000000) : Ev (fun k => spec_ExpWith.f k x n) (withF x n) := by
  simp only [spec_ExpWith.f, eTExpForm_eq, withF]
  refine Ev.bind (formOk_spec x hw) ?_
  by_cases h : okb x = true
  · by_cases h0 : 0 ≤ n
    · simp (disch := omega) only [h, not_true_eq_false, if_false, if_neg, h0, and_self, if_true]
      exact Ev.bind (with_spec n x hw) (Ev.now _)
    · simp (disch := omega) only [h, not_true_eq_false, if_false, if_pos, h0, and_false]; exact Ev.now _
  · simp only [h, not_false_eq_true, if_true, false_and, if_false]; exact Ev.now _
theorem ExpFlip_spec (x : TExpForm) (n : Int) (hw : wid x ≤ 1000000000) : Ev (fun k => spec_ExpFlip.f k x n) (flipF x n) := by
  simp only [spec_ExpFlip.f, eTExpForm_eq, flipF]
  refine Ev.bind (formOk_spec x hw) ?_
  by_cases h : okb x = true
  · by_cases h0 : 0 ≤ n
    · simp (disch := omega) only [h, not_true_eq_false, if_false, if_neg, h0, and_self, if_true]
      exact Ev.bind (flip_spec n x hw) (Ev.now _)
    · simp (disch := omega) only [h, not_true_eq_false, if_false, if_pos, h0, and_false]; exact Ev.now _
  · simp only [h, not_false_eq_true, if_true, false_and, if_false]; exact Ev.now _
theorem ExpShow_impl (x : TExpForm) (hw : wid x ≤ 100000000) : Ev (fun k => impl_ExpShow.f k x) (if okb x = true then shw x else ByteArray.mk #[]) := by
  simp only [impl_ExpShow.f, eTExpForm_eq]
  refine Ev.bind (formOk_impl x (by omega)) ?_
  by_cases h : okb x = true
  · simp only [h, not_true_eq_false, if_false, if_true]; exact Ev.bind (show_impl x hw) (Ev.now _)
  · simp only [h, not_false_eq_true, if_true, if_false]; exact Ev.now _
theorem law_pure (xs : List Int) (hx : ∀ x ∈ xs, 0 ≤ x ∧ x ≤ 255) : ∃ k, laws_FnExpScopes.f k xs = some true := by
  refine Ev.some ?_
  simp only [laws_FnExpScopes.f]
  by_cases hl : 1048576 < (xs.length : Int)
  · simp only [if_pos hl]; exact Ev.now _
  simp only [if_neg hl]
  have hd : Evs (fun k => spec_DrawExpWith.f k xs) (fun r => wid r.1 ≤ 1000) := by
    simp only [spec_DrawExpWith.f]
    refine Evs.bind (open_ok xs hx) fun r ⟨h1, h2⟩ => ?_
    rw [h2]
    refine Evs.bind (any_ok h1 (by omega) (by omega)) fun q ⟨⟨g1, g2, g3⟩, g4⟩ => ?_
    rw [g1]
    refine Evs.bind (pick_ok 5 h1 (by omega) (by omega)) fun s _ => ?_
    exact Evs.now (by show wid (eTExpForm q.1) ≤ _; rw [eTExpForm_eq]; exact g4)
  obtain ⟨⟨x, n⟩, hw, hdr⟩ := hd
  have hw : wid x ≤ 1000 := hw
  refine Ev.bind hdr ?_
  have hz : wid zf ≤ 1000 := by simp [zf, wid_c, wids]
  have w1 : wid (withF x n) ≤ 2000 := by
    unfold withF; split
    · have := wid_wf (put n) (put_length n) x; omega
    · omega
  have w2 : wid (flipF x n) ≤ 2000 := by
    unfold flipF; split
    · have := wid_wf (flip n) (flip_length n) x; omega
    · omega
  simp only [eTExpForm_eq]
  refine Ev.bind (ExpWith_impl x n (by omega)) (Ev.bind (ExpFlip_impl x n (by omega)) ?_)
  simp only [laws_FnExpScopes.d6, laws_FnExpScopes.j8, laws_FnExpScopes.j10, laws_FnExpScopes.d10, mTExpForm, eTExpForm_eq]
  refine Ev.bind (ExpWith_spec x n (by omega)) (Ev.bind (wxForm_same _ (by omega)) ?_)
  simp only [not_true_eq_false, if_false]
  refine Ev.bind (ExpFlip_spec x n (by omega)) (Ev.bind (wxForm_same _ (by omega)) ?_)
  simp only [not_true_eq_false, if_false]
  refine Ev.bind (formOk_impl x (by omega)) (Ev.bind (formOk_spec x (by omega)) ?_)
  simp only [not_true_eq_false, if_false]
  refine Ev.bind (formOk_spec x (by omega)) ?_
  by_cases hb : okb x = true
  · simp only [hb, not_true_eq_false, if_false]
    by_cases h0 : n < 0
    · have e1 : withF x n = zf := by unfold withF; rw [if_neg (by omega)]
      have e2 : flipF x n = zf := by unfold flipF; rw [if_neg (by omega)]
      simp only [if_pos h0, e1, e2]
      exact Ev.now _
    · have h0' : 0 ≤ n := by omega
      have e1 : withF x n = wf (put n) x := by unfold withF; rw [if_pos ⟨hb, h0'⟩]
      have e2 : flipF x n = wf (flip n) x := by unfold flipF; rw [if_pos ⟨hb, h0'⟩]
      have hbx := hb
      unfold okb at hbx
      rw [Bool.and_eq_true] at hbx
      have k1 : okb (wf (put n) x) = true := okb_wf _ (fun l => put_ok h0' l) x hb
      have k2 : okb (wf (flip n) x) = true := okb_wf _ (fun l => flip_ok h0' l) x hb
      have v1 : withF (wf (put n) x) n = wf (put n) x := by unfold withF; rw [if_pos ⟨k1, h0'⟩, wf_twice _ (put_put n)]
      have v2 : flipF (wf (flip n) x) n = x := by unfold flipF; rw [if_pos ⟨k2, h0'⟩, wf_back _ (flip_flip n) x 0 hbx.1]
      rw [e1] at w1
      rw [e2] at w2
      simp only [if_neg h0, e1, e2]
      refine Ev.bind (ExpWith_impl _ n (by omega)) ?_
      rw [v1]
      refine Ev.bind (wxForm_same _ (by omega)) ?_
      simp only [if_true]
      refine Ev.bind (ExpFlip_impl _ n (by omega)) ?_
      rw [v2]
      refine Ev.bind (wxForm_same _ (by omega)) ?_
      simp only [if_true]
      refine Ev.bind (ExpShow_impl _ (by omega)) (Ev.bind (ExpShow_impl _ (by omega)) ?_)
      simp only [k1, hb, if_true, shw_wf]
      refine Ev.bind (formOk_impl _ (by omega)) ?_
      simp only [k1, if_true]
      exact Ev.bind (formOk_impl _ (by omega)) (k2 ▸ Ev.now _)
  · have e1 : withF x n = zf := by unfold withF; rw [if_neg (fun h => hb h.1)]
    have e2 : flipF x n = zf := by unfold flipF; rw [if_neg (fun h => hb h.1)]
    simp only [hb, not_false_eq_true, if_true, e1, e2]
    exact Ev.now _
end Go.Proofs.YtmcbhnbemhfifaaDoor.RX
