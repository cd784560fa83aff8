/- Whether a form is ok: the reference's walk and the program's count answer the same. Condition: the form is not very large. -/
import Derived.Test.YtmcbhnbemhfifaaDoorPoRxForm
import Derived.Test.YtmcbhnbemhfifaaDoorPoRxAtom
namespace Go.Proofs.YtmcbhnbemhfifaaDoor.RX
open Go K
set_option autoImplicit false
set_option linter.unusedVariables false
set_option linter.unusedSimpArgs false
/-- Ascending, none below 0, all more than one ahead. -/
def ascFrom : Option Int → List Int → Bool
  | _, [] => true
  | o, x :: l => decide (0 ≤ x) && (match o with | none => true | some p => decide (p < x)) && ascFrom (some x) l
def scOk (l : List Int) : Bool := ascFrom none l
def lastOk (ks : List TExpForm) : Bool := decide (2 ≤ (ks.length : Int)) && (decide ((rdAt zTExpForm ks ((ks.length : Int) - 1)).vSort = 1) || decide ((rdAt zTExpForm ks ((ks.length : Int) - 1)).vSort = 2))
mutual
/-- A form is ok, from a depth on, but for how many it is. -/
def okf : TExpForm → Int → Bool
  | ⟨a, t, sc, d, ks⟩, deep => decide (deep ≤ 60) && (if a = 1 then idB t && (decide ((t.size : Int) ≤ 40) && (decide (0 ≤ d) && (scOk sc && decide ((ks.length : Int) = 0))))
    else if a = 2 then atomB t && (decide ((t.size : Int) ≤ 40) && (decide (d = 0) && (decide ((sc.length : Int) = 0) && decide ((ks.length : Int) = 0))))
    else (decide (a = 3) || decide (a = 4)) && (decide (bytesOf t = []) && (decide (d = 0) && (decide ((sc.length : Int) = 0) && (okfs ks (deep + 1) && (decide (a = 3) || lastOk ks))))))
def okfs : List TExpForm → Int → Bool
  | [], _ => true
  | x :: l, deep => okf x deep && okfs l deep
end
mutual
/-- How many forms a form is. -/
def cnt : TExpForm → Int
  | ⟨_, _, _, _, ks⟩ => 1 + cnts ks
def cnts : List TExpForm → Int
  | [] => 0
  | x :: l => cnt x + cnts l
end
theorem okf_mk (x : TExpForm) (deep : Int) : okf x deep = (decide (deep ≤ 60) && (if x.vSort = 1 then idB x.vText && (decide ((x.vText.size : Int) ≤ 40) && (decide (0 ≤ x.vFrom) && (scOk x.vScopes && decide ((x.vKids.length : Int) = 0))))
    else if x.vSort = 2 then atomB x.vText && (decide ((x.vText.size : Int) ≤ 40) && (decide (x.vFrom = 0) && (decide ((x.vScopes.length : Int) = 0) && decide ((x.vKids.length : Int) = 0))))
    else (decide (x.vSort = 3) || decide (x.vSort = 4)) && (decide (bytesOf x.vText = []) && (decide (x.vFrom = 0) && (decide ((x.vScopes.length : Int) = 0) && (okfs x.vKids (deep + 1) && (decide (x.vSort = 3) || lastOk x.vKids))))))) := by cases x; simp only [okf]
theorem cnt_mk (x : TExpForm) : cnt x = 1 + cnts x.vKids := by cases x; simp only [cnt]
theorem cnt_pos : ∀ x, 1 ≤ cnt x ∧ cnt x ≤ wid x := by
  refine indForm fun x ih => ?_
  have : ∀ l : List TExpForm, (∀ y ∈ l, 1 ≤ cnt y ∧ cnt y ≤ wid y) → 0 ≤ cnts l ∧ cnts l ≤ wids l := by
    intro l
    induction l with
    | nil => intro _; simp [cnts, wids]
    | cons y l ihl =>
      intro h
      have := h y (by simp)
      have := ihl fun z hz => h z (List.mem_cons_of_mem _ hz)
      simp only [cnts, wids]; omega
  have := this _ ih
  rw [cnt_mk, wid_mk]
  omega
theorem cnts_le (l : List TExpForm) : 0 ≤ cnts l ∧ cnts l ≤ wids l := by
  induction l with
  | nil => simp [cnts, wids]
  | cons x l ih =>
    have := cnt_pos x
    simp only [cnts, wids]; omega
def okb (x : TExpForm) : Bool := okf x 0 && leB (cnt x) 1500
theorem scopes_spec (l : List Int) (hl : (l.length : Int) ≤ 1000000000) : Ev (fun k => spec_l1ScopesOk.f k l) (scOk l) := by
  simp only [spec_l1ScopesOk.f]
  refine goList l (P := fun i suf => ∀ o : Option Int, (match o with | none => i = 0 | some p => 0 < i ∧ rdAt 0 l (i - 1) = p) → Ev (fun k => spec_l1ScopesOk.l2 k l i) (ascFrom o suf)) ?_ ?_ none rfl
  · intro o ho
    refine Ev.shift ?_
    simp (disch := omega) only [spec_l1ScopesOk.l2, if_neg, ascFrom]
    exact Ev.now _
  · intro i x r h0 h1 hx hm _ _ _ ih o ho
    refine Ev.shift ?_
    simp (disch := omega) only [spec_l1ScopesOk.l2, if_pos, hx, w64, ascFrom]
    by_cases a0 : x < 0
    · simp (disch := omega) only [if_pos, decide_eq_false, Bool.false_and]; exact Ev.now _
    have a0' : decide (0 ≤ x) = true := by simpa using a0
    simp only [if_neg a0, a0', Bool.true_and]
    have ih' := ih (some x) ⟨by omega, by rw [show i + 1 - 1 = i by omega]; exact hx 0⟩
    cases o with
    | none =>
      have ho : i = 0 := ho
      simp (disch := omega) only [if_neg, Bool.true_and]
      exact ih'
    | some p =>
      obtain ⟨o1, o2⟩ : 0 < i ∧ rdAt 0 l (i - 1) = p := ho
      simp (disch := omega) only [if_pos, o2]
      by_cases a1 : x ≤ p
      · simp (disch := omega) only [if_pos, decide_eq_false, Bool.false_and]; exact Ev.now _
      · simp (disch := omega) only [if_neg, decide_eq_true (show p < x by omega), Bool.true_and]; exact ih'
theorem scopes_impl (n : Int) (l : List Int) (hl : (l.length : Int) ≤ 1000000000) : Ev (fun k => impl_expCount.j9 k n l) (if scOk l then n else -1) := by
  simp only [impl_expCount.j9]
  refine goList l (P := fun i suf => ∀ o : Option Int, (match o with | none => i = 0 | some p => 0 < i ∧ rdAt 0 l (i - 1) = p) → Ev (fun k => impl_expCount.l10 k n l (l.length : Int) i l) (if ascFrom o suf then n else -1)) ?_ ?_ none rfl
  · intro o ho
    refine Ev.shift ?_
    simp (disch := omega) only [impl_expCount.l10, if_neg, ascFrom, if_true]
    exact Ev.now _
  · intro i x r h0 h1 hx hm _ _ _ ih o ho
    refine Ev.shift ?_
    simp (disch := omega) only [impl_expCount.l10, if_pos, hx, w64, ascFrom]
    by_cases a0 : x < 0
    · simp (disch := omega) only [if_pos, decide_eq_false, Bool.false_and, Bool.false_eq_true, if_false]; exact Ev.now _
    have a0' : decide (0 ≤ x) = true := by simpa using a0
    simp only [if_neg a0, a0', Bool.true_and]
    have ih' := ih (some x) ⟨by omega, by rw [show i + 1 - 1 = i by omega]; exact hx 0⟩
    cases o with
    | none =>
      have ho : i = 0 := ho
      simp (disch := omega) only [if_neg, Bool.true_and]
      exact ih'
    | some p =>
      obtain ⟨o1, o2⟩ : 0 < i ∧ rdAt 0 l (i - 1) = p := ho
      simp (disch := omega) only [if_pos, o2]
      by_cases a1 : x ≤ p
      · simp (disch := omega) only [if_pos, decide_eq_false, Bool.false_and, Bool.false_eq_true, if_false]; exact Ev.now _
      · simp (disch := omega) only [if_neg, decide_eq_true (show p < x by omega), Bool.true_and]; exact ih'
theorem ok_spec : ∀ (x : TExpForm) (deep : Int), wid x ≤ 1000000000 → 0 ≤ deep → deep ≤ 1000000000 → Ev (fun k => spec_l1Ok.f k x deep) (okf x deep) := by
  refine indForm fun x ih deep hw h0 hd => ?_
  have hp := wid_parts x
  rw [okf_mk]
  refine Ev.shift ?_
  simp only [spec_l1Ok.f]
  by_cases a0 : 60 < deep
  · simp (disch := omega) only [if_pos, decide_eq_false, Bool.false_and]; exact Ev.now _
  simp (disch := omega) only [if_neg a0, decide_eq_true (show deep ≤ 60 by omega), Bool.true_and]
  by_cases a1 : x.vSort = 1
  · simp only [if_pos a1]
    refine Ev.bind (id_spec _ (by omega)) ?_
    cases idB x.vText with
    | false => simp only [Bool.false_eq_true, if_false, Bool.false_and]; exact Ev.now _
    | true =>
      simp only [if_true, Bool.true_and]
      by_cases a2 : (x.vText.size : Int) ≤ 40
      · simp only [if_pos a2, decide_eq_true a2, Bool.true_and]
        by_cases a3 : 0 ≤ x.vFrom
        · simp only [if_pos a3, decide_eq_true a3, Bool.true_and]
          refine Ev.bind (scopes_spec _ (by omega)) ?_
          cases scOk x.vScopes with
          | false => simp only [Bool.false_eq_true, if_false, Bool.false_and]; exact Ev.now _
          | true => simp only [if_true, Bool.true_and]; exact Ev.now _
        · simp only [if_neg a3, decide_eq_false a3, Bool.false_and]; exact Ev.now _
      · simp only [if_neg a2, decide_eq_false a2, Bool.false_and]; exact Ev.now _
  simp only [if_neg a1]
  by_cases a2 : x.vSort = 2
  · simp only [if_pos a2]
    refine Ev.bind (atom_spec _ (by omega)) ?_
    cases atomB x.vText with
    | false => simp only [Bool.false_eq_true, if_false, Bool.false_and]; exact Ev.now _
    | true =>
      simp only [if_true, Bool.true_and]
      by_cases a2 : (x.vText.size : Int) ≤ 40
      · simp only [if_pos a2, decide_eq_true a2, Bool.true_and]
        by_cases a3 : x.vFrom = 0
        · simp (disch := omega) only [if_pos a3, decide_eq_true a3, Bool.true_and, w64]
          by_cases a4 : (x.vScopes.length : Int) = 0
          · rw [decide_eq_true a4, Bool.true_and, a4]; simp only [Int.zero_add]; exact Ev.now _
          · rw [decide_eq_false a4, Bool.false_and]; simp (disch := omega) only [decide_eq_false]; exact Ev.now _
        · simp only [if_neg a3, decide_eq_false a3, Bool.false_and]; exact Ev.now _
      · simp only [if_neg a2, decide_eq_false a2, Bool.false_and]; exact Ev.now _
  simp only [if_neg a2]
  have list : ∀ b : Bool, b = (decide (x.vSort = 3) || decide (x.vSort = 4)) → Ev (fun k => spec_l1Ok.j11b k (spec_l1Ok.f k) (spec_l1Ok.l14 k) deep b x.vSort x.vText x.vScopes x.vFrom x.vKids)
      ((decide (x.vSort = 3) || decide (x.vSort = 4)) && (decide (bytesOf x.vText = []) && (decide (x.vFrom = 0) && (decide ((x.vScopes.length : Int) = 0) && (okfs x.vKids (deep + 1) && (decide (x.vSort = 3) || lastOk x.vKids)))))) := by
    intro b hb
    rw [← hb]
    simp only [spec_l1Ok.j11b, spec_l1Ok.j13b, lit_eq #[] [] rfl]
    cases b with
    | false => simp only [Bool.false_eq_true, if_false, Bool.false_and]; exact Ev.now _
    | true =>
      simp only [if_true, Bool.true_and]
      by_cases a3 : bytesOf x.vText = []
      · simp only [if_neg (decide_not_ne a3), decide_eq_true a3, Bool.true_and]
        by_cases a4 : x.vFrom = 0
        · simp only [if_neg (decide_not_ne a4), decide_eq_true a4, Bool.true_and]
          by_cases a5 : (x.vScopes.length : Int) = 0
          · simp (disch := omega) only [if_neg, decide_eq_true a5, Bool.true_and]
            refine goList x.vKids (P := fun i suf => Ev (fun k => spec_l1Ok.l14 k deep i x.vSort x.vKids) (okfs suf (deep + 1) && (decide (x.vSort = 3) || lastOk x.vKids))) ?_ ?_
            · refine Ev.shift ?_
              simp (disch := omega) only [spec_l1Ok.l14, if_neg, okfs, Bool.true_and]
              by_cases a6 : x.vSort = 3
              · simp only [if_pos a6, decide_eq_true a6, Bool.true_or]; exact Ev.now _
              simp only [if_neg a6, decide_eq_false a6, Bool.false_or, lastOk]
              by_cases a7 : 1 < (x.vKids.length : Int)
              · simp (disch := omega) only [if_pos, w64, decide_eq_true (show 2 ≤ (x.vKids.length : Int) by omega), Bool.true_and]
                by_cases a8 : (rdAt zTExpForm x.vKids ((x.vKids.length : Int) - 1)).vSort = 1
                · simp only [if_pos a8, decide_eq_true a8, Bool.true_or]; exact Ev.now _
                · simp only [if_neg a8, decide_eq_false a8, Bool.false_or]; exact Ev.now _
              · simp (disch := omega) only [if_neg, decide_eq_false (show ¬ 2 ≤ (x.vKids.length : Int) by omega), Bool.false_and]; exact Ev.now _
            · intro i y r h0 h1 hx hm _ _ _ ihr
              have hy := wids_mem hm
              refine Ev.shift ?_
              simp (disch := omega) only [spec_l1Ok.l14, if_pos, hx, eTExpForm_eq, w64, okfs]
              refine Ev.bind (ih y hm (deep + 1) (by omega) (by omega) (by omega)) ?_
              cases okf y (deep + 1) with
              | false => simp only [Bool.false_eq_true, not_false_eq_true, if_true, Bool.false_and]; exact Ev.now _
              | true => simp only [not_true_eq_false, if_false, Bool.true_and]; exact ihr
          · simp (disch := omega) only [if_pos, decide_eq_false a5, Bool.false_and]; exact Ev.now _
        · simp only [if_pos a4, decide_eq_false a4, Bool.false_and]; exact Ev.now _
      · simp only [if_pos a3, decide_eq_false a3, Bool.false_and]; exact Ev.now _
  by_cases a3 : x.vSort = 3
  · simp only [if_pos a3]
    exact list true (by rw [decide_eq_true a3, Bool.true_or])
  · simp only [if_neg a3]
    exact list _ (by rw [decide_eq_false a3, Bool.false_or])
theorem size_spec : ∀ (x : TExpForm), wid x ≤ 1000000000 → Ev (fun k => spec_l1Size.f k x) (cnt x) := by
  refine indForm fun x ih hw => ?_
  have hp := wid_parts x
  rw [cnt_mk]
  refine Ev.shift ?_
  simp only [spec_l1Size.f]
  refine goList x.vKids (P := fun i suf => ∀ n : Int, 1 ≤ n → n + cnts suf ≤ 1000000000 → Ev (fun k => spec_l1Size.l3 k n i x.vKids) (n + cnts suf)) ?_ ?_ 1 (by omega) (by have := cnts_le x.vKids; omega)
  · intro n h1 h2
    refine Ev.shift ?_
    simp (disch := omega) only [spec_l1Size.l3, if_neg, cnts, Int.add_zero]
    exact Ev.now _
  · intro i y r h0 h1 hx hm _ _ _ ihr n hn hs
    have hy := wids_mem hm
    have hc := cnt_pos y
    have hr := cnts_le r
    simp only [cnts] at hs ⊢
    refine Ev.shift ?_
    simp (disch := omega) only [spec_l1Size.l3, if_pos, hx, eTExpForm_eq]
    refine Ev.bind (ih y hm (by omega)) ?_
    simp (disch := omega) only [w64]
    rw [← Int.add_assoc]
    exact ihr _ (by omega) (by omega)
theorem formOk_spec (x : TExpForm) (hw : wid x ≤ 1000000000) : Ev (fun k => spec_ExpFormOk.f k x) (okb x) := by
  simp only [spec_ExpFormOk.f, eTExpForm_eq, okb, leB]
  refine Ev.bind (ok_spec x 0 hw (by omega) (by omega)) ?_
  cases okf x 0 with
  | false => simp only [Bool.false_eq_true, if_false, Bool.false_and]; exact Ev.now _
  | true =>
    simp only [if_true, Bool.true_and]
    exact Ev.bind (size_spec x hw) (Ev.now _)
/-- What the program's count comes to. -/
def counted (x : TExpForm) (deep : Int) : Int := if okf x deep && leB (cnt x) 1500 then cnt x else -1
theorem count_impl : ∀ (x : TExpForm) (deep : Int), wid x ≤ 1000000000 → 0 ≤ deep → deep ≤ 1000000000 → Ev (fun k => impl_expCount.f k x deep) (counted x deep) := by
  refine indForm fun x ih deep hw h0 hd => ?_
  have hp := wid_parts x
  have hcx := cnt_mk x
  unfold counted
  rw [okf_mk]
  refine Ev.shift ?_
  simp only [impl_expCount.f]
  by_cases a0 : 60 < deep
  · simp (disch := omega) only [if_pos, decide_eq_false, Bool.false_and, Bool.false_eq_true, if_false]; exact Ev.now _
  simp (disch := omega) only [if_neg a0, decide_eq_true (show deep ≤ 60 by omega), Bool.true_and]
  by_cases a1 : x.vSort = 1
  · simp only [if_pos a1]
    refine Ev.bind (id_impl _ (by omega)) ?_
    cases idB x.vText with
    | false => simp only [Bool.false_eq_true, not_false_eq_true, if_true, if_false, Bool.false_and]; exact Ev.now _
    | true =>
      simp only [not_true_eq_false, if_false, Bool.true_and]
      by_cases a2 : (x.vText.size : Int) ≤ 40
      · simp (disch := omega) only [if_neg, decide_eq_true a2, Bool.true_and]
        by_cases a3 : 0 ≤ x.vFrom
        · simp (disch := omega) only [if_neg, decide_eq_true a3, Bool.true_and]
          by_cases a4 : (x.vKids.length : Int) = 0
          · have hk : cnt x = 1 := by rw [hcx, List.eq_nil_of_length_eq_zero (by omega : x.vKids.length = 0)]; rfl
            simp (disch := omega) only [if_neg, decide_eq_true a4, Bool.and_true, hk, leB_t (show (1 : Int) ≤ 1500 by decide)]
            exact scopes_impl 1 _ (by omega)
          · simp (disch := omega) only [if_pos, decide_eq_false a4, Bool.and_false, Bool.false_and, Bool.false_eq_true, if_false]; exact Ev.now _
        · simp (disch := omega) only [if_pos, decide_eq_false a3, Bool.false_and, Bool.false_eq_true, if_false]; exact Ev.now _
      · simp (disch := omega) only [if_pos, decide_eq_false a2, Bool.false_and, Bool.false_eq_true, if_false]; exact Ev.now _
  simp only [if_neg a1]
  by_cases a2 : x.vSort = 2
  · simp only [if_pos a2]
    refine Ev.bind (atom_impl _ (by omega)) ?_
    cases atomB x.vText with
    | false => simp only [Bool.false_eq_true, not_false_eq_true, if_true, if_false, Bool.false_and]; exact Ev.now _
    | true =>
      simp only [not_true_eq_false, if_false, Bool.true_and]
      by_cases a2 : (x.vText.size : Int) ≤ 40
      · simp (disch := omega) only [if_neg, decide_eq_true a2, Bool.true_and]
        by_cases a3 : x.vFrom = 0
        · simp only [if_neg (decide_not_ne a3), decide_eq_true a3, Bool.true_and]
          by_cases a5 : (x.vScopes.length : Int) = 0
          · simp (disch := omega) only [if_neg, decide_eq_true a5, Bool.true_and]
            by_cases a4 : (x.vKids.length : Int) = 0
            · have hk : cnt x = 1 := by rw [hcx, List.eq_nil_of_length_eq_zero (by omega : x.vKids.length = 0)]; rfl
              simp (disch := omega) only [if_neg, decide_eq_true a4, Bool.and_true, hk, leB_t (show (1 : Int) ≤ 1500 by decide), if_true]
              exact Ev.now _
            · simp (disch := omega) only [if_pos, decide_eq_false a4, Bool.and_false, Bool.false_and, Bool.false_eq_true, if_false]; exact Ev.now _
          · simp (disch := omega) only [if_pos, decide_eq_false a5, Bool.false_and, Bool.false_eq_true, if_false]; exact Ev.now _
        · simp only [if_pos a3, decide_eq_false a3, Bool.false_and, Bool.false_eq_true, if_false]; exact Ev.now _
      · simp (disch := omega) only [if_pos, decide_eq_false a2, Bool.false_and, Bool.false_eq_true, if_false]; exact Ev.now _
  simp only [if_neg a2]
  have kids : (decide (x.vSort = 3) || lastOk x.vKids) = true → Ev (fun k => impl_expCount.l27 k deep 1 x.vKids (x.vKids.length : Int) 0) (if okfs x.vKids (deep + 1) && leB (cnt x) 1500 then cnt x else -1) := by
    intro _
    rw [hcx]
    refine goList x.vKids (P := fun i suf => ∀ n : Int, 1 ≤ n → n ≤ 1500 → Ev (fun k => impl_expCount.l27 k deep n x.vKids (x.vKids.length : Int) i) (if okfs suf (deep + 1) && leB (n + cnts suf) 1500 then n + cnts suf else -1)) ?_ ?_ 1 (by omega) (by omega)
    · intro n h1 h2
      refine Ev.shift ?_
      simp (disch := omega) only [impl_expCount.l27, if_neg, cnts, Int.add_zero, okfs, Bool.true_and, leB_t h2, if_true]
      exact Ev.now _
    · intro i y r h0 h1 hx hm _ _ _ ihr n hn hs
      have hy := wids_mem hm
      have hc := cnt_pos y
      have hr := cnts_le r
      refine Ev.shift ?_
      simp (disch := omega) only [impl_expCount.l27, if_pos, hx, eTExpForm_eq, w64, okfs, cnts]
      refine Ev.bind (ih y hm (deep + 1) (by omega) (by omega) (by omega)) ?_
      unfold counted
      by_cases b1 : okf y (deep + 1) = true
      · by_cases b2 : cnt y ≤ 1500
        · simp (disch := omega) only [b1, leB_t b2, Bool.and_self, if_true, if_neg, w64, Bool.true_and]
          by_cases b3 : 1500 < n + cnt y
          · have : ¬ n + (cnt y + cnts r) ≤ 1500 := by omega
            simp only [if_pos b3, leB_f this, Bool.and_false, Bool.false_eq_true, if_false]; exact Ev.now _
          · simp only [if_neg b3]
            rw [← Int.add_assoc]
            exact ihr _ (by omega) (by omega)
        · have : ¬ n + (cnt y + cnts r) ≤ 1500 := by omega
          simp (disch := decide) only [leB_f b2, leB_f this, Bool.and_false, Bool.false_eq_true, if_false, if_pos]; exact Ev.now _
      · simp (disch := decide) only [Bool.eq_false_iff.2 b1, Bool.false_and, Bool.false_eq_true, if_false, if_pos]; exact Ev.now _
  have list : ∀ b : Bool, b = (decide (x.vSort = 3) || decide (x.vSort = 4)) → Ev (fun k => impl_expCount.j20b k (impl_expCount.f k) (impl_expCount.l27 k) deep 1 b x.vSort x.vText x.vScopes x.vFrom x.vKids)
      (if (decide (x.vSort = 3) || decide (x.vSort = 4)) && (decide (bytesOf x.vText = []) && (decide (x.vFrom = 0) && (decide ((x.vScopes.length : Int) = 0) && (okfs x.vKids (deep + 1) && (decide (x.vSort = 3) || lastOk x.vKids))))) && leB (cnt x) 1500 then cnt x else -1) := by
    intro b hb
    rw [← hb]
    simp only [impl_expCount.j20b, impl_expCount.j22b, impl_expCount.j26b, lit_eq #[] [] rfl]
    cases b with
    | false => simp only [Bool.false_eq_true, if_false, Bool.false_and]; exact Ev.now _
    | true =>
      simp only [if_true, Bool.true_and]
      by_cases a3 : bytesOf x.vText = []
      · simp only [if_neg (decide_not_ne a3), decide_eq_true a3, Bool.true_and]
        by_cases a4 : x.vFrom = 0
        · simp only [if_neg (decide_not_ne a4), decide_eq_true a4, Bool.true_and]
          by_cases a5 : (x.vScopes.length : Int) = 0
          · simp (disch := omega) only [if_neg, decide_eq_true a5, Bool.true_and]
            by_cases a6 : x.vSort = 4
            · have a7 : ¬ x.vSort = 3 := by omega
              simp only [if_pos a6, decide_eq_false a7, Bool.false_or]
              by_cases a8 : (x.vKids.length : Int) < 2
              · have : lastOk x.vKids = false := by unfold lastOk; rw [decide_eq_false (by omega)]; rfl
                simp only [if_pos a8, this, Bool.and_false, Bool.false_and, Bool.false_eq_true, if_false]; exact Ev.now _
              · have a8' : 2 ≤ (x.vKids.length : Int) := by omega
                simp (disch := omega) only [if_neg a8, if_pos, w64]
                by_cases a9 : (rdAt zTExpForm x.vKids ((x.vKids.length : Int) - 1)).vSort = 1
                · have : lastOk x.vKids = true := by unfold lastOk; rw [decide_eq_true a8', decide_eq_true a9]; rfl
                  simp only [if_neg (decide_not_ne a9), this, Bool.and_true]
                  exact kids (by rw [this, Bool.or_true])
                · simp only [if_pos a9]
                  by_cases a10 : (rdAt zTExpForm x.vKids ((x.vKids.length : Int) - 1)).vSort = 2
                  · have : lastOk x.vKids = true := by unfold lastOk; rw [decide_eq_true a8', decide_eq_true a10, Bool.or_true]; rfl
                    simp only [if_neg (decide_not_ne a10), this, Bool.and_true]
                    exact kids (by rw [this, Bool.or_true])
                  · have : lastOk x.vKids = false := by unfold lastOk; rw [decide_eq_false a9, decide_eq_false a10, Bool.and_comm]; rfl
                    simp only [if_pos a10, this, Bool.and_false, Bool.false_and, Bool.false_eq_true, if_false]; exact Ev.now _
            · have a7 : x.vSort = 3 := by
                simp only [Bool.true_eq, Bool.or_eq_true, decide_eq_true_eq] at hb; omega
              simp only [if_neg a6, decide_eq_true a7, Bool.true_or, Bool.and_true]
              exact kids (by rw [decide_eq_true a7, Bool.true_or])
          · simp (disch := omega) only [if_pos, decide_eq_false a5, Bool.false_and, Bool.false_eq_true, if_false]; exact Ev.now _
        · simp only [if_pos a4, decide_eq_false a4, Bool.false_and, Bool.false_eq_true, if_false]; exact Ev.now _
      · simp only [if_pos a3, decide_eq_false a3, Bool.false_and, Bool.false_eq_true, if_false]; exact Ev.now _
  by_cases a3 : x.vSort = 3
  · simp only [if_pos a3]
    exact list true (by rw [decide_eq_true a3, Bool.true_or])
  · simp only [if_neg a3]
    exact list _ (by rw [decide_eq_false a3, Bool.false_or])
theorem formOk_impl (x : TExpForm) (hw : wid x ≤ 1000000000) : Ev (fun k => impl_ExpFormOk.f k x) (okb x) := by
  simp only [impl_ExpFormOk.f, eTExpForm_eq]
  refine Ev.bind (count_impl x 0 hw (by omega) (by omega)) ?_
  have := cnt_pos x
  unfold counted okb
  by_cases h : (okf x 0 && leB (cnt x) 1500) = true
  · rw [if_pos h, h, decide_eq_true (by omega)]; exact Ev.now _
  · rw [if_neg h, Bool.eq_false_iff.2 h]; exact Ev.now _
end Go.Proofs.YtmcbhnbemhfifaaDoor.RX
