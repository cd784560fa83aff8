/- Which patterns are ok: the program's and the reference's answer. Condition: the forms are not very large. -/
import Derived.Test.YtmcbhnbemhfifaaDoorPoRxFormOk
namespace Go.Proofs.YtmcbhnbemhfifaaDoor.RX
open Go K
set_option autoImplicit false
set_option linter.unusedVariables false
set_option linter.unusedSimpArgs false
def isDots (x : TExpForm) : Bool := decide (x.vSort = 1) && decide (bytesOf x.vText = [46, 46, 46])
def isBlank (x : TExpForm) : Bool := decide (x.vSort = 1) && decide (bytesOf x.vText = [95])
/-- The same text, and the same scopes. -/
def sameB (a b : TExpForm) : Bool := decide (a.vText.toList = b.vText.toList) && decide (a.vScopes = b.vScopes)
def inB (l : List TExpForm) (p : TExpForm) : Bool := l.any fun x => sameB x p
def litOk (x : TExpForm) : Bool := decide (x.vSort = 1) && (okb x && (!isDots x && !isBlank x))
/-- Forms that are not very large. -/
def Sml (l : List TExpForm) : Prop := (l.length : Int) ≤ 1000000000 ∧ ∀ x ∈ l, wid x ≤ 1000000000
theorem Sml.of {l : List TExpForm} (h : wids l ≤ 1000000000) : Sml l := ⟨by have := wids_len l; omega, fun x hx => by have := wids_mem hx; omega⟩
theorem dots_spec (x : TExpForm) : Ev (fun k => spec_l3Dots.f k x) (isDots x) := by
  simp only [spec_l3Dots.f, lit_eq #[46, 46, 46] [46, 46, 46] rfl, isDots]
  by_cases h : x.vSort = 1
  · simp only [h, if_true, decide_true, Bool.true_and]; exact Ev.now _
  · simp only [h, if_false, decide_false, Bool.false_and]; exact Ev.now _
theorem blank_spec (x : TExpForm) : Ev (fun k => spec_l3Blank.f k x) (isBlank x) := by
  simp only [spec_l3Blank.f, lit_eq #[95] [95] rfl, isBlank]
  by_cases h : x.vSort = 1
  · simp only [h, if_true, decide_true, Bool.true_and]; exact Ev.now _
  · simp only [h, if_false, decide_false, Bool.false_and]; exact Ev.now _
theorem is_dots (x : TExpForm) : Ev (fun k => impl_expIs.f k x (ByteArray.mk #[46, 46, 46])) (isDots x) := by
  simp only [impl_expIs.f, lit_eq #[46, 46, 46] [46, 46, 46] rfl, isDots]
  by_cases h : x.vSort = 1
  · simp only [h, if_true, decide_true, Bool.true_and]; exact Ev.now _
  · simp only [h, if_false, decide_false, Bool.false_and]; exact Ev.now _
theorem list_eq_at {a b : List Int} (hl : (a.length : Int) = (b.length : Int)) (i : Int) (x y : Int) (r s : List Int) (ha : a.drop i.toNat = x :: r) (hb : b.drop i.toNat = y :: s) : True := trivial
/-- Two rows of numbers compared by an index. -/
theorem intsLoop (a b : List Int) (hl : (a.length : Int) = (b.length : Int)) (hs : (a.length : Int) ≤ 1000000000) (G : Nat → Int → Option Bool)
    (h0 : Ev (fun k => G k (a.length : Int)) true)
    (h1 : ∀ i : Int, 0 ≤ i → i < (a.length : Int) → ∀ r, (rdAt 0 a i = rdAt 0 b i → Ev (fun k => G k (i + 1)) r) → (¬ rdAt 0 a i = rdAt 0 b i → r = false) → Ev (fun k => G k i) r) : Ev (fun k => G k 0) (decide (a = b)) := by
  have key := goList a (P := fun i suf => Ev (fun k => G k i) (decide (suf = b.drop i.toNat))) ?_ ?_
  · simpa using key
  · have : b.drop ((a.length : Int)).toNat = [] := List.drop_eq_nil_of_le (by omega)
    rw [this]; simpa using h0
  · intro i x r i0 i1 hx hm hlen hdr _ ih
    have hlt : i.toNat < b.length := by omega
    have hd : b.drop i.toNat = b[i.toNat] :: b.drop (i.toNat + 1) := List.drop_eq_getElem_cons hlt
    have hb : rdAt 0 b i = b[i.toNat] := by
      obtain ⟨n, rfl⟩ := Int.eq_ofNat_of_zero_le i0
      exact rdAt_at 0 b n (by omega)
    have e : (i + 1).toNat = i.toNat + 1 := by omega
    rw [e] at ih
    refine h1 i i0 i1 _ (fun he => ?_) (fun he => ?_)
    · refine Ev.eq ih ?_
      rw [hx, hb] at he
      rw [hd, ← he]
      simp
    · rw [hx, hb] at he
      refine decide_eq_false fun e => ?_
      rw [hd] at e
      exact he (List.cons.inj e).1
theorem ints_impl (a b : List Int) (hs : (a.length : Int) ≤ 1000000000) : Ev (fun k => impl_expInts.f k a b) (decide (a = b)) := by
  by_cases hl : (a.length : Int) = (b.length : Int)
  · simp only [impl_expInts.f, if_neg (decide_not_ne hl)]
    refine intsLoop a b hl hs (fun k i => impl_expInts.l4 k a b (a.length : Int) i) ?_ ?_
    · refine Ev.shift ?_
      simp (disch := omega) only [impl_expInts.l4, if_neg]; exact Ev.now _
    · intro i i0 i1 r h1 h2
      refine Ev.shift ?_
      simp (disch := omega) only [impl_expInts.l4, if_pos, w64]
      by_cases h : rdAt 0 a i = rdAt 0 b i
      · simp only [if_neg (decide_not_ne h)]; exact h1 h
      · simp only [if_pos h, h2 h]; exact Ev.now _
  · simp only [impl_expInts.f, if_pos hl]
    rw [decide_eq_false (fun e => hl (by rw [e]))]; exact Ev.now _
theorem ints_spec (a b : List Int) (hs : (a.length : Int) ≤ 1000000000) : Ev (fun k => spec_l3Ints.f k a b) (decide (a = b)) := by
  by_cases hl : (a.length : Int) = (b.length : Int)
  · simp only [spec_l3Ints.f, if_neg (decide_not_ne hl)]
    refine intsLoop a b hl hs (fun k i => spec_l3Ints.l4 k a b i) ?_ ?_
    · refine Ev.shift ?_
      simp (disch := omega) only [spec_l3Ints.l4, if_neg]; exact Ev.now _
    · intro i i0 i1 r h1 h2
      refine Ev.shift ?_
      simp (disch := omega) only [spec_l3Ints.l4, if_pos, w64]
      by_cases h : rdAt 0 a i = rdAt 0 b i
      · simp only [if_neg (decide_not_ne h)]; exact h1 h
      · simp only [if_pos h, h2 h]; exact Ev.now _
  · simp only [spec_l3Ints.f, if_pos hl]
    rw [decide_eq_false (fun e => hl (by rw [e]))]; exact Ev.now _
theorem same_impl (a b : TExpForm) (ha : wid a ≤ 1000000000) : Ev (fun k => impl_expSame.f k a b) (sameB a b) := by
  have hp := wid_parts a
  simp only [impl_expSame.f, sameB]
  by_cases h : a.vText.toList = b.vText.toList
  · simp only [if_pos h, decide_eq_true h, Bool.true_and]; exact Ev.bind (ints_impl _ _ (by omega)) (Ev.now _)
  · simp only [if_neg h, decide_eq_false h, Bool.false_and]; exact Ev.now _
theorem same_spec (a b : TExpForm) (ha : wid a ≤ 1000000000) (h1 : a.vSort = 1) (h2 : b.vSort = 1) : Ev (fun k => spec_l3Same.f k a b) (sameB a b) := by
  have hp := wid_parts a
  simp only [spec_l3Same.f, sameB, if_pos h1, if_pos h2]
  by_cases h : a.vText.toList = b.vText.toList
  · simp only [if_pos h, decide_eq_true h, Bool.true_and]; exact Ev.bind (ints_spec _ _ (by omega)) (Ev.now _)
  · simp only [if_neg h, decide_eq_false h, Bool.false_and]; exact Ev.now _
theorem in_impl (l : List TExpForm) (p : TExpForm) (hs : Sml l) : Ev (fun k => impl_expIn.f k l p) (inB l p) := by
  obtain ⟨hl, hs⟩ := hs
  simp only [impl_expIn.f, inB]
  refine goList l (P := fun i suf => Ev (fun k => impl_expIn.l2 k l (l.length : Int) i p.vSort p.vText p.vScopes p.vFrom p.vKids) (suf.any fun x => sameB x p)) ?_ ?_
  · refine Ev.shift ?_
    simp (disch := omega) only [impl_expIn.l2, if_neg, List.any_nil]; exact Ev.now _
  · intro i x r i0 i1 hx hm _ _ _ ih
    refine Ev.shift ?_
    simp (disch := omega) only [impl_expIn.l2, if_pos, w64, hx, eTExpForm_eq, mTExpForm, List.any_cons]
    refine Ev.bind (same_impl x p (hs x hm)) ?_
    cases sameB x p with
    | true => simp only [if_true, Bool.true_or]; exact Ev.now _
    | false => simp only [Bool.false_eq_true, if_false, Bool.false_or]; exact ih
theorem among_spec (l : List TExpForm) (p : TExpForm) (hs : Sml l) (h1 : ∀ x ∈ l, x.vSort = 1) (h2 : p.vSort = 1) : Ev (fun k => spec_l3Among.f k l p) (inB l p) := by
  obtain ⟨hl, hs⟩ := hs
  simp only [spec_l3Among.f, inB]
  refine goList l (P := fun i suf => Ev (fun k => spec_l3Among.l2 k l i p.vSort p.vText p.vScopes p.vFrom p.vKids) (suf.any fun x => sameB x p)) ?_ ?_
  · refine Ev.shift ?_
    simp (disch := omega) only [spec_l3Among.l2, if_neg, List.any_nil]; exact Ev.now _
  · intro i x r i0 i1 hx hm _ _ _ ih
    refine Ev.shift ?_
    simp (disch := omega) only [spec_l3Among.l2, if_pos, w64, hx, eTExpForm_eq, mTExpForm, List.any_cons]
    refine Ev.bind (same_spec x p (hs x hm) (h1 x hm) h2) ?_
    cases sameB x p with
    | true => simp only [if_true, Bool.true_or]; exact Ev.now _
    | false => simp only [Bool.false_eq_true, if_false, Bool.false_or]; exact ih
theorem lits_impl (l : List TExpForm) (hs : Sml l) : Ev (fun k => impl_expLiterals.f k l) (l.all litOk) := by
  obtain ⟨hl, hs⟩ := hs
  simp only [impl_expLiterals.f]
  refine goList l (P := fun i suf => Ev (fun k => impl_expLiterals.l2 k l (l.length : Int) i) (suf.all litOk)) ?_ ?_
  · refine Ev.shift ?_
    simp (disch := omega) only [impl_expLiterals.l2, if_neg, List.all_nil]; exact Ev.now _
  · intro i x r i0 i1 hx hm _ _ _ ih
    refine Ev.shift ?_
    simp (disch := omega) only [impl_expLiterals.l2, if_pos, w64, hx, eTExpForm_eq, List.all_cons, litOk, isDots, isBlank, lit_eq #[46, 46, 46] [46, 46, 46] rfl, lit_eq #[95] [95] rfl]
    by_cases h : x.vSort = 1
    · simp only [if_neg (decide_not_ne h), decide_eq_true h, Bool.true_and]
      refine Ev.bind (formOk_impl x (hs x hm)) ?_
      cases okb x with
      | false => simp only [Bool.false_eq_true, not_false_eq_true, if_true, Bool.false_and]; exact Ev.now _
      | true =>
        simp only [not_true_eq_false, if_false, Bool.true_and]
        by_cases h3 : bytesOf x.vText = [46, 46, 46]
        · simp only [if_pos h3, decide_eq_true h3, Bool.not_true, Bool.false_and]; exact Ev.now _
        simp only [if_neg h3, decide_eq_false h3, Bool.not_false, Bool.true_and]
        by_cases h4 : bytesOf x.vText = [95]
        · simp only [if_pos h4, decide_eq_true h4, Bool.not_true, Bool.false_and]; exact Ev.now _
        simp only [if_neg h4, decide_eq_false h4, Bool.not_false, Bool.true_and]; exact ih
    · simp only [if_pos h, decide_eq_false h, Bool.false_and]; exact Ev.now _
theorem lits_spec (l : List TExpForm) (hs : Sml l) : Ev (fun k => spec_l3IdsOk.f k l) (l.all litOk) := by
  obtain ⟨hl, hs⟩ := hs
  simp only [spec_l3IdsOk.f]
  refine goList l (P := fun i suf => Ev (fun k => spec_l3IdsOk.l2 k l i) (suf.all litOk)) ?_ ?_
  · refine Ev.shift ?_
    simp (disch := omega) only [spec_l3IdsOk.l2, if_neg, List.all_nil]; exact Ev.now _
  · intro i x r i0 i1 hx hm _ _ _ ih
    refine Ev.shift ?_
    simp (disch := omega) only [spec_l3IdsOk.l2, if_pos, w64, hx, eTExpForm_eq, List.all_cons, litOk]
    refine Ev.bind (formOk_spec x (hs x hm)) ?_
    cases okb x with
    | false => simp only [Bool.false_eq_true, not_false_eq_true, if_true, Bool.false_and, Bool.and_false]; exact Ev.now _
    | true =>
      simp only [not_true_eq_false, if_false, Bool.true_and]
      by_cases h : x.vSort = 1
      · simp only [if_neg (decide_not_ne h), decide_eq_true h, Bool.true_and]
        refine Ev.bind (dots_spec x) ?_
        cases isDots x with
        | true => simp only [if_true, Bool.not_true, Bool.false_and]; exact Ev.now _
        | false =>
          simp only [Bool.false_eq_true, if_false, Bool.not_false, Bool.true_and]
          refine Ev.bind (blank_spec x) ?_
          cases isBlank x with
          | true => simp only [if_true, Bool.not_true, Bool.false_and]; exact Ev.now _
          | false => simp only [Bool.false_eq_true, if_false, Bool.not_false, Bool.true_and]; exact ih
      · simp only [if_pos h, decide_eq_false h, Bool.false_and]; exact Ev.now _
-- ------------------------------------------------------------ names
mutual
/-- The names of a pattern, in order. -/
def nms (lits : List TExpForm) : TExpForm → List TExpForm
  | ⟨a, t, sc, d, ks⟩ => if a = 1 then (if isDots ⟨a, t, sc, d, ks⟩ || isBlank ⟨a, t, sc, d, ks⟩ || inB lits ⟨a, t, sc, d, ks⟩ then [] else [⟨a, t, sc, d, ks⟩]) else nmss lits ks
def nmss (lits : List TExpForm) : List TExpForm → List TExpForm
  | [] => []
  | x :: l => nms lits x ++ nmss lits l
end
theorem nms_mk (lits : List TExpForm) (x : TExpForm) : nms lits x = if x.vSort = 1 then (if isDots x || isBlank x || inB lits x then [] else [x]) else nmss lits x.vKids := by cases x; simp only [nms]
theorem nms_facts (lits : List TExpForm) : ∀ x, ((nms lits x).length : Int) ≤ wid x ∧ ∀ y ∈ nms lits x, y.vSort = 1 ∧ wid y ≤ wid x := by
  refine indForm fun x ih => ?_
  have hp := wid_parts x
  have key : ∀ l : List TExpForm, (∀ y ∈ l, ((nms lits y).length : Int) ≤ wid y ∧ ∀ z ∈ nms lits y, z.vSort = 1 ∧ wid z ≤ wid y) → ((nmss lits l).length : Int) ≤ wids l ∧ ∀ z ∈ nmss lits l, z.vSort = 1 ∧ wid z ≤ wids l := by
    intro l
    induction l with
    | nil => intro _; exact ⟨by simp [nmss, wids], fun z hz => by cases hz⟩
    | cons y l ihl =>
      intro h
      obtain ⟨a1, a2⟩ := h y (by simp)
      obtain ⟨b1, b2⟩ := ihl fun z hz => h z (List.mem_cons_of_mem _ hz)
      have := wid_pos y
      have := (wids_len l).1
      simp only [nmss, wids, List.length_append]
      refine ⟨by omega, fun z hz => ?_⟩
      rcases List.mem_append.1 hz with hz | hz
      · exact ⟨(a2 z hz).1, by have := (a2 z hz).2; omega⟩
      · exact ⟨(b2 z hz).1, by have := (b2 z hz).2; omega⟩
  obtain ⟨b1, b2⟩ := key x.vKids ih
  rw [nms_mk]
  by_cases h : x.vSort = 1
  · rw [if_pos h]
    split
    · exact ⟨by simp; omega, fun y hy => by cases hy⟩
    · refine ⟨by simp; omega, fun y hy => ?_⟩
      rw [List.mem_singleton.1 hy]; exact ⟨h, Int.le_refl _⟩
  · rw [if_neg h]
    exact ⟨by omega, fun y hy => ⟨(b2 y hy).1, by have := (b2 y hy).2; omega⟩⟩
theorem nmss_facts (lits : List TExpForm) (l : List TExpForm) : ((nmss lits l).length : Int) ≤ wids l ∧ ∀ y ∈ nmss lits l, y.vSort = 1 ∧ wid y ≤ wids l := by
  induction l with
  | nil => exact ⟨by simp [nmss, wids], fun z hz => by cases hz⟩
  | cons y l ih =>
    obtain ⟨a1, a2⟩ := nms_facts lits y
    obtain ⟨b1, b2⟩ := ih
    have := wid_pos y
    have := (wids_len l).1
    simp only [nmss, wids, List.length_append]
    refine ⟨by omega, fun z hz => ?_⟩
    rcases List.mem_append.1 hz with hz | hz
    · exact ⟨(a2 z hz).1, by have := (a2 z hz).2; omega⟩
    · exact ⟨(b2 z hz).1, by have := (b2 z hz).2; omega⟩
/-- No name twice, those that were seen among them. -/
def noDup : List TExpForm → List TExpForm → Bool
  | _, [] => true
  | seen, x :: l => !inB seen x && noDup (seen ++ [x]) l
theorem noDup_append (a b : List TExpForm) : ∀ s, noDup s (a ++ b) = (noDup s a && noDup (s ++ a) b) := by
  induction a with
  | nil => intro s; simp [noDup]
  | cons x a ih =>
    intro s
    simp only [List.cons_append, noDup, ih, List.append_assoc, Bool.and_assoc, List.nil_append]
def dotsN : List TExpForm → Int
  | [] => 0
  | x :: l => (if isDots x then 1 else 0) + dotsN l
theorem dotsN_pos (l : List TExpForm) : 0 ≤ dotsN l ∧ dotsN l ≤ (l.length : Int) := by
  induction l with
  | nil => simp [dotsN]
  | cons x l ih => simp only [dotsN, List.length_cons]; split <;> omega
def headDots : List TExpForm → Bool
  | [] => false
  | x :: _ => isDots x
def partsOf (x : TExpForm) : List TExpForm := if x.vSort = 4 then x.vKids.take (x.vKids.length - 1) else x.vKids
def lastOf (x : TExpForm) : TExpForm := rdAt zTExpForm x.vKids ((x.vKids.length : Int) - 1)
def gt1 (n : Int) : Bool := decide (1 < n)
mutual
/-- Marks of repeating stand behind parts, one in each list. -/
def stOk : TExpForm → Bool
  | ⟨a, t, sc, d, ks⟩ => if a = 1 ∨ a = 2 then true else (!headDots (partsOf ⟨a, t, sc, d, ks⟩) && !gt1 (dotsN (partsOf ⟨a, t, sc, d, ks⟩))) && ((!decide (a = 4) || !isDots (lastOf ⟨a, t, sc, d, ks⟩)) && stOks ks)
def stOks : List TExpForm → Bool
  | [] => true
  | x :: l => stOk x && stOks l
end
theorem stOk_mk (x : TExpForm) : stOk x = if x.vSort = 1 ∨ x.vSort = 2 then true else (!headDots (partsOf x) && !gt1 (dotsN (partsOf x))) && ((!decide (x.vSort = 4) || !isDots (lastOf x)) && stOks x.vKids) := by cases x; simp only [stOk]
theorem stOks_append (a b : List TExpForm) : stOks (a ++ b) = (stOks a && stOks b) := by
  induction a with
  | nil => simp [stOks]
  | cons x a ih => simp only [List.cons_append, stOks, ih, Bool.and_assoc]
theorem nmss_append (lits a b : List TExpForm) : nmss lits (a ++ b) = nmss lits a ++ nmss lits b := by
  induction a with
  | nil => simp [nmss]
  | cons x a ih => simp only [List.cons_append, nmss, ih, List.append_assoc]
theorem take_last {l : List TExpForm} (h : 1 ≤ (l.length : Int)) : l.take (l.length - 1) ++ [rdAt zTExpForm l ((l.length : Int) - 1)] = l := by
  have e : rdAt zTExpForm l ((l.length : Int) - 1) = l[l.length - 1]'(by omega) := by
    rw [show (l.length : Int) - 1 = ((l.length - 1 : Nat) : Int) by omega]
    exact rdAt_at _ _ _ (by omega)
  rw [e, List.take_append_getElem (by omega)]
  exact List.take_of_length_le (by omega)
/-- The sorts and ends that a form that is ok has. -/
theorem okf_shape {x : TExpForm} {d : Int} (h : okf x d = true) : (x.vSort = 1 ∧ x.vKids = []) ∨ (x.vSort = 2 ∧ x.vKids = []) ∨ ((x.vSort = 3 ∨ (x.vSort = 4 ∧ 2 ≤ (x.vKids.length : Int))) ∧ okfs x.vKids (d + 1) = true) := by
  rw [okf_mk] at h
  simp only [Bool.and_eq_true] at h
  obtain ⟨_, h⟩ := h
  by_cases h1 : x.vSort = 1
  · rw [if_pos h1] at h
    simp only [Bool.and_eq_true, decide_eq_true_eq] at h
    exact .inl ⟨h1, List.eq_nil_of_length_eq_zero (by omega)⟩
  rw [if_neg h1] at h
  by_cases h2 : x.vSort = 2
  · rw [if_pos h2] at h
    simp only [Bool.and_eq_true, decide_eq_true_eq] at h
    exact .inr (.inl ⟨h2, List.eq_nil_of_length_eq_zero (by omega)⟩)
  rw [if_neg h2] at h
  simp only [Bool.and_eq_true, Bool.or_eq_true, decide_eq_true_eq] at h
  obtain ⟨h3, _, _, _, h4, h5⟩ := h
  refine .inr (.inr ⟨?_, h4⟩)
  rcases h3 with h3 | h3
  · exact .inl h3
  · refine .inr ⟨h3, ?_⟩
    rcases h5 with h5 | h5
    · omega
    · unfold lastOk at h5
      simp only [Bool.and_eq_true, decide_eq_true_eq] at h5
      exact h5.1
theorem okfs_mem' {l : List TExpForm} {d : Int} (h : okfs l d = true) : ∀ x ∈ l, okf x d = true := by
  induction l with
  | nil => intro x hx; cases hx
  | cons y l ih =>
    simp only [okfs, Bool.and_eq_true] at h
    intro x hx
    rcases List.mem_cons.1 hx with rfl | hx
    · exact h.1
    · exact ih h.2 x hx
theorem Sml.snoc {l m : List TExpForm} (h : Sml l) (hm : ∀ x ∈ m, wid x ≤ 1000000000) (hl : (l.length : Int) + (m.length : Int) ≤ 1000000000) : Sml (l ++ m) :=
  ⟨by rw [List.length_append]; omega, fun x hx => (List.mem_append.1 hx).elim (h.2 x) (hm x)⟩
theorem parts_impl (x : TExpForm) (hw : wid x ≤ 1000000000) (h : x.vSort = 3 ∨ (x.vSort = 4 ∧ 2 ≤ (x.vKids.length : Int))) : Ev (fun k => impl_expParts.f k x) (partsOf x, if x.vSort = 4 then some (lastOf x) else none) := by
  have hp := wid_parts x
  simp only [impl_expParts.f]
  rcases h with h | ⟨h, h2⟩
  · have n4 : ¬ x.vSort = 4 := by omega
    simp only [if_pos h, partsOf, if_neg n4]; exact Ev.now _
  · have n3 : ¬ x.vSort = 3 := by omega
    simp (disch := omega) only [if_neg n3, if_pos h, if_pos, w64, List.drop_zero, eTExpForm_eq, partsOf, lastOf]
    refine Ev.eq (Ev.now _) ?_
    rw [show ((x.vKids.length : Int) - 1).toNat = x.vKids.length - 1 by omega]
    rfl
/-- Behind the parts of a list: its end. -/
def lookEnd (lits : List TExpForm) (e : Option TExpForm) (b : Bool) (ns : List TExpForm) : List TExpForm × Bool × List TExpForm :=
  match e with
  | none => (lits, b, ns)
  | some e => (lits, b || (isDots e || (!stOk e || !noDup ns (nms lits e))), ns ++ nms lits e)
theorem set_end (a : List TExpForm) (z y : TExpForm) : (a ++ [z]).set ((a.length : Int).toNat) y = a ++ [y] := by
  simp
theorem look_impl (lits : List TExpForm) (hlit : Sml lits) : ∀ (p : TExpForm) (d : Int), okf p d = true → ∀ (bad : Bool) (ns : List TExpForm), Sml ns → wid p ≤ 100000000 → (ns.length : Int) + wid p ≤ 1000000000 →
    Ev (fun k => impl_expNames_look.f k p lits bad ns) (lits, bad || (!stOk p || !noDup ns (nms lits p)), ns ++ nms lits p) := by
  refine indForm fun p ih d hok bad ns hns hwp hsum => ?_
  have hp := wid_parts p
  have hpos := wid_pos p
  refine Ev.shift ?_
  simp only [impl_expNames_look.f, lit_eq #[46, 46, 46] [46, 46, 46] rfl, lit_eq #[95] [95] rfl, eTExpForm_eq]
  rcases okf_shape hok with ⟨h1, hk⟩ | ⟨h2, hk⟩ | ⟨h34, hks⟩
  · rw [stOk_mk, if_pos (Or.inl h1), nms_mk, if_pos h1]
    simp only [if_pos h1, Bool.not_true, Bool.false_or]
    by_cases a1 : bytesOf p.vText = [46, 46, 46]
    · have : isDots p = true := by unfold isDots; rw [decide_eq_true h1, decide_eq_true a1]; rfl
      simp only [if_pos a1, this, Bool.true_or, if_true, noDup, Bool.not_true, Bool.or_false, List.append_nil]; exact Ev.now _
    have d1 : isDots p = false := by unfold isDots; rw [decide_eq_false a1, Bool.and_false]
    by_cases a2 : bytesOf p.vText = [95]
    · have : isBlank p = true := by unfold isBlank; rw [decide_eq_true h1, decide_eq_true a2]; rfl
      simp only [if_neg a1, if_pos a2, this, Bool.true_or, Bool.or_true, if_true, noDup, Bool.not_true, Bool.or_false, List.append_nil]; exact Ev.now _
    have d2 : isBlank p = false := by unfold isBlank; rw [decide_eq_false a2, Bool.and_false]
    simp only [if_neg a1, if_neg a2, d1, d2, Bool.false_or]
    refine Ev.bind (in_impl lits p hlit) ?_
    cases inB lits p with
    | true => simp only [if_true, noDup, Bool.not_true, Bool.or_false, List.append_nil]; exact Ev.now _
    | false =>
      have fin : ∀ b : Bool, Ev (fun k => impl_expNames_look.d5 k lits b p.vSort p.vText p.vScopes p.vFrom p.vKids ns) (lits, b, ns ++ [p]) := by
        intro b
        simp (disch := first | omega | (simp; omega)) only [impl_expNames_look.d5, if_pos, set_end, mTExpForm]
        exact Ev.now _
      simp only [Bool.false_eq_true, if_false, impl_expNames_look.j4, mTExpForm, noDup, Bool.and_true, Bool.not_not]
      cases bad with
      | true => simp only [if_true, Bool.true_or]; exact fin true
      | false =>
        simp only [Bool.false_eq_true, if_false, Bool.false_or]
        exact Ev.bind (in_impl ns p hns) (fin _)
  · rw [stOk_mk, if_pos (Or.inr h2), nms_mk, if_neg (by omega), hk]
    have n1 : ¬ p.vSort = 1 := by omega
    have n3 : ¬ p.vSort = 3 := by omega
    have n4 : ¬ p.vSort = 4 := by omega
    simp only [if_neg n1, if_neg n3, decide_eq_false n4, impl_expNames_look.j8b, Bool.false_eq_true, if_false, nmss, noDup, Bool.not_true, Bool.or_false, List.append_nil]
    exact Ev.now _
  · have n1 : ¬ p.vSort = 1 := by rcases h34 with h | h <;> omega
    have n2 : ¬ p.vSort = 2 := by rcases h34 with h | h <;> omega
    have hkids := okfs_mem' hks
    have hparts : ∀ y ∈ partsOf p, y ∈ p.vKids := by
      intro y hy
      unfold partsOf at hy
      split at hy
      · exact List.mem_of_mem_take hy
      · exact hy
    have hwparts : wids (partsOf p) ≤ wids p.vKids := by
      unfold partsOf
      split
      · exact wids_take_le _ _
      · exact Int.le_refl _
    have hlp := (wids_len (partsOf p)).2
    -- the end
    have endd : ∀ (b : Bool) (ns' : List TExpForm), Sml ns' → (ns'.length : Int) + (wid p - wids (partsOf p)) ≤ 1000000000 → Ev (fun k => impl_expNames_look.j19b k (impl_expNames_look.f k) (impl_expNames_look.l11 k) (if p.vSort = 4 then some (lastOf p) else none) lits b ns') (lookEnd lits (if p.vSort = 4 then some (lastOf p) else none) b ns') := by
      intro b ns' hns' hsum'
      by_cases h4 : p.vSort = 4
      · have h2k : 2 ≤ (p.vKids.length : Int) := by rcases h34 with h | h <;> omega
        have hmem : lastOf p ∈ p.vKids := rdAt_mem _ _ _ (by omega) (by omega)
        have hwl := wids_mem hmem
        have hwe : wids p.vKids = wids (partsOf p) + wid (lastOf p) := by
          have e : p.vKids = partsOf p ++ [lastOf p] := by
            unfold partsOf lastOf
            rw [if_pos h4]
            exact (take_last (by omega)).symm
          have := wids_append (partsOf p) [lastOf p]
          rw [← e] at this
          rwa [wids_one] at this
        have hl := fun b => ih (lastOf p) hmem (d + 1) (hkids _ hmem) b ns' hns' (by omega) (by omega)
        simp only [if_pos h4, impl_expNames_look.j19b, Option.isSome_some, if_true, Option.bind_some, eTExpForm_eq, lookEnd]
        cases b with
        | true => simp only [if_true]; exact Ev.bind (hl true) (by simp only [Bool.true_or]; exact Ev.now _)
        | false =>
          simp only [Bool.false_eq_true, if_false, Bool.false_or]
          exact Ev.bind (is_dots _) (Ev.bind (hl _) (Ev.now _))
      · simp only [if_neg h4, impl_expNames_look.j19b, Option.isSome_none, Bool.false_eq_true, if_false, lookEnd]; exact Ev.now _
    have loop : ∀ (b0 : Bool), Ev (fun k => impl_expNames_look.l11 k (if p.vSort = 4 then some (lastOf p) else none) 0 (partsOf p) ((partsOf p).length : Int) 0 lits b0 ns)
        (lookEnd lits (if p.vSort = 4 then some (lastOf p) else none) (b0 || (headDots (partsOf p) || (!stOks (partsOf p) || (!noDup ns (nmss lits (partsOf p)) || gt1 (dotsN (partsOf p)))))) (ns ++ nmss lits (partsOf p))) := by
      intro b0
      have key := goList (partsOf p) (P := fun i suf => ∀ (n : Int) (b : Bool) (ns' : List TExpForm), 0 ≤ n → n ≤ i → Sml ns' → (ns'.length : Int) + wids suf + (wid p - wids (partsOf p)) ≤ 1000000000 →
        Ev (fun k => impl_expNames_look.l11 k (if p.vSort = 4 then some (lastOf p) else none) n (partsOf p) ((partsOf p).length : Int) i lits b ns')
        (lookEnd lits (if p.vSort = 4 then some (lastOf p) else none) (b || ((decide (i = 0) && headDots suf) || (!stOks suf || (!noDup ns' (nmss lits suf) || gt1 (n + dotsN suf))))) (ns' ++ nmss lits suf))) ?_ ?_ 0 b0 ns (by omega) (by omega) hns (by omega)
      · simpa using key
      · intro n b ns' h0 h1 hs hsm
        refine Ev.shift ?_
        simp only [wids] at hsm
        simp (disch := omega) only [impl_expNames_look.l11, if_neg, headDots, Bool.and_false, stOks, Bool.not_true, nmss, noDup, dotsN, Int.add_zero, Bool.false_or, List.append_nil]
        have e := endd (b || gt1 n) ns' hs (by omega)
        cases b with
        | true => simp only [if_true, Bool.true_or] at e ⊢; exact e
        | false => simp only [Bool.false_eq_true, if_false, Bool.false_or] at e ⊢; exact e
      · intro i y r i0 i1 hx hm hlen _ _ ihr n b ns' h0 h1 hs hsm
        have hym := hparts y hm
        have hwy := wids_mem hym
        have hwr := (wids_len r).1
        have hwy1 := wid_pos y
        simp only [wids] at hsm
        obtain ⟨f1, f2⟩ := nms_facts lits y
        have hl := fun b => ih y hym (d + 1) (hkids y hym) b ns' hs (by omega) (by omega)
        have hs' : Sml (ns' ++ nms lits y) := hs.snoc (fun z hz => by have := (f2 z hz).2; omega) (by omega)
        have hln : ((ns' ++ nms lits y).length : Int) + wids r + (wid p - wids (partsOf p)) ≤ 1000000000 := by rw [List.length_append]; omega
        have ne : ¬ (i + 1 = 0) := by omega
        refine Ev.shift ?_
        simp (disch := omega) only [impl_expNames_look.l11, if_pos, hx, eTExpForm_eq, w64]
        refine Ev.bind (is_dots y) ?_
        have nx := fun n b h0 h1 => ihr n b (ns' ++ nms lits y) h0 h1 hs' hln
        simp only [decide_eq_false ne, Bool.false_and, Bool.false_or, List.append_assoc] at nx
        have cons : nms lits y ++ nmss lits r = nmss lits (y :: r) := rfl
        simp only [cons] at nx
        cases hdy : isDots y with
        | true =>
          have dn : dotsN (y :: r) = 1 + dotsN r := by simp only [dotsN, hdy, if_true]
          simp only [if_true, headDots, hdy, Bool.and_true]
          have e1 : gt1 (n + 1 + dotsN r) = gt1 (n + dotsN (y :: r)) := by rw [dn, Int.add_assoc]
          cases b with
          | true =>
            simp only [if_true]
            refine Ev.bind (hl true) ?_
            refine Ev.eq (nx (n + 1) _ (by omega) (by omega)) ?_
            simp only [Bool.true_or]
          | false =>
            simp only [Bool.false_eq_true, if_false, Bool.false_or]
            refine Ev.bind (hl _) ?_
            refine Ev.eq (nx (n + 1) _ (by omega) (by omega)) ?_
            rw [e1]
            congr 1
            simp only [stOks, nmss, noDup_append, Bool.not_and]
            cases decide (i = 0) <;> cases stOk y <;> cases noDup ns' (nms lits y) <;> simp
        | false =>
          have dn : dotsN (y :: r) = dotsN r := by simp [dotsN, hdy]
          simp only [Bool.false_eq_true, if_false, headDots, hdy, Bool.and_false, Bool.false_or]
          refine Ev.bind (hl b) ?_
          refine Ev.eq (nx n _ (by omega) (by omega)) ?_
          rw [dn]
          congr 1
          simp only [stOks, nmss, noDup_append, Bool.not_and]
          cases b <;> cases stOk y <;> cases noDup ns' (nms lits y) <;> simp
    have whole : lookEnd lits (if p.vSort = 4 then some (lastOf p) else none) (bad || (headDots (partsOf p) || (!stOks (partsOf p) || (!noDup ns (nmss lits (partsOf p)) || gt1 (dotsN (partsOf p)))))) (ns ++ nmss lits (partsOf p)) = (lits, bad || (!stOk p || !noDup ns (nms lits p)), ns ++ nms lits p) := by
      have n12 : ¬ (p.vSort = 1 ∨ p.vSort = 2) := fun h => h.elim n1 n2
      rw [stOk_mk, if_neg n12, nms_mk, if_neg n1]
      by_cases h4 : p.vSort = 4
      · have h2k : 2 ≤ (p.vKids.length : Int) := by rcases h34 with h | h <;> omega
        have hk : p.vKids = partsOf p ++ [lastOf p] := by
          unfold partsOf lastOf
          rw [if_pos h4]
          exact (take_last (by omega)).symm
        have e1 : nmss lits p.vKids = nmss lits (partsOf p) ++ nms lits (lastOf p) := by
          conv => lhs; rw [hk]
          rw [nmss_append]; simp [nmss]
        have e2 : stOks p.vKids = (stOks (partsOf p) && stOk (lastOf p)) := by
          conv => lhs; rw [hk]
          rw [stOks_append]; simp [stOks]
        simp only [if_pos h4, lookEnd, decide_eq_true h4, e1, e2, noDup_append, Bool.not_true, Bool.false_or, List.append_assoc]
        congr 2
        cases bad <;> cases headDots (partsOf p) <;> cases gt1 (dotsN (partsOf p)) <;> cases isDots (lastOf p) <;> cases stOks (partsOf p) <;> cases stOk (lastOf p) <;> cases noDup ns (nmss lits (partsOf p)) <;> simp
      · have hk : partsOf p = p.vKids := by unfold partsOf; rw [if_neg h4]
        simp only [if_neg h4, lookEnd, decide_eq_false h4, hk, Bool.not_false, Bool.true_or, Bool.true_and]
        congr 2
        cases bad <;> cases headDots p.vKids <;> cases gt1 (dotsN p.vKids) <;> cases stOks p.vKids <;> cases noDup ns (nmss lits p.vKids) <;> simp
    have go : Ev (fun k => impl_expNames_look.j8b k (impl_expNames_look.f k) (impl_expNames_look.l11 k) true lits bad p.vSort p.vText p.vScopes p.vFrom p.vKids ns) (lits, bad || (!stOk p || !noDup ns (nms lits p)), ns ++ nms lits p) := by
      simp only [impl_expNames_look.j8b, if_true, mTExpForm]
      refine Ev.bind (parts_impl p (by omega) h34) ?_
      rw [← whole]
      exact loop bad
    by_cases h3 : p.vSort = 3
    · simp only [if_neg n1, if_pos h3]; exact go
    · have h4 : p.vSort = 4 := by rcases h34 with h | h <;> omega
      simp only [if_neg n1, if_neg h3, decide_eq_true h4]; exact go
-- ------------------------------------------------------------ the reference's
theorem parts_spec (x : TExpForm) (hw : wid x ≤ 1000000000) (h : x.vSort = 3 ∨ (x.vSort = 4 ∧ 2 ≤ (x.vKids.length : Int))) : Ev (fun k => spec_l3Parts.f k x) (partsOf x) := by
  have hp := wid_parts x
  simp only [spec_l3Parts.f, partsOf]
  rcases h with h | ⟨h, h2⟩
  · have n4 : ¬ x.vSort = 4 := by omega
    simp only [if_neg n4]; exact Ev.now _
  · simp (disch := omega) only [if_pos h, if_pos, w64, List.drop_zero]
    refine Ev.eq (Ev.now _) ?_
    rw [show ((x.vKids.length : Int) - 1).toNat = x.vKids.length - 1 by omega]
theorem repeat_spec (x : TExpForm) (hw : wid x ≤ 1000000000) (h : x.vSort = 3 ∨ (x.vSort = 4 ∧ 2 ≤ (x.vKids.length : Int))) : Evs (fun k => spec_l3Repeat.f k x) (fun r => (decide (r = -2)) = (headDots (partsOf x) || gt1 (dotsN (partsOf x)))) := by
  simp only [spec_l3Repeat.f, eTExpForm_eq]
  refine Evs.bind (Evs.of (parts_spec x hw h) (P := fun r => r = partsOf x) rfl) fun r hr => ?_
  subst hr
  have hwp : (( partsOf x).length : Int) ≤ 1000000000 := by
    have hp := wid_parts x
    unfold partsOf; split
    · rw [List.length_take]; omega
    · omega
  refine (goList (partsOf x) (P := fun i suf => ∀ (at_ n : Int), 0 ≤ n → -1 ≤ at_ → at_ ≤ i → (0 ≤ at_ ↔ 0 < n) → Evs (fun k => spec_l3Repeat.l4 k at_ (partsOf x) i) (fun r => (decide (r = -2)) = ((decide (i = 0) && headDots suf) || (gt1 (n + dotsN suf) && (decide (0 < dotsN suf)))))) ?_ ?_ (-1) 0 (by omega) (by omega) (by omega) (by omega)).mono ?_
  · intro at_ n h0 h1 h2 h3
    refine Evs.shift ?_
    simp (disch := omega) only [spec_l3Repeat.l4, if_neg]
    refine Evs.now ?_
    rw [decide_eq_false (by omega)]
    simp [headDots, dotsN]
  · intro i y r i0 i1 hx hm hlen _ _ ih at_ n h0 h1 h2 h3
    have hdr := dotsN_pos r
    refine Evs.shift ?_
    simp (disch := omega) only [spec_l3Repeat.l4, if_pos, hx, eTExpForm_eq, w64]
    refine Evs.bind (Evs.of (dots_spec y) (P := fun r => r = isDots y) rfl) fun b hb => ?_
    subst hb
    cases hdy : isDots y with
    | true =>
      simp only [if_true, headDots, hdy, Bool.and_true]
      have dn : dotsN (y :: r) = 1 + dotsN r := by simp only [dotsN, hdy, if_true]
      by_cases ha : 0 ≤ at_
      · simp only [if_pos ha]
        refine Evs.now ?_
        rw [dn, decide_eq_true (rfl : (-2 : Int) = -2), show gt1 (n + (1 + dotsN r)) = true from decide_eq_true (by have := h3.1 ha; omega), decide_eq_true (show 0 < 1 + dotsN r by omega)]
        simp
      · simp only [if_neg ha]
        by_cases hi : i = 0
        · simp only [if_pos hi]
          refine Evs.now ?_
          simp [hi]
        · simp only [if_neg hi]
          refine (ih (i - 1) (n + 1) (by omega) (by omega) (by omega) (by omega)).mono fun s hs => ?_
          have hn : n = 0 := by omega
          subst hn
          rw [hs, dn, decide_eq_false hi, decide_eq_false (show ¬ i + 1 = 0 by omega)]
          simp only [Bool.false_and, Bool.false_or]
          unfold gt1
          rw [Bool.eq_iff_iff]
          simp
          omega
    | false =>
      have dn : dotsN (y :: r) = dotsN r := by simp [dotsN, hdy]
      simp only [Bool.false_eq_true, if_false, headDots, hdy, Bool.and_false, Bool.false_or, dn]
      refine (ih at_ n h0 h1 (by omega) h3).mono fun s hs => ?_
      rw [hs, decide_eq_false (show ¬ i + 1 = 0 by omega)]
      simp
  · intro r hr
    rw [hr]
    have := dotsN_pos (partsOf x)
    simp only [decide_true, Bool.true_and, Int.zero_add]
    congr 1
    unfold gt1
    rw [Bool.eq_iff_iff]
    simp only [Bool.and_eq_true, decide_eq_true_eq]
    omega
theorem isDots_not {x : TExpForm} (h : ¬ x.vSort = 1) : isDots x = false := by unfold isDots; rw [decide_eq_false h]; rfl
theorem patOk_spec : ∀ (p : TExpForm) (d : Int), okf p d = true → wid p ≤ 1000000000 → Ev (fun k => spec_l3PatternOk.f k p) (!isDots p && stOk p) := by
  refine indForm fun p ih d hok hw => ?_
  have hp := wid_parts p
  refine Ev.shift ?_
  simp only [spec_l3PatternOk.f, eTExpForm_eq]
  rcases okf_shape hok with ⟨h1, hk⟩ | ⟨h2, hk⟩ | ⟨h34, hks⟩
  · rw [stOk_mk, if_pos (Or.inl h1)]
    simp only [if_pos h1]
    refine Ev.bind (dots_spec p) ?_
    cases isDots p <;> exact Ev.now _
  · rw [stOk_mk, if_pos (Or.inr h2), isDots_not (by omega)]
    have n1 : ¬ p.vSort = 1 := by omega
    simp only [if_neg n1, if_pos h2]; exact Ev.now _
  · have n1 : ¬ p.vSort = 1 := by rcases h34 with h | h <;> omega
    have n2 : ¬ p.vSort = 2 := by rcases h34 with h | h <;> omega
    have hkids := okfs_mem' hks
    rw [stOk_mk, if_neg (by omega), isDots_not n1]
    simp only [if_neg n1, if_neg n2, Bool.not_false, Bool.true_and]
    obtain ⟨r, hr, e⟩ := repeat_spec p hw h34
    refine Ev.bind e ?_
    have kids : Ev (fun k => spec_l3PatternOk.j7b k (spec_l3PatternOk.f k) (spec_l3PatternOk.l8 k) p.vKids) (stOks p.vKids) := by
      simp only [spec_l3PatternOk.j7b]
      refine goList p.vKids (P := fun i suf => Ev (fun k => spec_l3PatternOk.l8 k i p.vKids) (stOks suf)) ?_ ?_
      · refine Ev.shift ?_
        simp (disch := omega) only [spec_l3PatternOk.l8, if_neg, stOks]; exact Ev.now _
      · intro i y r i0 i1 hx hm _ _ _ ihr
        have hy := wids_mem hm
        refine Ev.shift ?_
        simp (disch := omega) only [spec_l3PatternOk.l8, if_pos, hx, eTExpForm_eq, w64, stOks]
        refine Ev.bind (dots_spec y) ?_
        cases hdy : isDots y with
        | true =>
          have : stOk y = true := by
            rw [stOk_mk, if_pos (Or.inl ?_)]
            unfold isDots at hdy
            simp only [Bool.and_eq_true, decide_eq_true_eq] at hdy
            exact hdy.1
          simp only [not_true_eq_false, if_false, this, Bool.true_and]; exact ihr
        | false =>
          simp only [Bool.false_eq_true, not_false_eq_true, if_true]
          refine Ev.bind (ih y hm (d + 1) (hkids y hm) (by omega)) ?_
          rw [hdy]
          cases stOk y with
          | true => simp only [Bool.not_false, Bool.and_self, not_true_eq_false, if_false, Bool.true_and]; exact ihr
          | false => simp only [Bool.and_false, Bool.false_eq_true, not_false_eq_true, if_true, Bool.false_and]; exact Ev.now _
    by_cases hm2 : r = -2
    · have : (headDots (partsOf p) || gt1 (dotsN (partsOf p))) = true := by rw [← hr]; exact decide_eq_true hm2
      simp only [if_pos hm2]
      refine Ev.eq (Ev.now _) ?_
      rw [← Bool.not_or, this]; rfl
    · have : (headDots (partsOf p) || gt1 (dotsN (partsOf p))) = false := by rw [← hr]; exact decide_eq_false hm2
      simp only [if_neg hm2]
      rw [← Bool.not_or, this]
      simp only [Bool.not_false, Bool.true_and]
      by_cases h4 : p.vSort = 4
      · have h2k : 2 ≤ (p.vKids.length : Int) := by rcases h34 with h | h <;> omega
        simp (disch := omega) only [if_pos h4, if_pos, w64, decide_eq_true h4, Bool.not_true, Bool.false_or]
        refine Ev.bind (dots_spec _) ?_
        show Ev _ (!isDots (lastOf p) && stOks p.vKids)
        show Ev (fun k => if isDots (lastOf p) = true then some false else spec_l3PatternOk.j7b k (spec_l3PatternOk.f k) (spec_l3PatternOk.l8 k) p.vKids) _
        cases isDots (lastOf p) with
        | true => simp only [if_true, Bool.not_true, Bool.false_and]; exact Ev.now _
        | false => simp only [Bool.false_eq_true, if_false, Bool.not_false, Bool.true_and]; exact kids
      · simp only [if_neg h4, decide_eq_false h4, Bool.not_false, Bool.true_or, Bool.true_and]; exact kids
theorem names_spec (lits : List TExpForm) (hlit : Sml lits) (hl1 : ∀ x ∈ lits, x.vSort = 1) : ∀ (p : TExpForm), wid p ≤ 1000000000 → Ev (fun k => spec_l3Names.f k p lits) (nms lits p) := by
  refine indForm fun p ih hw => ?_
  have hp := wid_parts p
  refine Ev.shift ?_
  rw [nms_mk]
  simp only [spec_l3Names.f, eTExpForm_eq]
  by_cases h1 : p.vSort = 1
  · simp only [if_pos h1]
    refine Ev.bind (dots_spec p) ?_
    cases isDots p with
    | true => simp only [not_true_eq_false, if_false, Bool.true_or, if_true]; exact Ev.now _
    | false =>
      simp only [Bool.false_eq_true, not_false_eq_true, if_true, Bool.false_or]
      refine Ev.bind (blank_spec p) ?_
      cases isBlank p with
      | true => simp only [not_true_eq_false, if_false, Bool.true_or, if_true]; exact Ev.now _
      | false =>
        simp only [Bool.false_eq_true, not_false_eq_true, if_true, Bool.false_or]
        refine Ev.bind (among_spec lits p hlit hl1 h1) ?_
        cases inB lits p with
        | true => simp only [not_true_eq_false, if_false, if_true]; exact Ev.now _
        | false =>
          simp (disch := first | omega | (simp; omega)) only [Bool.false_eq_true, not_false_eq_true, if_true, if_false, if_pos, List.nil_append]
          exact Ev.now _
  · simp only [if_neg h1]
    refine goList p.vKids (P := fun i suf => ∀ out : List TExpForm, (out.length : Int) + wids suf ≤ 1000000000 → Ev (fun k => spec_l3Names.l7 k lits i p.vKids out) (out ++ nmss lits suf)) ?_ ?_ [] (by simp; omega)
    · intro out ho
      refine Ev.shift ?_
      simp (disch := omega) only [spec_l3Names.l7, if_neg, nmss, List.append_nil]; exact Ev.now _
    · intro i y r i0 i1 hx hm _ _ _ ihr out ho
      have hy := wids_mem hm
      obtain ⟨f1, _⟩ := nms_facts lits y
      have := (wids_len r).1
      simp only [wids] at ho
      refine Ev.shift ?_
      simp (disch := omega) only [spec_l3Names.l7, if_pos, hx, eTExpForm_eq, w64, nmss]
      refine Ev.bind (ih y hm (by omega)) ?_
      simp (disch := omega) only [if_pos]
      exact Ev.eq (ihr (out ++ nms lits y) (by rw [List.length_append]; omega)) (by simp)
def patB (p : TExpForm) (lits : List TExpForm) : Bool := okb p && (lits.all litOk && (!isDots p && (stOk p && noDup [] (nms lits p))))
theorem PatternOk_impl (p : TExpForm) (lits : List TExpForm) (hw : wid p ≤ 100000000) (hl : Sml lits) : Ev (fun k => impl_ExpPatternOk.f k p lits) (patB p lits) := by
  simp only [impl_ExpPatternOk.f, eTExpForm_eq, impl_ExpPatternOk.j3, mTExpForm, patB]
  refine Ev.bind (formOk_impl p (by omega)) ?_
  cases hok : okb p with
  | false => simp only [Bool.false_eq_true, not_false_eq_true, if_true, Bool.false_and]; exact Ev.now _
  | true =>
    simp only [not_true_eq_false, if_false, Bool.true_and]
    refine Ev.bind (lits_impl lits hl) ?_
    cases lits.all litOk with
    | false => simp only [Bool.false_eq_true, not_false_eq_true, if_true, Bool.false_and]; exact Ev.now _
    | true =>
      simp only [not_true_eq_false, if_false, Bool.true_and]
      refine Ev.bind (is_dots p) ?_
      cases isDots p with
      | true => simp only [if_true, Bool.not_true, Bool.false_and]; exact Ev.now _
      | false =>
        simp only [Bool.false_eq_true, if_false, Bool.not_false, Bool.true_and]
        have hokf : okf p 0 = true := by unfold okb at hok; rw [Bool.and_eq_true] at hok; exact hok.1
        refine Ev.bind (look_impl lits hl p 0 hokf false [] ⟨by simp, fun x hx => by cases hx⟩ hw (by simp; omega)) ?_
        refine Ev.eq (Ev.now _) ?_
        cases stOk p <;> cases noDup [] (nms lits p) <;> simp
theorem noDup_loop (l : List TExpForm) (hs : Sml l) (h1 : ∀ x ∈ l, x.vSort = 1) : Ev (fun k => spec_ExpPatternOk.l5 k l 0) (noDup [] l) := by
  have hl := hs.1
  refine Ev.eq (goList l (P := fun i suf => 0 ≤ i → Ev (fun k => spec_ExpPatternOk.l5 k l i) (noDup (l.take i.toNat) suf)) ?_ ?_ (by omega)) (by simp)
  · intro _
    refine Ev.shift ?_
    simp (disch := omega) only [spec_ExpPatternOk.l5, if_neg, noDup]; exact Ev.now _
  · intro i y r i0 i1 hx hm _ _ htk ih _
    refine Ev.shift ?_
    simp (disch := omega) only [spec_ExpPatternOk.l5, if_pos, hx, eTExpForm_eq, w64, List.drop_zero, noDup]
    refine Ev.bind (among_spec (l.take i.toNat) y ⟨by rw [List.length_take]; omega, fun x hx => hs.2 x (List.mem_of_mem_take hx)⟩ (fun x hx => h1 x (List.mem_of_mem_take hx)) (h1 y hm)) ?_
    have e : (i + 1).toNat = i.toNat + 1 := by omega
    have ih := ih (by omega)
    rw [e, htk] at ih
    cases inB (l.take i.toNat) y with
    | true => simp only [if_true, Bool.not_true, Bool.false_and]; exact Ev.now _
    | false => simp only [Bool.false_eq_true, if_false, Bool.not_false, Bool.true_and]; exact ih
theorem PatternOk_spec (p : TExpForm) (lits : List TExpForm) (hw : wid p ≤ 100000000) (hl : Sml lits) : Ev (fun k => spec_ExpPatternOk.f k p lits) (patB p lits) := by
  simp only [spec_ExpPatternOk.f, eTExpForm_eq, spec_ExpPatternOk.j3, mTExpForm, patB]
  refine Ev.bind (formOk_spec p (by omega)) ?_
  cases hok : okb p with
  | false => simp only [Bool.false_eq_true, not_false_eq_true, if_true, Bool.false_and]; exact Ev.now _
  | true =>
    simp only [not_true_eq_false, if_false, Bool.true_and]
    refine Ev.bind (lits_spec lits hl) ?_
    cases hlo : lits.all litOk with
    | false => simp only [Bool.false_eq_true, not_false_eq_true, if_true, Bool.false_and]; exact Ev.now _
    | true =>
      have hl1 : ∀ x ∈ lits, x.vSort = 1 := by
        intro x hx
        have := List.all_eq_true.1 hlo x hx
        unfold litOk at this
        simp only [Bool.and_eq_true, decide_eq_true_eq] at this
        exact this.1
      have hokf : okf p 0 = true := by unfold okb at hok; rw [Bool.and_eq_true] at hok; exact hok.1
      simp only [not_true_eq_false, if_false, Bool.true_and]
      refine Ev.bind (patOk_spec p 0 hokf (by omega)) ?_
      rw [← Bool.and_assoc]
      cases (!isDots p && stOk p) with
      | false => simp only [Bool.false_eq_true, not_false_eq_true, if_true, Bool.false_and]; exact Ev.now _
      | true =>
        simp only [not_true_eq_false, if_false, Bool.true_and]
        obtain ⟨f1, f2⟩ := nms_facts lits p
        exact Ev.bind (names_spec lits hl hl1 p (by omega)) (noDup_loop _ ⟨by omega, fun x hx => by have := (f2 x hx).2; omega⟩ fun x hx => (f2 x hx).1)
end Go.Proofs.YtmcbhnbemhfifaaDoor.RX
