/- The exact laws' own functions on forms: how large an argument is, a copy of it, two compared. Condition: sizes that a machine may hold. -/
import Derived.Test.YtmcbhnbemhfifaaDoorPoRxForm
namespace Go.Proofs.YtmcbhnbemhfifaaDoor.RX
open Go K
set_option autoImplicit false
set_option linter.unusedVariables false
set_option linter.unusedSimpArgs false
theorem indLForm {P : Tlaws_ExpForm → Prop} (h : ∀ x : Tlaws_ExpForm, (∀ y ∈ x.vKids, P y) → P x) : ∀ x, P x := by
  have key : ∀ n (x : Tlaws_ExpForm), SizeOf.sizeOf x < n → P x := by
    intro n
    induction n with
    | zero => intro x hx; omega
    | succ n ih =>
      intro x hx
      refine h x (fun y hy => ih y ?_)
      have h1 := List.sizeOf_lt_of_mem hy
      cases x
      simp at h1 hx ⊢
      omega
  exact fun x => key _ x (Nat.lt_succ_self _)
mutual
/-- Sizes that a machine may hold. -/
def lokF : Tlaws_ExpForm → Prop
  | ⟨_, t, sc, _, ks⟩ => t.size ≤ 9223372036854775807 ∧ sc.length ≤ 9223372036854775807 ∧ ks.length ≤ 9223372036854775807 ∧ lokFs ks
def lokFs : List Tlaws_ExpForm → Prop
  | [] => True
  | x :: l => lokF x ∧ lokFs l
end
theorem lokF_mk (x : Tlaws_ExpForm) : lokF x ↔ x.vText.size ≤ 9223372036854775807 ∧ x.vScopes.length ≤ 9223372036854775807 ∧ x.vKids.length ≤ 9223372036854775807 ∧ lokFs x.vKids := by cases x; simp only [lokF]
theorem lokFs_mem {l : List Tlaws_ExpForm} (h : lokFs l) : ∀ x ∈ l, lokF x := by
  induction l with
  | nil => intro x hx; cases hx
  | cons y l ih =>
    intro x hx
    rcases List.mem_cons.1 hx with rfl | hx
    · exact h.1
    · exact ih h.2 x hx
theorem lokFs_all {l : List Tlaws_ExpForm} (h : ∀ x ∈ l, lokF x) : lokFs l := by
  induction l with
  | nil => trivial
  | cons y l ih => exact ⟨h y (by simp), ih fun x hx => h x (List.mem_cons_of_mem _ hx)⟩
mutual
/-- What the law counts. -/
def lwid : Tlaws_ExpForm → Int
  | ⟨_, t, sc, _, ks⟩ => (t.size : Int) + (sc.length : Int) + ((ks.length : Int) + lwids ks)
def lwids : List Tlaws_ExpForm → Int
  | [] => 0
  | x :: l => lwid x + lwids l
end
theorem lwid_mk (x : Tlaws_ExpForm) : lwid x = (x.vText.size : Int) + (x.vScopes.length : Int) + ((x.vKids.length : Int) + lwids x.vKids) := by cases x; simp only [lwid]
mutual
/-- The form of the program that is one of the law. -/
def cv : Tlaws_ExpForm → TExpForm
  | ⟨a, t, sc, d, ks⟩ => ⟨a, t, sc, d, cvs ks⟩
def cvs : List Tlaws_ExpForm → List TExpForm
  | [] => []
  | x :: l => cv x :: cvs l
end
theorem cv_mk (x : Tlaws_ExpForm) : cv x = ⟨x.vSort, x.vText, x.vScopes, x.vFrom, cvs x.vKids⟩ := by cases x; simp only [cv]
theorem cvs_length (l : List Tlaws_ExpForm) : (cvs l).length = l.length := by
  induction l with
  | nil => rfl
  | cons x l ih => simp only [cvs, List.length_cons, ih]
theorem wid_cv : ∀ x, wid (cv x) = 1 + lwid x := by
  refine indLForm fun x ih => ?_
  have key : ∀ l : List Tlaws_ExpForm, (∀ y ∈ l, wid (cv y) = 1 + lwid y) → wids (cvs l) = (l.length : Int) + lwids l := by
    intro l
    induction l with
    | nil => intro _; rfl
    | cons y l ihl =>
      intro h
      have h1 := h y (by simp)
      have h2 := ihl fun z hz => h z (List.mem_cons_of_mem _ hz)
      simp only [cvs, wids, lwids, List.length_cons]; omega
  rw [cv_mk, wid_c, key _ ih, lwid_mk]
  omega
theorem wids_cvs (l : List Tlaws_ExpForm) : wids (cvs l) = (l.length : Int) + lwids l := by
  induction l with
  | nil => rfl
  | cons y l ih => have := wid_cv y; simp only [cvs, wids, lwids, List.length_cons]; omega
theorem lwid_pos (x : Tlaws_ExpForm) : 0 ≤ lwid x := by have := wid_cv x; have := wid_pos (cv x); omega
theorem lwids_pos (l : List Tlaws_ExpForm) : 0 ≤ lwids l := by
  induction l with
  | nil => simp [lwids]
  | cons x l ih => have := lwid_pos x; simp only [lwids]; omega
theorem lwids_mem {l : List Tlaws_ExpForm} {x : Tlaws_ExpForm} (h : x ∈ l) : lwid x ≤ lwids l := by
  induction l with
  | nil => cases h
  | cons y l ih =>
    have h1 := lwid_pos y
    have h2 := lwids_pos l
    simp only [lwids]
    rcases List.mem_cons.1 h with rfl | h
    · omega
    · have := ih h; omega
/-- What is left. -/
def leftI (n left : Int) : Int := if n ≤ left then left - n else -1
theorem leftI_in {n left : Int} (h : n ≤ left) : leftI n left = left - n := if_pos h
theorem leftI_out {n left : Int} (h : ¬ n ≤ left) : leftI n left = -1 := if_neg h
theorem szInts (l : List Int) (n : Int) (h0 : 0 ≤ n) (h1 : n ≤ 1048576) (hl : l.length ≤ 9223372036854775807) : Ev (fun k => laws_szIntS.f k l n) (leftI (l.length : Int) n) := by
  simp (disch := omega) only [laws_szIntS.f, w64]
  by_cases h : (l.length : Int) ≤ n
  · simp (disch := omega) only [if_neg, leftI_in h]; exact Ev.now _
  · simp (disch := omega) only [if_pos, leftI_out h]; exact Ev.now _
theorem szForms_of (l : List Tlaws_ExpForm) (n : Int) (h0 : 0 ≤ n) (h1 : n ≤ 1048576) (hl : l.length ≤ 9223372036854775807) (hP : ∀ y ∈ l, ∀ n : Int, 0 ≤ n → n ≤ 1048576 → Ev (fun k => laws_szExpForm.f k y n) (leftI (lwid y) n)) :
    Ev (fun k => laws_szExpFormS.f k l n) (leftI ((l.length : Int) + lwids l) n) := by
  have hp := lwids_pos l
  refine Ev.shift ?_
  simp (disch := omega) only [laws_szExpFormS.f, w64]
  by_cases h : (l.length : Int) ≤ n
  · simp (disch := omega) only [if_neg]
    have key := goList l (P := fun i suf => ∀ m : Int, 0 ≤ m → m ≤ 1048576 → Ev (fun k => laws_szExpFormS.l5 k l m i) (leftI (lwids suf) m)) ?_ ?_ (n - (l.length : Int)) (by omega) (by omega)
    · refine Ev.eq key ?_
      by_cases h2 : lwids l ≤ n - (l.length : Int)
      · rw [leftI_in h2, leftI_in (by omega)]; omega
      · rw [leftI_out h2, leftI_out (by omega)]
    · intro m m0 m1
      refine Ev.shift ?_
      simp (disch := omega) only [laws_szExpFormS.l5, if_neg, lwids, leftI_in m0, Int.sub_zero]
      exact Ev.now _
    · intro i y r i0 i1 hx hm hlen _ _ ih m m0 m1
      have hy := lwid_pos y
      have hr := lwids_pos r
      refine Ev.shift ?_
      simp (disch := omega) only [laws_szExpFormS.l5, if_pos, hx, eTlaws_ExpForm_eq, w64, lwids]
      refine Ev.bind (hP y hm m m0 m1) ?_
      by_cases h3 : lwid y ≤ m
      · rw [leftI_in h3]
        simp (disch := omega) only [if_neg]
        refine Ev.eq (ih (m - lwid y) (by omega) (by omega)) ?_
        by_cases h4 : lwids r ≤ m - lwid y
        · rw [leftI_in h4, leftI_in (by omega)]; omega
        · rw [leftI_out h4, leftI_out (by omega)]
      · rw [leftI_out h3, leftI_out (show ¬ lwid y + lwids r ≤ m by omega)]
        simp (disch := decide) only [if_pos]; exact Ev.now _
  · simp (disch := omega) only [if_pos, leftI_out (show ¬ (l.length : Int) + lwids l ≤ n by omega)]; exact Ev.now _
theorem szForm : ∀ (x : Tlaws_ExpForm), lokF x → ∀ (n : Int), 0 ≤ n → n ≤ 1048576 → Ev (fun k => laws_szExpForm.f k x n) (leftI (lwid x) n) := by
  refine indLForm fun x ih hx n h0 h1 => ?_
  obtain ⟨k1, k2, k3, k4⟩ := (lokF_mk x).1 hx
  have hp := lwids_pos x.vKids
  rw [lwid_mk]
  refine Ev.shift ?_
  simp (disch := omega) only [laws_szExpForm.f, w64]
  by_cases h : (x.vText.size : Int) ≤ n
  · simp (disch := omega) only [if_neg]
    refine Ev.bind (szInts _ _ (by omega) (by omega) k2) ?_
    by_cases h2 : (x.vScopes.length : Int) ≤ n - (x.vText.size : Int)
    · rw [leftI_in h2]
      simp (disch := omega) only [if_neg]
      refine Ev.bind (szForms_of _ _ (by omega) (by omega) k3 (fun y hy => ih y hy (lokFs_mem k4 y hy))) ?_
      by_cases h3 : (x.vKids.length : Int) + lwids x.vKids ≤ n - (x.vText.size : Int) - (x.vScopes.length : Int)
      · rw [leftI_in h3, leftI_in (by omega)]
        simp (disch := omega) only [if_neg]
        exact Ev.eq (Ev.now _) (by omega)
      · rw [leftI_out h3, leftI_out (by omega)]
        simp (disch := decide) only [if_pos]; exact Ev.now _
    · rw [leftI_out h2, leftI_out (by omega)]
      simp (disch := decide) only [if_pos]; exact Ev.now _
  · simp (disch := omega) only [if_pos, leftI_out (show ¬ (x.vText.size : Int) + (x.vScopes.length : Int) + ((x.vKids.length : Int) + lwids x.vKids) ≤ n by omega)]; exact Ev.now _
theorem szForms (l : List Tlaws_ExpForm) (hl : l.length ≤ 9223372036854775807) (h : lokFs l) (n : Int) (h0 : 0 ≤ n) (h1 : n ≤ 1048576) : Ev (fun k => laws_szExpFormS.f k l n) (leftI ((l.length : Int) + lwids l) n) :=
  szForms_of l n h0 h1 hl fun y hy => szForm y (lokFs_mem h y hy)
-- ------------------------------------------------------------ copies
theorem replicate_drop {α : Type} (z : α) (n i : Nat) : (List.replicate n z).drop i = List.replicate (n - i) z := by simp
/-- A row made with a length, filled place by place. -/
theorem goFill {α β : Type} (l : List α) (z : β) (f : α → β) {R : Type} {res : List β → R} {G : Nat → Int → List β → Option R}
    (h0 : ∀ a : List β, a.length = l.length → Ev (fun k => G k (l.length : Int) a) (res a))
    (hs : ∀ (i : Int) (x : α) (d : List β) (m : Nat), 0 ≤ i → i < (l.length : Int) → (d.length : Int) = i → (∀ z, rdAt z l i = x) → x ∈ l → (d.length + (m + 1) = l.length) → (∀ r, Ev (fun k => G k (i + 1) ((d ++ [f x]) ++ List.replicate m z)) r → Ev (fun k => G k i (d ++ z :: List.replicate m z)) r)) :
    Ev (fun k => G k 0 (List.replicate l.length z)) (res (l.map f)) := by
  refine goList l (P := fun i suf => ∀ d : List β, (d.length : Int) = i → Ev (fun k => G k i (d ++ List.replicate suf.length z)) (res (d ++ suf.map f))) ?_ ?_ [] rfl
  · intro d hd
    simp only [List.length_nil, List.replicate_zero, List.append_nil, List.map_nil]
    exact h0 d (by omega)
  · intro i x r i0 i1 hx hm hl _ _ ih d hd
    rw [List.length_cons, List.replicate_succ]
    refine hs i x d r.length i0 i1 hd hx hm (by omega) _ ?_
    have := ih (d ++ [f x]) (by simp; omega)
    simpa using this
theorem toInts (l : List Int) (hl : (l.length : Int) ≤ 1000000000) : Ev (fun k => laws_toIntS.f k l) l := by
  simp (disch := omega) only [laws_toIntS.f, if_pos, Int.toNat_natCast]
  refine Ev.eq (goFill l (0 : Int) id (res := id) (G := fun k i a => laws_toIntS.l3 k l i a) ?_ ?_) (by simp)
  · intro a ha
    refine Ev.shift ?_
    simp (disch := omega) only [laws_toIntS.l3, if_neg]
    exact Ev.now _
  · intro i x d m i0 i1 hd hx hm hl r h
    refine Ev.shift ?_
    simp (disch := first | omega | (simp; omega)) only [laws_toIntS.l3, if_pos, hx, w64, mid_set hd]
    exact h
theorem toForms_of (l : List Tlaws_ExpForm) (hl : (l.length : Int) ≤ 1000000000) (hP : ∀ y ∈ l, Ev (fun k => laws_toExpForm.f k y) (cv y)) : Ev (fun k => laws_toExpFormS.f k l) (cvs l) := by
  refine Ev.shift ?_
  simp (disch := omega) only [laws_toExpFormS.f, if_pos, Int.toNat_natCast]
  refine Ev.eq (goFill l (⟨0, ByteArray.empty, [], 0, []⟩ : TExpForm) cv (res := id) (G := fun k i a => laws_toExpFormS.l3 k l i a) ?_ ?_) ?_
  · intro a ha
    refine Ev.shift ?_
    simp (disch := omega) only [laws_toExpFormS.l3, if_neg]
    exact Ev.now _
  · intro i x d m i0 i1 hd hx hm hl r h
    refine Ev.shift ?_
    simp (disch := first | omega | (simp; omega)) only [laws_toExpFormS.l3, if_pos, hx, w64, eTlaws_ExpForm_eq]
    refine Ev.bind (hP x hm) ?_
    simp (disch := first | omega | (simp; omega)) only [if_pos, mid_set hd, eTExpForm_eq]
    exact h
  · have : ∀ l : List Tlaws_ExpForm, l.map cv = cvs l := by
      intro l
      induction l with
      | nil => rfl
      | cons x l ih => simp only [List.map_cons, cvs, ih]
    exact this l
theorem toForm : ∀ x : Tlaws_ExpForm, lwid x ≤ 1000000000 → Ev (fun k => laws_toExpForm.f k x) (cv x) := by
  refine indLForm fun x ih hw => ?_
  rw [lwid_mk] at hw
  have hp := lwids_pos x.vKids
  refine Ev.shift ?_
  simp only [laws_toExpForm.f]
  refine Ev.bind (toInts _ (by omega)) (Ev.bind (toForms_of _ (by omega) fun y hy => ih y hy (by have := lwids_mem hy; omega)) ?_)
  rw [cv_mk]; exact Ev.now _
theorem toForms (l : List Tlaws_ExpForm) (hl : (l.length : Int) + lwids l ≤ 1000000000) : Ev (fun k => laws_toExpFormS.f k l) (cvs l) := by
  have hp := lwids_pos l
  exact toForms_of l (by omega) fun y hy => toForm y (by have := lwids_mem hy; omega)
-- ------------------------------------------------------------ compared with itself
theorem eqInts_same (l : List Int) (hl : (l.length : Int) ≤ 1000000000) : Ev (fun k => laws_eqIntS.f k l l) true := by
  simp (disch := omega) only [laws_eqIntS.f, if_neg]
  refine goList l (P := fun i suf => Ev (fun k => laws_eqIntS.l4 k l l i) true) ?_ ?_
  · refine Ev.shift ?_
    simp (disch := omega) only [laws_eqIntS.l4, if_neg]; exact Ev.now _
  · intro i x r h0 h1 hx hm _ _ _ ih
    refine Ev.shift ?_
    simp (disch := omega) only [laws_eqIntS.l4, if_pos, not_true_eq_false, if_false, w64]; exact ih
theorem eqForms_of (l : List TExpForm) (hl : (l.length : Int) ≤ 1000000000) (hP : ∀ y ∈ l, Ev (fun k => laws_eqExpForm.f k y y) true) : Ev (fun k => laws_eqExpFormS.f k l l) true := by
  refine Ev.shift ?_
  simp (disch := omega) only [laws_eqExpFormS.f, if_neg]
  refine goList l (P := fun i suf => Ev (fun k => laws_eqExpFormS.l4 k l l i) true) ?_ ?_
  · refine Ev.shift ?_
    simp (disch := omega) only [laws_eqExpFormS.l4, if_neg]; exact Ev.now _
  · intro i y r h0 h1 hx hm _ _ _ ihr
    refine Ev.shift ?_
    simp (disch := omega) only [laws_eqExpFormS.l4, if_pos, hx, eTExpForm_eq, w64]
    refine Ev.bind (hP y hm) ?_
    simp only [not_true_eq_false, if_false]; exact ihr
theorem eqForm_same : ∀ x : TExpForm, wid x ≤ 1000000000 → Ev (fun k => laws_eqExpForm.f k x x) true := by
  refine indForm fun x ih hw => ?_
  have hp := wid_parts x
  refine Ev.shift ?_
  simp only [laws_eqExpForm.f, not_true_eq_false, if_false]
  refine Ev.bind (eqInts_same _ (by omega)) ?_
  simp only [not_true_eq_false, if_false]
  refine Ev.bind (eqForms_of x.vKids (by omega) fun y hy => ih y hy (by have := wids_mem hy; omega)) ?_
  simp only [not_true_eq_false, if_false]; exact Ev.now _
theorem eqForms_same (l : List TExpForm) (hw : wids l ≤ 1000000000) : Ev (fun k => laws_eqExpFormS.f k l l) true := by
  have := wids_len l
  exact eqForms_of l (by omega) fun y hy => eqForm_same y (by have := wids_mem hy; omega)
end Go.Proofs.YtmcbhnbemhfifaaDoor.RX
