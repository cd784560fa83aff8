/- Forms: how large one is; copies. No condition but the size. -/
import Derived.Test.YtmcbhnbemhfifaaDoorScRxDraw
namespace Go.Proofs.YtmcbhnbemhfifaaDoor.RX
open Go K
set_option autoImplicit false
set_option linter.unusedVariables false
set_option linter.unusedSimpArgs false
theorem indForm {P : TExpForm → Prop} (h : ∀ x : TExpForm, (∀ y ∈ x.vKids, P y) → P x) : ∀ x, P x := by
  have key : ∀ n (x : TExpForm), SizeOf.sizeOf x < n → P x := by
    intro n
    induction n with
    | zero => intro x hx; omega
    | succ n ih =>
      intro x hx
      refine h x (fun y hy => ih y ?_)
      have h1 := List.sizeOf_lt_of_mem hy
      cases x
      simp at h1 hx ⊢
      omega
  exact fun x => key _ x (Nat.lt_succ_self _)
mutual
/-- How large: letters, scopes, forms. -/
def wid : TExpForm → Int
  | ⟨_, t, sc, _, ks⟩ => 1 + (t.size : Int) + (sc.length : Int) + wids ks
def wids : List TExpForm → Int
  | [] => 0
  | x :: l => wid x + wids l
end
theorem wid_mk (x : TExpForm) : wid x = 1 + (x.vText.size : Int) + (x.vScopes.length : Int) + wids x.vKids := by cases x; simp only [wid]
theorem wid_c (a : Int) (t : ByteArray) (sc : List Int) (d : Int) (ks : List TExpForm) : wid ⟨a, t, sc, d, ks⟩ = 1 + (t.size : Int) + (sc.length : Int) + wids ks := by simp only [wid]
theorem wids_len (l : List TExpForm) : 0 ≤ wids l ∧ (l.length : Int) ≤ wids l := by
  have key : ∀ x : TExpForm, 1 ≤ wid x := by
    refine indForm fun x ih => ?_
    rw [wid_mk]
    have : ∀ l : List TExpForm, (∀ y ∈ l, 1 ≤ wid y) → 0 ≤ wids l := by
      intro l
      induction l with
      | nil => intro _; simp [wids]
      | cons y l ihl =>
        intro h
        have := h y (by simp)
        have := ihl fun z hz => h z (List.mem_cons_of_mem _ hz)
        simp only [wids]; omega
    have := this _ ih
    omega
  induction l with
  | nil => simp [wids]
  | cons x l ih =>
    have := key x
    simp only [wids, List.length_cons]; omega
theorem wid_pos (x : TExpForm) : 1 ≤ wid x := by rw [wid_mk]; have := (wids_len x.vKids).1; omega
theorem wids_mem {l : List TExpForm} {x : TExpForm} (h : x ∈ l) : wid x ≤ wids l := by
  induction l with
  | nil => cases h
  | cons y l ih =>
    have h1 := wid_pos y
    have h2 := (wids_len l).1
    simp only [wids]
    rcases List.mem_cons.1 h with rfl | h
    · omega
    · have := ih h; omega
theorem wids_append (l m : List TExpForm) : wids (l ++ m) = wids l + wids m := by
  induction l with
  | nil => simp [wids]
  | cons x l ih => simp only [List.cons_append, wids, ih]; omega
theorem wids_one (x : TExpForm) : wids [x] = wid x := by simp [wids]
theorem wids_take_le (l : List TExpForm) (n : Nat) : wids (l.take n) ≤ wids l := by
  have h := wids_append (l.take n) (l.drop n)
  rw [List.take_append_drop] at h
  have := (wids_len (l.drop n)).1
  omega
/-- What bounds give of a form: its parts. -/
theorem wid_parts (x : TExpForm) : (x.vText.size : Int) < wid x ∧ (x.vScopes.length : Int) < wid x ∧ (x.vKids.length : Int) < wid x ∧ wids x.vKids < wid x ∧ 0 ≤ wids x.vKids := by
  have := wid_mk x
  have := wids_len x.vKids
  omega
/-- A bound that stands for all limits. -/
def Big (n : Int) : Prop := n ≤ 1000000000
theorem copy_all : ∀ x : TExpForm, wid x ≤ 1000000000 → Ev (fun k => spec_l1Copy.f k x) (x.vSort, x.vText, x.vFrom, x.vScopes, x.vKids) := by
  refine indForm fun x ih hw => ?_
  have hp := wid_parts x
  refine Ev.shift ?_
  simp (disch := omega) only [spec_l1Copy.f, if_pos, List.length_nil, Nat.zero_add, List.nil_append]
  refine Ev.bind (r := x.vKids) (Ev.shift ?_) (Ev.now _)
  simp only [spec_l1Copies.f]
  refine Ev.eq (goList x.vKids (P := fun i suf => ∀ out : List TExpForm, (out.length : Int) = i → Ev (fun k => spec_l1Copies.l3 k x.vKids i out) (out ++ suf)) ?_ ?_ [] rfl) (by simp)
  · intro out ho
    refine Ev.shift ?_
    simp (disch := omega) only [spec_l1Copies.l3, if_neg, List.append_nil]
    exact Ev.now _
  · intro i y r h0 h1 hx hm hl _ _ ihr out ho
    have hy := wids_mem hm
    refine Ev.shift ?_
    simp (disch := omega) only [spec_l1Copies.l3, if_pos, hx, eTExpForm_eq, w64, List.length_singleton]
    refine Ev.bind (ih y hm (by omega)) ?_
    simp (disch := omega) only [if_pos, mTExpForm]
    exact Ev.eq (ihr (out ++ [y]) (by simp; omega)) (by simp)
theorem copies_all (l : List TExpForm) (hw : wids l ≤ 1000000000) : Ev (fun k => spec_l1Copies.f k l) l := by
  refine Ev.shift ?_
  simp only [spec_l1Copies.f]
  have hlen := wids_len l
  refine Ev.eq (goList l (P := fun i suf => ∀ out : List TExpForm, (out.length : Int) = i → Ev (fun k => spec_l1Copies.l3 k l i out) (out ++ suf)) ?_ ?_ [] rfl) (by simp)
  · intro out ho
    refine Ev.shift ?_
    simp (disch := omega) only [spec_l1Copies.l3, if_neg, List.append_nil]
    exact Ev.now _
  · intro i y r h0 h1 hx hm hl _ _ ihr out ho
    have hy := wids_mem hm
    refine Ev.shift ?_
    simp (disch := omega) only [spec_l1Copies.l3, if_pos, hx, eTExpForm_eq, w64, List.length_singleton]
    refine Ev.bind (copy_all y (by omega)) ?_
    simp (disch := omega) only [if_pos, mTExpForm]
    exact Ev.eq (ihr (out ++ [y]) (by simp; omega)) (by simp)
end Go.Proofs.YtmcbhnbemhfifaaDoor.RX
