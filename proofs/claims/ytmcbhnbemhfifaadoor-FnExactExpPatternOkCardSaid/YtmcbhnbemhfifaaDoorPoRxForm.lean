/- Forms: how large one is. No condition. -/
import Derived.Test.YtmcbhnbemhfifaaDoorPoRxPz
namespace Go.Proofs.YtmcbhnbemhfifaaDoor.RX
open Go K
set_option autoImplicit false
set_option linter.unusedVariables false
set_option linter.unusedSimpArgs false
theorem indForm {P : TExpForm → Prop} (h : ∀ x : TExpForm, (∀ y ∈ x.vKids, P y) → P x) : ∀ x, P x := by
  have key : ∀ n (x : TExpForm), SizeOf.sizeOf x < n → P x := by
    intro n
    induction n with
    | zero => intro x hx; omega
    | succ n ih =>
      intro x hx
      refine h x (fun y hy => ih y ?_)
      have h1 := List.sizeOf_lt_of_mem hy
      cases x
      simp at h1 hx ⊢
      omega
  exact fun x => key _ x (Nat.lt_succ_self _)
mutual
/-- How large: letters, scopes, forms. -/
def wid : TExpForm → Int
  | ⟨_, t, sc, _, ks⟩ => 1 + (t.size : Int) + (sc.length : Int) + wids ks
def wids : List TExpForm → Int
  | [] => 0
  | x :: l => wid x + wids l
end
theorem wid_mk (x : TExpForm) : wid x = 1 + (x.vText.size : Int) + (x.vScopes.length : Int) + wids x.vKids := by cases x; simp only [wid]
theorem wid_c (a : Int) (t : ByteArray) (sc : List Int) (d : Int) (ks : List TExpForm) : wid ⟨a, t, sc, d, ks⟩ = 1 + (t.size : Int) + (sc.length : Int) + wids ks := by simp only [wid]
theorem wids_len (l : List TExpForm) : 0 ≤ wids l ∧ (l.length : Int) ≤ wids l := by
  have key : ∀ x : TExpForm, 1 ≤ wid x := by
    refine indForm fun x ih => ?_
    rw [wid_mk]
    have : ∀ l : List TExpForm, (∀ y ∈ l, 1 ≤ wid y) → 0 ≤ wids l := by
      intro l
      induction l with
      | nil => intro _; simp [wids]
      | cons y l ihl =>
        intro h
        have := h y (by simp)
        have := ihl fun z hz => h z (List.mem_cons_of_mem _ hz)
        simp only [wids]; omega
    have := this _ ih
    omega
  induction l with
  | nil => simp [wids]
  | cons x l ih =>
    have := key x
    simp only [wids, List.length_cons]; omega
theorem wid_pos (x : TExpForm) : 1 ≤ wid x := by rw [wid_mk]; have := (wids_len x.vKids).1; omega
theorem wids_mem {l : List TExpForm} {x : TExpForm} (h : x ∈ l) : wid x ≤ wids l := by
  induction l with
  | nil => cases h
  | cons y l ih =>
    have h1 := wid_pos y
    have h2 := (wids_len l).1
    simp only [wids]
    rcases List.mem_cons.1 h with rfl | h
    · omega
    · have := ih h; omega
theorem wids_append (l m : List TExpForm) : wids (l ++ m) = wids l + wids m := by
  induction l with
  | nil => simp [wids]
  | cons x l ih => simp only [List.cons_append, wids, ih]; omega
theorem wids_one (x : TExpForm) : wids [x] = wid x := by simp [wids]
theorem wids_take_le (l : List TExpForm) (n : Nat) : wids (l.take n) ≤ wids l := by
  have h := wids_append (l.take n) (l.drop n)
  rw [List.take_append_drop] at h
  have := (wids_len (l.drop n)).1
  omega
/-- What bounds give of a form: its parts. -/
theorem wid_parts (x : TExpForm) : (x.vText.size : Int) < wid x ∧ (x.vScopes.length : Int) < wid x ∧ (x.vKids.length : Int) < wid x ∧ wids x.vKids < wid x ∧ 0 ≤ wids x.vKids := by
  have := wid_mk x
  have := wids_len x.vKids
  omega
end Go.Proofs.YtmcbhnbemhfifaaDoor.RX
