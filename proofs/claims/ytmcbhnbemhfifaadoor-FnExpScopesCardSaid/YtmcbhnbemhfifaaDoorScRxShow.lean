/- A form, shown: what the program's function comes to. Condition: the form is not very large. -/
import Derived.Test.YtmcbhnbemhfifaaDoorScRxForm
namespace Go.Proofs.YtmcbhnbemhfifaaDoor.RX
open Go K
set_option autoImplicit false
set_option linter.unusedVariables false
set_option linter.unusedSimpArgs false
/-- One blank, and the next. -/
def glue (o p : ByteArray) : ByteArray := (o ++ (ByteArray.mk #[32])) ++ p
/-- Texts with a blank between. -/
def joined : List ByteArray → ByteArray
  | [] => ByteArray.mk #[]
  | x :: l => l.foldl glue x
theorem joinTail_foldl (l : List ByteArray) : ∀ x : ByteArray, (l.foldl glue x).data.toList = x.data.toList ++ Go.Lib.joinTail [32] (l.map (·.data.toList)) := by
  induction l with
  | nil => intro x; simp [Go.Lib.joinTail]
  | cons y l ih =>
    intro x
    simp only [List.foldl_cons, ih, glue, ByteArray.data_append, Array.toList_append, List.map_cons, Go.Lib.joinTail, List.flatten_cons, List.append_assoc]
theorem join_joined (l : List ByteArray) : Go.Lib.join (l.map (·.data.toList)) [32] = (joined l).data.toList := by
  cases l with
  | nil => rfl
  | cons x l => rw [List.map_cons, Go.Lib.join_cons]; exact (joinTail_foldl l x).symm
theorem data_len (s : ByteArray) : s.data.toList.length = s.size := by rw [Array.length_toList]; rfl
theorem join_ok (l : List ByteArray) (h1 : l.length ≤ 140737488355328) (h2 : (joined l).size ≤ 140737488355328) : LJoin l (ByteArray.mk #[32]) = some (joined l) := by
  unfold LJoin
  rw [if_pos h1, show (ByteArray.mk #[32]).data.toList = [32] from rfl, join_joined, if_pos (by rw [data_len]; exact h2)]
theorem glues_size (l : List ByteArray) : ∀ x : ByteArray, ((l.foldl glue x).size : Int) = (x.size : Int) + ((l.map (fun y => (y.size : Int) + 1)).sum) := by
  induction l with
  | nil => intro x; simp
  | cons y l ih =>
    intro x
    simp only [List.foldl_cons, ih, glue, ByteArray.size_append, List.map_cons, List.sum_cons]
    have : (ByteArray.mk #[32]).size = 1 := rfl
    omega
def total (l : List ByteArray) : Int := (l.map (fun y => (y.size : Int) + 1)).sum
theorem total_cons (x : ByteArray) (l : List ByteArray) : total (x :: l) = (x.size : Int) + 1 + total l := by simp [total]
theorem total_pos (l : List ByteArray) : 0 ≤ total l := by
  induction l with
  | nil => simp [total]
  | cons x l ih => rw [total_cons]; omega
theorem joined_size (l : List ByteArray) : ((joined l).size : Int) ≤ total l := by
  cases l with
  | nil => exact Int.le_refl _
  | cons x l => rw [total_cons]; unfold joined; rw [glues_size]; unfold total; omega
/-- What the last of a list with an end is shown with. -/
def dotted (dots : Bool) (n : Nat) (s : ByteArray) : ByteArray := if dots = true ∧ n = 0 then (ByteArray.mk #[46, 32]) ++ s else s
mutual
/-- A form, shown. -/
def shw : TExpForm → ByteArray
  | ⟨a, t, _, _, ks⟩ => if a = 1 ∨ a = 2 then t else ((ByteArray.mk #[40]) ++ joined (shws (decide (a = 4)) ks)) ++ (ByteArray.mk #[41])
def shws (dots : Bool) : List TExpForm → List ByteArray
  | [] => []
  | x :: l => dotted dots l.length (shw x) :: shws dots l
end
theorem shw_mk (x : TExpForm) : shw x = if x.vSort = 1 ∨ x.vSort = 2 then x.vText else ((ByteArray.mk #[40]) ++ joined (shws (decide (x.vSort = 4)) x.vKids)) ++ (ByteArray.mk #[41]) := by cases x; simp only [shw]
theorem shws_length (dots : Bool) (l : List TExpForm) : (shws dots l).length = l.length := by
  induction l with
  | nil => rfl
  | cons x l ih => simp [shws, ih]
theorem dotted_size (d : Bool) (n : Nat) (s : ByteArray) : (dotted d n s).size ≤ s.size + 2 := by
  unfold dotted
  split
  · rw [ByteArray.size_append]
    have : (ByteArray.mk #[46, 32]).size = 2 := rfl
    omega
  · omega
theorem shws_total (d : Bool) (l : List TExpForm) (h : ∀ x ∈ l, ((shw x).size : Int) ≤ 5 * wid x) : total (shws d l) ≤ 5 * wids l + 3 * (l.length : Int) := by
  induction l with
  | nil => simp [shws, total, wids]
  | cons x l ih =>
    rw [shws, total_cons]
    have h1 := h x (by simp)
    have h2 := ih (fun y hy => h y (List.mem_cons_of_mem _ hy))
    have h3 := dotted_size d l.length (shw x)
    simp only [wids, List.length_cons]
    omega
theorem cnt8 (l : List TExpForm) : (l.length : Int) ≤ wids l := (wids_len l).2
mutual
/-- How many letters and forms, told so that what is shown is no longer. -/
def swid : TExpForm → Int
  | ⟨_, t, _, _, ks⟩ => 6 + (t.size : Int) + swids ks
def swids : List TExpForm → Int
  | [] => 0
  | x :: l => swid x + swids l
end
theorem swid_mk (x : TExpForm) : swid x = 6 + (x.vText.size : Int) + swids x.vKids := by cases x; simp only [swid]
theorem swid_wid : ∀ x : TExpForm, swid x ≤ 6 * wid x := by
  refine indForm fun x ih => ?_
  have : ∀ l : List TExpForm, (∀ y ∈ l, swid y ≤ 6 * wid y) → swids l ≤ 6 * wids l := by
    intro l
    induction l with
    | nil => intro _; simp [swids, wids]
    | cons y l ihl =>
      intro h
      have := h y (by simp)
      have := ihl fun z hz => h z (List.mem_cons_of_mem _ hz)
      simp only [swids, wids]; omega
  have := this _ ih
  rw [swid_mk, wid_mk]
  omega
theorem shw_swid : ∀ x : TExpForm, ((shw x).size : Int) + 3 ≤ swid x := by
  refine indForm fun x ih => ?_
  have key : ∀ (d : Bool) (l : List TExpForm), (∀ y ∈ l, ((shw y).size : Int) + 3 ≤ swid y) → total (shws d l) ≤ swids l := by
    intro d l
    induction l with
    | nil => intro _; simp [shws, total, swids]
    | cons y l ihl =>
      intro h
      have h1 := h y (by simp)
      have h2 := ihl fun z hz => h z (List.mem_cons_of_mem _ hz)
      have h3 := dotted_size d l.length (shw y)
      rw [shws, total_cons]; simp only [swids]; omega
  have h1 := key (decide (x.vSort = 4)) x.vKids ih
  have h2 := joined_size (shws (decide (x.vSort = 4)) x.vKids)
  have h3 := total_pos (shws (decide (x.vSort = 4)) x.vKids)
  rw [shw_mk, swid_mk]
  split
  · omega
  · rw [ByteArray.size_append, ByteArray.size_append]
    have e1 : (ByteArray.mk #[40]).size = 1 := rfl
    have e2 : (ByteArray.mk #[41]).size = 1 := rfl
    omega
theorem shw_size (x : TExpForm) : ((shw x).size : Int) ≤ 6 * wid x := by
  have := shw_swid x
  have := swid_wid x
  omega
theorem show_impl : ∀ x : TExpForm, wid x ≤ 100000000 → Ev (fun k => impl_expShow.f k x) (shw x) := by
  refine indForm fun x ih hw => ?_
  have hp := wid_parts x
  refine Ev.shift ?_
  rw [shw_mk]
  simp only [impl_expShow.f, impl_expShow.j3b]
  by_cases h1 : x.vSort = 1
  · simp only [if_pos h1, if_pos (Or.inl h1 : x.vSort = 1 ∨ x.vSort = 2)]; exact Ev.now _
  by_cases h2 : x.vSort = 2
  · simp only [if_neg h1, if_pos h2, if_pos (Or.inr h2 : x.vSort = 1 ∨ x.vSort = 2)]; exact Ev.now _
  simp only [if_neg h1, if_neg h2, if_neg (show ¬ (x.vSort = 1 ∨ x.vSort = 2) by omega)]
  have hfit : total (shws (decide (x.vSort = 4)) x.vKids) ≤ 1000000000 := by
    have key : ∀ (d : Bool) (l : List TExpForm), total (shws d l) ≤ swids l := by
      intro d l
      induction l with
      | nil => simp [shws, total, swids]
      | cons y l ihl =>
        have h1 := shw_swid y
        have h3 := dotted_size d l.length (shw y)
        rw [shws, total_cons]; simp only [swids]; omega
    have a := key (decide (x.vSort = 4)) x.vKids
    have b := swid_mk x
    have c := swid_wid x
    omega
  refine goList x.vKids (P := fun i suf => ∀ out : List ByteArray, (out.length : Int) = i → total (out ++ shws (decide (x.vSort = 4)) suf) ≤ 1000000000 → (i + (suf.length : Int) = (x.vKids.length : Int)) → Ev (fun k => impl_expShow.l5 k x.vKids (x.vKids.length : Int) i x.vSort x.vKids out) (((ByteArray.mk #[40]) ++ joined (out ++ shws (decide (x.vSort = 4)) suf)) ++ (ByteArray.mk #[41]))) ?_ ?_ [] rfl hfit (by omega)
  · intro out ho ht _
    refine Ev.shift ?_
    simp only [shws, List.append_nil] at ht ⊢
    have hj := joined_size out
    have e1 : (ByteArray.mk #[40]).size = 1 := rfl
    have e2 : (ByteArray.mk #[41]).size = 1 := rfl
    simp (disch := omega) only [impl_expShow.l5, if_neg, join_ok out (by omega) (by omega), Option.bind_some, ByteArray.size_append, e1, e2, if_pos]
    exact Ev.now _
  · intro i y r h0 h1' hx hm hl _ _ ihr out ho ht hi
    have hy := wids_mem hm
    have hsz := shw_size y
    simp only [shws] at ht ⊢
    have e1 : (ByteArray.mk #[46, 32]).size = 2 := rfl
    have next : ∀ p : ByteArray, p = dotted (decide (x.vSort = 4)) r.length (shw y) → Ev (fun k => impl_expShow.l5 k x.vKids (x.vKids.length : Int) (i + 1) x.vSort x.vKids (out ++ [p])) (((ByteArray.mk #[40]) ++ joined (out ++ dotted (decide (x.vSort = 4)) r.length (shw y) :: shws (decide (x.vSort = 4)) r)) ++ (ByteArray.mk #[41])) := by
      rintro p rfl
      exact Ev.eq (ihr (out ++ [_]) (by simp; omega) (by simpa using ht) (by omega)) (by simp)
    refine Ev.shift ?_
    simp (disch := omega) only [impl_expShow.l5, if_pos, hx, eTExpForm_eq, w64, impl_expShow.j10b]
    refine Ev.bind (ih y hm (by omega)) ?_
    by_cases h4 : x.vSort = 4
    · by_cases h5 : i = (x.vKids.length : Int) - 1
      · simp (disch := first | omega | (simp; omega)) only [if_pos h4, if_pos h5, if_pos, e1]
        exact next _ (by unfold dotted; rw [if_pos ⟨decide_eq_true h4, by omega⟩])
      · simp (disch := first | omega | (simp; omega)) only [if_pos h4, if_neg h5, if_pos, e1]
        exact next _ (by unfold dotted; rw [if_neg (fun h => by have := h.2; omega)])
    · simp (disch := first | omega | (simp; omega)) only [if_neg h4, if_pos]
      exact next _ (by unfold dotted; rw [if_neg (fun h => h4 (of_decide_eq_true h.1))])
end Go.Proofs.YtmcbhnbemhfifaaDoor.RX
