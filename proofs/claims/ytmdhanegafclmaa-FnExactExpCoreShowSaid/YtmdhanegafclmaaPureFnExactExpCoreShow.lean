/- FnExactExpCoreShow: at every part (as it can be read), either it is too large for the law's own bound, or the program's ExpCoreShow (a builder, strings.Join) answers what the reference's answers and the part stays as it was: the law's function returns true. No condition beyond the reading. -/
import Derived.Test.YtmdhanegafclmaaCoreFnExactExpCoreShow
namespace Go.Proofs.Ytmdhanegafclmaa.Pure
open Go.RowKit Go.Proofs.Ytmdhanegafclmaa.PFnExactExpCoreShow Go.Proofs.YtmdhanegafclmaaW.PrintWords Go.Proofs.YtmdhanegafclmaaW.PrintLast Go.Proofs.YtmdhanegafclmaaW.Pk
set_option linter.unusedVariables false
set_option linter.unusedSimpArgs false

/-! ### texts with a blank between -/
def glue (o p : ByteArray) : ByteArray := (o ++ (⟨#[32]⟩ : ByteArray)) ++ p
theorem glue_left (a o p : ByteArray) : glue (a ++ o) p = a ++ glue o p := by
  unfold glue
  simp only [ByteArray.append_assoc]
theorem glues_left (a : ByteArray) (l : List ByteArray) : ∀ o, l.foldl glue (a ++ o) = a ++ l.foldl glue o := by
  induction l with
  | nil => intro o; rfl
  | cons x l ih => intro o; simp only [List.foldl_cons, glue_left]; exact ih _
/-- Texts with a blank between. -/
def joined : List ByteArray → ByteArray
  | [] => ⟨#[]⟩
  | x :: l => l.foldl glue x
theorem joinTail_foldl (l : List ByteArray) : ∀ x : ByteArray, (l.foldl glue x).data.toList = x.data.toList ++ Lib.joinTail [32] (l.map (·.data.toList)) := by
  induction l with
  | nil => intro x; simp [Lib.joinTail]
  | cons y l ih =>
    intro x
    simp only [List.foldl_cons, ih, glue, ByteArray.data_append, Array.toList_append, List.map_cons, Lib.joinTail, List.flatten_cons, List.append_assoc]
theorem join_joined (l : List ByteArray) : Lib.join (l.map (·.data.toList)) [32] = (joined l).data.toList := by
  cases l with
  | nil => rfl
  | cons x l => rw [List.map_cons, Lib.join_cons]; exact (joinTail_foldl l x).symm
theorem data_len (s : ByteArray) : s.data.toList.length = s.size := by rw [Array.length_toList]; rfl
theorem bdata_inj {a b : ByteArray} (h : a.data.toList = b.data.toList) : a = b := by
  cases a; cases b; simpa using h
theorem nil_append (a : ByteArray) : (⟨#[]⟩ : ByteArray) ++ a = a := by
  refine bdata_inj ?_
  rw [ByteArray.data_append]
  simp
theorem append_nil (a : ByteArray) : a ++ (⟨#[]⟩ : ByteArray) = a := by
  refine bdata_inj ?_
  rw [ByteArray.data_append]
  simp
theorem join_ok (l : List ByteArray) (h1 : l.length ≤ 140737488355328) (h2 : (joined l).size ≤ 140737488355328) : strings_Join.f l (⟨#[32]⟩ : ByteArray) = some (joined l) := by
  unfold strings_Join.f
  rw [if_pos h1, show (⟨#[32]⟩ : ByteArray).data.toList = [32] from rfl, join_joined, if_pos (by rw [data_len]; exact h2)]
/-- What the last of a list is shown with. -/
def dotted (dots : Bool) (n : Nat) (s : ByteArray) : ByteArray := if dots = true ∧ n = 0 then (⟨#[46, 32]⟩ : ByteArray) ++ s else s
theorem glues_size (l : List ByteArray) : ∀ x : ByteArray, (l.foldl glue x).size = x.size + (l.map (fun y => y.size + 1)).sum := by
  induction l with
  | nil => intro x; simp
  | cons y l ih =>
    intro x
    simp only [List.foldl_cons, ih, glue, ByteArray.size_append, List.map_cons, List.sum_cons]
    have : (⟨#[32]⟩ : ByteArray).size = 1 := rfl
    omega
def total (l : List ByteArray) : Nat := (l.map (fun y => y.size + 1)).sum
theorem total_cons (x : ByteArray) (l : List ByteArray) : total (x :: l) = x.size + 1 + total l := by simp [total]
theorem joined_size (l : List ByteArray) : (joined l).size ≤ total l := by
  cases l with
  | nil => exact Nat.le_refl _
  | cons x l => rw [total_cons]; unfold joined; rw [glues_size]; unfold total; omega
theorem dotted_size (d : Bool) (n : Nat) (s : ByteArray) : (dotted d n s).size ≤ s.size + 2 := by
  unfold dotted
  split
  · rw [ByteArray.size_append]
    have : (⟨#[46, 32]⟩ : ByteArray).size = 2 := rfl
    omega
  · omega
/-- What stands behind o, of texts with a blank between; the first of all without one ahead. -/
def cont : Bool → ByteArray → List ByteArray → ByteArray
  | true, o, [] => o
  | true, o, x :: l => l.foldl glue (o ++ x)
  | false, o, l => l.foldl glue o
theorem cont_nil (b : Bool) (o : ByteArray) : cont b o [] = o := by cases b <;> rfl
theorem cont_joined (o : ByteArray) (l : List ByteArray) : cont true o l = o ++ joined l := by
  cases l with
  | nil => exact (append_nil o).symm
  | cons x l => exact glues_left o l x
theorem cont_tail {α : Type} (pre : List α) (s : α) (o : ByteArray) (l : List ByteArray) : cont (pre ++ [s]).isEmpty o l = l.foldl glue o := by
  cases pre <;> rfl
theorem not_empty {α : Type} {pre : List α} (h : ¬ pre.length = 0) : pre.isEmpty = false := by
  cases pre with
  | nil => exact absurd rfl h
  | cons p0 pre' => rfl
/-! ### names -/
def prm (rest : Bool) : List ByteArray → List ByteArray
  | [] => []
  | x :: l => dotted rest l.length x :: prm rest l
theorem prm_total (rest : Bool) (l : List ByteArray) : total (prm rest l) ≤ 3 * strs l := by
  unfold strs
  induction l with
  | nil => simp [prm, total]
  | cons x l ih =>
    rw [prm, total_cons]
    have h3 := dotted_size rest l.length x
    simp only [List.length_cons, List.map_cons, List.sum_cons]
    omega
/-- Names in parentheses. -/
def params (rest : Bool) (l : List ByteArray) : ByteArray := ((⟨#[40]⟩ : ByteArray) ++ joined (prm rest l)) ++ (⟨#[41]⟩ : ByteArray)
theorem params_size (rest : Bool) (l : List ByteArray) : (params rest l).size ≤ 2 + 3 * strs l := by
  have h1 := prm_total rest l
  have h2 := joined_size (prm rest l)
  unfold params
  rw [ByteArray.size_append, ByteArray.size_append]
  have e1 : (⟨#[40]⟩ : ByteArray).size = 1 := rfl
  have e2 : (⟨#[41]⟩ : ByteArray).size = 1 := rfl
  omega
theorem params_spec_loop (rest : Bool) (suf : List ByteArray) : ∀ (pre : List ByteArray) (o : ByteArray), o.size + total (prm rest suf) ≤ 67108864 → (pre ++ suf).length ≤ 1048576 →
    Ev (fun k => spec_l5Params.l0 k (pre ++ suf) rest o (pre.length : Int)) (cont pre.isEmpty o (prm rest suf) ++ (⟨#[41]⟩ : ByteArray)) := by
  induction suf with
  | nil =>
    intro pre o ho hn
    refine Ev.shift ?_
    simp only [prm, total] at ho
    simp only [spec_l5Params.l0, if_neg (mid_not_lt pre), prm, cont_nil, if_pos (show o.size + 1 ≤ 9223372036854775807 by omega)]
    exact Ev.now _
  | cons s suf ih =>
    intro pre o ho hn
    have hl := hn
    rw [List.length_append, List.length_cons] at hl
    have hnx := next_i pre suf s (by omega)
    have hnn : wrap64 ((pre.length : Int) + 1) = (pre.length : Int) + 1 := wrap64_eq (by omega) (by omega)
    have e1 : (⟨#[32]⟩ : ByteArray).size = 1 := rfl
    have e2 : (⟨#[46, 32]⟩ : ByteArray).size = 2 := rfl
    simp only [prm, total_cons] at ho
    have h0 := Int.natCast_nonneg pre.length
    have hd : dotted rest suf.length s = if rest = true then (if wrap64 ((pre.length : Int) + 1) = ((pre ++ s :: suf).length : Int) then (⟨#[46, 32]⟩ : ByteArray) ++ s else s) else s := by
      unfold dotted
      by_cases h4 : rest = true
      · rw [if_pos h4, hnn]
        by_cases hz : suf.length = 0
        · rw [if_pos ⟨h4, hz⟩, if_pos (by rw [List.length_append, List.length_cons]; omega)]
        · rw [if_neg (fun h => hz h.2), if_neg (by rw [List.length_append, List.length_cons]; omega)]
      · rw [if_neg h4, if_neg (fun h => h4 h.1)]
    have key : ∀ o', o'.size + total (prm rest suf) ≤ 67108864 → Ev (fun k => spec_l5Params.l0 k (pre ++ s :: suf) rest o' (wrap64 ((pre.length : Int) + 1))) ((prm rest suf).foldl glue o' ++ (⟨#[41]⟩ : ByteArray)) := by
      intro o' ho'
      have := ih (pre ++ [s]) o' ho' (by simpa using hn)
      rw [hnx]
      rw [mid_assoc pre suf s]
      rw [cont_tail] at this
      exact this
    refine Ev.shift ?_
    by_cases hz : pre.length = 0
    · obtain rfl : pre = [] := List.length_eq_zero_iff.mp hz
      simp only [prm, List.isEmpty_nil, cont]
      simp only [spec_l5Params.l0, if_pos (mid_lt [] suf s), if_neg (show ¬ ((([] : List ByteArray).length : Int) > 0) by simp), if_pos h0, rdOf_mid]
      rw [hd]
      by_cases h4 : rest = true
      · by_cases hle : wrap64 ((([] : List ByteArray).length : Int) + 1) = (([] ++ s :: suf : List ByteArray).length : Int)
        · rw [hd, if_pos h4, if_pos hle, ByteArray.size_append] at ho
          simp only [if_pos h4, if_pos hle, if_pos (show o.size + 2 ≤ 9223372036854775807 by omega), ByteArray.size_append, e2, if_pos (show o.size + 2 + s.size ≤ 9223372036854775807 by omega)]
          rw [← ByteArray.append_assoc]
          exact key _ (by simp only [ByteArray.size_append, e1, e2]; omega)
        · rw [hd, if_pos h4, if_neg hle] at ho
          simp only [if_pos h4, if_neg hle, if_pos (show o.size + s.size ≤ 9223372036854775807 by omega)]
          exact key _ (by simp only [ByteArray.size_append, e1, e2]; omega)
      · rw [hd, if_neg h4] at ho
        simp only [if_neg h4, if_pos (show o.size + s.size ≤ 9223372036854775807 by omega)]
        exact key _ (by simp only [ByteArray.size_append, e1, e2]; omega)
    · have hb := not_empty hz
      have hgt : (pre.length : Int) > 0 := by omega
      simp only [prm, hb, cont, List.foldl_cons]
      simp only [spec_l5Params.l0, if_pos (mid_lt pre suf s), if_pos hgt, if_pos h0, rdOf_mid, if_pos (show o.size + 1 ≤ 9223372036854775807 by omega)]
      rw [hd]
      by_cases h4 : rest = true
      · by_cases hle : wrap64 ((pre.length : Int) + 1) = ((pre ++ s :: suf : List ByteArray).length : Int)
        · rw [hd, if_pos h4, if_pos hle, ByteArray.size_append] at ho
          simp only [if_pos h4, if_pos hle, ByteArray.size_append, e1, e2, if_pos (show o.size + 1 + 2 ≤ 9223372036854775807 by omega), if_pos (show o.size + 1 + 2 + s.size ≤ 9223372036854775807 by omega)]
          unfold glue
          rw [← ByteArray.append_assoc]
          exact key _ (by simp only [ByteArray.size_append, e1, e2]; omega)
        · rw [hd, if_pos h4, if_neg hle] at ho
          simp only [if_pos h4, if_neg hle, ByteArray.size_append, e1, if_pos (show o.size + 1 + s.size ≤ 9223372036854775807 by omega)]
          exact key _ (by simp only [ByteArray.size_append, e1]; omega)
      · rw [hd, if_neg h4] at ho
        simp only [if_neg h4, ByteArray.size_append, e1, if_pos (show o.size + 1 + s.size ≤ 9223372036854775807 by omega)]
        exact key _ (by simp only [ByteArray.size_append, e1]; omega)
theorem params_spec (rest : Bool) (l : List ByteArray) (h : strs l ≤ 1048576) : Ev (fun k => spec_l5Params.f k l rest) (params rest l) := by
  have ht := prm_total rest l
  have hl : l.length ≤ 1048576 := by unfold strs at h; omega
  have e1 : (⟨#[40]⟩ : ByteArray).size = 1 := rfl
  simp only [spec_l5Params.f]
  have := params_spec_loop rest l [] (⟨#[40]⟩ : ByteArray) (by omega) hl
  rw [List.isEmpty_nil, cont_joined] at this
  exact this
theorem names_impl_loop (a : Int) (t : ByteArray) (rest : Bool) (ks : List S51) (ns : List ByteArray) (suf : List ByteArray) : ∀ (pre : List ByteArray) (o : ByteArray), ns = pre ++ suf → o.size + total (prm (a == 3 && rest) suf) ≤ 67108864 → (pre ++ suf).length ≤ 1048576 →
    Ev (fun k => impl_coreNames.l0 k o (pre ++ suf) ((pre ++ suf).length : Int) (pre.length : Int) a t rest ns ks) (cont pre.isEmpty o (prm (a == 3 && rest) suf) ++ (⟨#[41]⟩ : ByteArray)) := by
  induction suf with
  | nil =>
    intro pre o hns ho hn
    refine Ev.shift ?_
    simp only [prm, total] at ho
    simp only [impl_coreNames.l0, List.append_nil, if_neg (show ¬ (pre.length : Int) < (pre.length : Int) by omega), prm, cont_nil, if_pos (show o.size + 1 ≤ 9223372036854775807 by omega)]
    exact Ev.now _
  | cons s suf ih =>
    intro pre o hns ho hn
    have hl := hn
    rw [List.length_append, List.length_cons] at hl
    have hnx := next_i pre suf s (by omega)
    have e1 : (⟨#[32]⟩ : ByteArray).size = 1 := rfl
    have e2 : (⟨#[46, 32]⟩ : ByteArray).size = 2 := rfl
    simp only [prm, total_cons] at ho
    have h0 := Int.natCast_nonneg pre.length
    have hd : dotted (a == 3 && rest) suf.length s = if a = 3 then (if rest = true then (if (pre.length : Int) = wrap64 ((ns.length : Int) - 1) then (⟨#[46, 32]⟩ : ByteArray) ++ s else s) else s) else s := by
      unfold dotted
      by_cases h3 : a = 3
      · by_cases h4 : rest = true
        · rw [if_pos h3, if_pos h4, hns, List.length_append, List.length_cons, wrap64_eq (by omega) (by omega)]
          by_cases hz : suf.length = 0
          · rw [if_pos ⟨by simp [h3, h4], hz⟩, if_pos (by omega)]
          · rw [if_neg (fun h => hz h.2), if_neg (by omega)]
        · rw [if_pos h3, if_neg h4, if_neg (fun h => h4 (by simpa [h3] using h.1))]
      · rw [if_neg h3, if_neg (fun h => h3 (by have := h.1; simp at this; exact this.1))]
    have key : ∀ o', o'.size + total (prm (a == 3 && rest) suf) ≤ 67108864 → Ev (fun k => impl_coreNames.l0 k o' (pre ++ s :: suf) ((pre ++ s :: suf).length : Int) (wrap64 ((pre.length : Int) + 1)) a t rest ns ks) ((prm (a == 3 && rest) suf).foldl glue o' ++ (⟨#[41]⟩ : ByteArray)) := by
      intro o' ho'
      have := ih (pre ++ [s]) o' (by rw [hns]; simp) ho' (by simpa using hn)
      rw [hnx]
      rw [mid_assoc pre suf s]
      rw [cont_tail] at this
      exact this
    refine Ev.shift ?_
    by_cases hz : pre.length = 0
    · obtain rfl : pre = [] := List.length_eq_zero_iff.mp hz
      simp only [prm, List.isEmpty_nil, cont]
      simp only [impl_coreNames.l0, if_pos (mid_lt [] suf s), if_neg (show ¬ ((([] : List ByteArray).length : Int) > 0) by simp), if_pos h0, rdOf_mid]
      rw [hd]
      by_cases h3 : a = 3
      · by_cases h4 : rest = true
        · by_cases hle : (([] : List ByteArray).length : Int) = wrap64 ((ns.length : Int) - 1)
          · rw [hd, if_pos h3, if_pos h4, if_pos hle, ByteArray.size_append] at ho
            simp only [if_pos h3, if_pos h4, if_pos hle, if_pos (show o.size + 2 ≤ 9223372036854775807 by omega), ByteArray.size_append, e2, if_pos (show o.size + 2 + s.size ≤ 9223372036854775807 by omega)]
            rw [← ByteArray.append_assoc]
            exact key _ (by simp only [ByteArray.size_append, e1, e2]; omega)
          · rw [hd, if_pos h3, if_pos h4, if_neg hle] at ho
            simp only [if_pos h3, if_pos h4, if_neg hle, if_pos (show o.size + s.size ≤ 9223372036854775807 by omega)]
            exact key _ (by simp only [ByteArray.size_append, e1, e2]; omega)
        · rw [hd, if_pos h3, if_neg h4] at ho
          simp only [if_pos h3, if_neg h4, if_pos (show o.size + s.size ≤ 9223372036854775807 by omega)]
          exact key _ (by simp only [ByteArray.size_append, e1, e2]; omega)
      · rw [hd, if_neg h3] at ho
        simp only [if_neg h3, if_pos (show o.size + s.size ≤ 9223372036854775807 by omega)]
        exact key _ (by simp only [ByteArray.size_append, e1, e2]; omega)
    · have hb := not_empty hz
      have hgt : (pre.length : Int) > 0 := by omega
      simp only [prm, hb, cont, List.foldl_cons]
      simp only [impl_coreNames.l0, if_pos (mid_lt pre suf s), if_pos hgt, if_pos h0, rdOf_mid, if_pos (show o.size + 1 ≤ 9223372036854775807 by omega)]
      rw [hd]
      by_cases h3 : a = 3
      · by_cases h4 : rest = true
        · by_cases hle : (pre.length : Int) = wrap64 ((ns.length : Int) - 1)
          · rw [hd, if_pos h3, if_pos h4, if_pos hle, ByteArray.size_append] at ho
            simp only [if_pos h3, if_pos h4, if_pos hle, ByteArray.size_append, e1, e2, if_pos (show o.size + 1 + 2 ≤ 9223372036854775807 by omega), if_pos (show o.size + 1 + 2 + s.size ≤ 9223372036854775807 by omega)]
            unfold glue
            rw [← ByteArray.append_assoc]
            exact key _ (by simp only [ByteArray.size_append, e1, e2]; omega)
          · rw [hd, if_pos h3, if_pos h4, if_neg hle] at ho
            simp only [if_pos h3, if_pos h4, if_neg hle, ByteArray.size_append, e1, if_pos (show o.size + 1 + s.size ≤ 9223372036854775807 by omega)]
            exact key _ (by simp only [ByteArray.size_append, e1]; omega)
        · rw [hd, if_pos h3, if_neg h4] at ho
          simp only [if_pos h3, if_neg h4, ByteArray.size_append, e1, if_pos (show o.size + 1 + s.size ≤ 9223372036854775807 by omega)]
          exact key _ (by simp only [ByteArray.size_append, e1]; omega)
      · rw [hd, if_neg h3] at ho
        simp only [if_neg h3, ByteArray.size_append, e1, if_pos (show o.size + 1 + s.size ≤ 9223372036854775807 by omega)]
        exact key _ (by simp only [ByteArray.size_append, e1]; omega)
theorem names_impl (a : Int) (t : ByteArray) (rest : Bool) (l : List ByteArray) (ks : List S51) (h : strs l ≤ 1048576) : Ev (fun k => impl_coreNames.f k a t rest l ks) (params (a == 3 && rest) l) := by
  have ht := prm_total (a == 3 && rest) l
  have hl : l.length ≤ 1048576 := by unfold strs at h; omega
  have e1 : (⟨#[40]⟩ : ByteArray).size = 1 := rfl
  simp only [impl_coreNames.f]
  have := names_impl_loop a t rest ks l l [] (⟨#[40]⟩ : ByteArray) rfl (by omega) hl
  rw [List.isEmpty_nil, cont_joined] at this
  exact this
/-! ### parts -/
mutual
/-- How large, of the program's own. -/
def siz : S51 → Nat
  | ⟨_, t, _, ns, ks⟩ => t.size + strs ns + (ks.length + sizs ks)
def sizs : List S51 → Nat
  | [] => 0
  | x :: l => siz x + sizs l
end
theorem siz_mk (x : S51) : siz x = x.f1.size + strs x.f3 + (x.f4.length + sizs x.f4) := by cases x; rfl
theorem sizs_mem {l : List S51} {x : S51} (h : x ∈ l) : siz x ≤ sizs l := by
  induction l with
  | nil => cases h
  | cons y l ih =>
    simp only [sizs]
    rcases List.mem_cons.1 h with rfl | h
    · omega
    · have := ih h; omega
theorem big_mk (x : S47) : big x = x.f1.size + strs x.f3 + (x.f4.length + bigs x.f4) := by cases x; rfl
theorem sizs_conv (l : List S47) (h : ∀ x ∈ l, siz (conv x) = big x) : sizs (convs l) = bigs l := by
  induction l with
  | nil => rfl
  | cons x l ih => simp only [convs, sizs, bigs, h x (by simp), ih (fun y hy => h y (List.mem_cons_of_mem _ hy))]
theorem siz_conv : ∀ x : S47, siz (conv x) = big x := by
  refine ind47 (fun x ih => ?_)
  rw [conv_mk, siz_mk, big_mk, sizs_conv _ ih, convs_length]
/-- The words ahead of what a part holds. -/
def headOf (a : Int) (t : ByteArray) (rest : Bool) (ns : List ByteArray) : ByteArray :=
  if a = 3 then (⟨#[108, 97, 109, 98, 100, 97, 32]⟩ : ByteArray) ++ params rest ns
  else if a = 5 then (⟨#[105, 102]⟩ : ByteArray)
  else if a = 6 then (⟨#[115, 101, 116, 33, 32]⟩ : ByteArray) ++ t
  else if a = 7 then (⟨#[98, 101, 103, 105, 110]⟩ : ByteArray)
  else if a = 8 then (⟨#[114, 101, 99, 32]⟩ : ByteArray) ++ params false ns
  else if a = 9 then (⟨#[100, 101, 102, 105, 110, 101, 32]⟩ : ByteArray) ++ t
  else (⟨#[]⟩ : ByteArray)
theorem headOf_size (a : Int) (t : ByteArray) (rest : Bool) (ns : List ByteArray) : (headOf a t rest ns).size ≤ 9 + t.size + 3 * strs ns := by
  have h1 := params_size rest ns
  have h2 := params_size false ns
  have e3 : (⟨#[108, 97, 109, 98, 100, 97, 32]⟩ : ByteArray).size = 7 := rfl
  have e5 : (⟨#[105, 102]⟩ : ByteArray).size = 2 := rfl
  have e6 : (⟨#[115, 101, 116, 33, 32]⟩ : ByteArray).size = 5 := rfl
  have e7 : (⟨#[98, 101, 103, 105, 110]⟩ : ByteArray).size = 5 := rfl
  have e8 : (⟨#[114, 101, 99, 32]⟩ : ByteArray).size = 4 := rfl
  have e9 : (⟨#[100, 101, 102, 105, 110, 101, 32]⟩ : ByteArray).size = 7 := rfl
  have e0 : (⟨#[]⟩ : ByteArray).size = 0 := rfl
  unfold headOf
  repeat' split
  all_goals (try rw [ByteArray.size_append]); omega
mutual
/-- A part, shown. -/
def shw : S51 → ByteArray
  | ⟨a, t, r, ns, ks⟩ => if a = 1 ∨ a = 2 then t else if a = 4 then ((⟨#[40]⟩ : ByteArray) ++ joined (shws ks)) ++ (⟨#[41]⟩ : ByteArray) else (shws ks).foldl glue ((⟨#[40]⟩ : ByteArray) ++ headOf a t r ns) ++ (⟨#[41]⟩ : ByteArray)
def shws : List S51 → List ByteArray
  | [] => []
  | x :: l => shw x :: shws l
end
theorem shw_mk (x : S51) : shw x = if x.f0 = 1 ∨ x.f0 = 2 then x.f1 else if x.f0 = 4 then ((⟨#[40]⟩ : ByteArray) ++ joined (shws x.f4)) ++ (⟨#[41]⟩ : ByteArray) else (shws x.f4).foldl glue ((⟨#[40]⟩ : ByteArray) ++ headOf x.f0 x.f1 x.f2 x.f3) ++ (⟨#[41]⟩ : ByteArray) := by cases x; rfl
theorem shws_length (l : List S51) : (shws l).length = l.length := by
  induction l with
  | nil => rfl
  | cons x l ih => simp [shws, ih]
theorem shws_total (l : List S51) (h : ∀ x ∈ l, (shw x).size ≤ 12 + 14 * siz x) : total (shws l) ≤ 14 * (l.length + sizs l) := by
  induction l with
  | nil => simp [shws, total]
  | cons x l ih =>
    rw [shws, total_cons]
    have h1 := h x (by simp)
    have h2 := ih (fun y hy => h y (List.mem_cons_of_mem _ hy))
    simp only [sizs, List.length_cons]
    omega
theorem shw_size : ∀ x, (shw x).size ≤ 12 + 14 * siz x := by
  refine ind51 (fun x ih => ?_)
  rw [shw_mk, siz_mk]
  have h1 := shws_total x.f4 ih
  have h2 := joined_size (shws x.f4)
  have h3 := headOf_size x.f0 x.f1 x.f2 x.f3
  have e1 : (⟨#[40]⟩ : ByteArray).size = 1 := rfl
  have e2 : (⟨#[41]⟩ : ByteArray).size = 1 := rfl
  split
  · omega
  split
  · rw [ByteArray.size_append, ByteArray.size_append]
    omega
  · rw [ByteArray.size_append, glues_size, ByteArray.size_append]
    unfold total at h1
    omega
def ShowS (x : S51) : Prop := siz x ≤ 1048576 → Ev (fun k => spec_ExpCoreShow.f k x.f0 x.f1 x.f2 x.f3 x.f4) (shw x)
theorem show_spec_loop (a : Int) (t : ByteArray) (r : Bool) (ns : List ByteArray) (suf : List S51) (hP : ∀ y ∈ suf, ShowS y) : ∀ (pre : List S51) (o : ByteArray), o.size + total (shws suf) ≤ 67108864 → (∀ y ∈ suf, siz y ≤ 1048576) → (pre ++ suf).length ≤ 1048576 →
    Ev (fun k => spec_ExpCoreShow.l0 k o (pre.length : Int) a t r ns (pre ++ suf)) (cont (pre.isEmpty && (a == 4)) o (shws suf) ++ (⟨#[41]⟩ : ByteArray)) := by
  induction suf with
  | nil =>
    intro pre o ho hw hn
    refine Ev.shift ?_
    simp only [shws, total] at ho
    simp only [spec_ExpCoreShow.l0, if_neg (mid_not_lt pre), shws, cont_nil, if_pos (show o.size + 1 ≤ 9223372036854775807 by omega)]
    exact Ev.now _
  | cons s suf ih =>
    intro pre o ho hw hn
    have hsv := hP s (by simp) (hw s (by simp))
    have hws := hw s (by simp)
    have hsz := shw_size s
    have hl := hn
    rw [List.length_append, List.length_cons] at hl
    have hnx := next_i pre suf s (by omega)
    have e1 : (⟨#[32]⟩ : ByteArray).size = 1 := rfl
    simp only [shws, total_cons] at ho
    have h0 := Int.natCast_nonneg pre.length
    have key : ∀ o', o'.size + total (shws suf) ≤ 67108864 → Ev (fun k => spec_ExpCoreShow.l0 k o' (wrap64 ((pre.length : Int) + 1)) a t r ns (pre ++ s :: suf)) ((shws suf).foldl glue o' ++ (⟨#[41]⟩ : ByteArray)) := by
      intro o' ho'
      have := ih (fun y hy => hP y (List.mem_cons_of_mem _ hy)) (pre ++ [s]) o' ho' (fun y hy => hw y (List.mem_cons_of_mem _ hy)) (by simpa using hn)
      rw [hnx]
      rw [mid_assoc pre suf s]
      have hf : ((pre ++ [s]).isEmpty && (a == 4)) = false := by cases pre <;> rfl
      rw [hf] at this
      exact this
    refine Ev.shift ?_
    by_cases hz : pre.length = 0
    · obtain rfl : pre = [] := List.length_eq_zero_iff.mp hz
      by_cases h4 : a = 4
      · simp only [shws, List.isEmpty_nil, show (a == 4) = true from by simpa using h4, Bool.and_self, cont]
        simp only [spec_ExpCoreShow.l0, if_pos (mid_lt [] suf s), if_neg (show ¬ ((([] : List S51).length : Int) > 0) by simp), if_pos h0, rd51, if_pos h4]
        refine Ev.bind hsv ?_
        simp only [if_pos (show o.size + (shw s).size ≤ 9223372036854775807 by omega)]
        exact key _ (by simp only [ByteArray.size_append]; omega)
      · simp only [shws, List.isEmpty_nil, show (a == 4) = false from by simpa using h4, Bool.and_false, cont, List.foldl_cons]
        simp only [spec_ExpCoreShow.l0, if_pos (mid_lt [] suf s), if_neg (show ¬ ((([] : List S51).length : Int) > 0) by simp), if_pos h0, rd51, if_neg h4, if_pos (show o.size + 1 ≤ 9223372036854775807 by omega)]
        refine Ev.bind hsv ?_
        simp only [ByteArray.size_append, e1, if_pos (show o.size + 1 + (shw s).size ≤ 9223372036854775807 by omega)]
        exact key _ (by simp only [ByteArray.size_append, e1]; omega)
    · have hb := not_empty hz
      have hgt : (pre.length : Int) > 0 := by omega
      simp only [shws, hb, Bool.false_and, cont, List.foldl_cons]
      simp only [spec_ExpCoreShow.l0, if_pos (mid_lt pre suf s), if_pos hgt, if_pos h0, rd51, if_pos (show o.size + 1 ≤ 9223372036854775807 by omega)]
      refine Ev.bind hsv ?_
      simp only [ByteArray.size_append, e1, if_pos (show o.size + 1 + (shw s).size ≤ 9223372036854775807 by omega)]
      exact key _ (by simp only [ByteArray.size_append, e1]; omega)
theorem lit_append (a b : Array UInt8) (s : ByteArray) : (⟨a⟩ : ByteArray) ++ ((⟨b⟩ : ByteArray) ++ s) = (⟨a ++ b⟩ : ByteArray) ++ s := by
  rw [← ByteArray.append_assoc]
  congr 1
  refine bdata_inj ?_
  rw [ByteArray.data_append]
theorem show_spec : ∀ x, ShowS x := by
  refine ind51 (fun x ih hw => ?_)
  have hk := shw_mk x
  have hwx := siz_mk x
  have ht := shws_total x.f4 (fun y _ => shw_size y)
  have hh := headOf_size x.f0 x.f1 x.f2 x.f3
  have e1 : (⟨#[40]⟩ : ByteArray).size = 1 := rfl
  have e3 : (⟨#[32]⟩ : ByteArray).size = 1 := rfl
  refine Ev.shift ?_
  simp only [spec_ExpCoreShow.f]
  by_cases h1 : x.f0 = 1
  · rw [hk, if_pos (Or.inl h1)]
    simp only [if_pos h1]
    exact Ev.now _
  by_cases h2 : x.f0 = 2
  · rw [hk, if_pos (Or.inr h2)]
    simp only [if_neg h1, if_pos h2]
    exact Ev.now _
  simp only [if_neg h1, if_neg h2]
  rw [if_neg (by omega)] at hk
  have fin : ∀ o : ByteArray, o.size ≤ 33554432 → (x.f0 = 4 → o = (⟨#[40]⟩ : ByteArray)) → (¬ x.f0 = 4 → o = (⟨#[40]⟩ : ByteArray) ++ headOf x.f0 x.f1 x.f2 x.f3) → Ev (fun k => spec_ExpCoreShow.j0 k o x.f0 x.f1 x.f2 x.f3 x.f4) (shw x) := by
    intro o ho h4 h5
    refine Ev.shift ?_
    simp only [spec_ExpCoreShow.j0]
    have := show_spec_loop x.f0 x.f1 x.f2 x.f3 x.f4 ih [] o (by omega) (fun y hy => by have := sizs_mem hy; omega) (by simp; omega)
    rw [List.isEmpty_nil, Bool.true_and] at this
    rw [hk]
    by_cases h : x.f0 = 4
    · rw [if_pos h]
      rw [show (x.f0 == 4) = true from by simpa using h, cont_joined, h4 h] at this
      rw [h4 h]
      exact this
    · rw [if_neg h, ← h5 h]
      rw [show (x.f0 == 4) = false from by simpa using h] at this
      exact this
  have hst : strs x.f3 ≤ 1048576 := by omega
  by_cases h3 : x.f0 = 3
  · have hhd : headOf x.f0 x.f1 x.f2 x.f3 = (⟨#[108, 97, 109, 98, 100, 97, 32]⟩ : ByteArray) ++ params x.f2 x.f3 := by unfold headOf; rw [if_pos h3]
    have hp := params_size x.f2 x.f3
    have e8 : (⟨#[40, 108, 97, 109, 98, 100, 97, 32]⟩ : ByteArray).size = 8 := rfl
    simp only [spec_l5Head.f, if_neg (show ¬ x.f0 = 5 by omega), if_neg (show ¬ x.f0 = 6 by omega), if_neg (show ¬ x.f0 = 7 by omega), if_neg (show ¬ x.f0 = 9 by omega), Option.bind_some, if_pos (show 1 + (⟨#[]⟩ : ByteArray).size ≤ 9223372036854775807 by decide), if_pos h3]
    refine Ev.bind (params_spec x.f2 x.f3 hst) ?_
    simp only [if_pos (show 8 + (params x.f2 x.f3).size ≤ 9223372036854775807 by omega)]
    refine fin _ (by rw [ByteArray.size_append]; omega) (fun h => by omega) (fun _ => ?_)
    rw [hhd, lit_append]
    rfl
  by_cases h8 : x.f0 = 8
  · have hhd : headOf x.f0 x.f1 x.f2 x.f3 = (⟨#[114, 101, 99, 32]⟩ : ByteArray) ++ params false x.f3 := by
      unfold headOf
      rw [if_neg h3, if_neg (by omega), if_neg (by omega), if_neg (by omega), if_pos h8]
    have hp := params_size false x.f3
    have e8 : (⟨#[40, 114, 101, 99, 32]⟩ : ByteArray).size = 5 := rfl
    simp only [spec_l5Head.f, if_neg (show ¬ x.f0 = 5 by omega), if_neg (show ¬ x.f0 = 6 by omega), if_neg (show ¬ x.f0 = 7 by omega), if_neg (show ¬ x.f0 = 9 by omega), Option.bind_some, if_pos (show 1 + (⟨#[]⟩ : ByteArray).size ≤ 9223372036854775807 by decide), if_neg h3, if_pos h8]
    refine Ev.bind (params_spec false x.f3 hst) ?_
    simp only [if_pos (show 5 + (params false x.f3).size ≤ 9223372036854775807 by omega)]
    refine fin _ (by rw [ByteArray.size_append]; omega) (fun h => by omega) (fun _ => ?_)
    rw [hhd, lit_append]
    rfl
  by_cases h6 : x.f0 = 6
  · have hhd : headOf x.f0 x.f1 x.f2 x.f3 = (⟨#[115, 101, 116, 33, 32]⟩ : ByteArray) ++ x.f1 := by
      unfold headOf
      rw [if_neg h3, if_neg (by omega), if_pos h6]
    have e8 : (⟨#[115, 101, 116, 33]⟩ : ByteArray).size = 4 := rfl
    simp only [spec_l5Head.f, if_neg (show ¬ x.f0 = 5 by omega), if_pos h6, Option.bind_some, if_neg h3, if_neg h8, ByteArray.size_append, e1, e3, e8, if_pos (show 1 + 4 ≤ 9223372036854775807 by decide), if_pos (show 1 + 4 + 1 ≤ 9223372036854775807 by decide), if_pos (show 1 + 4 + 1 + x.f1.size ≤ 9223372036854775807 by omega)]
    refine fin _ (by simp only [ByteArray.size_append, e1, e3, e8]; omega) (fun h => by omega) (fun _ => ?_)
    rw [hhd, lit_append]
    rfl
  by_cases h9 : x.f0 = 9
  · have hhd : headOf x.f0 x.f1 x.f2 x.f3 = (⟨#[100, 101, 102, 105, 110, 101, 32]⟩ : ByteArray) ++ x.f1 := by
      unfold headOf
      rw [if_neg h3, if_neg (by omega), if_neg (by omega), if_neg (by omega), if_neg h8, if_pos h9]
    have e8 : (⟨#[100, 101, 102, 105, 110, 101]⟩ : ByteArray).size = 6 := rfl
    simp only [spec_l5Head.f, if_neg (show ¬ x.f0 = 5 by omega), if_neg h6, if_neg (show ¬ x.f0 = 7 by omega), if_pos h9, Option.bind_some, if_neg h3, if_neg h8, ByteArray.size_append, e1, e3, e8, if_pos (show 1 + 6 ≤ 9223372036854775807 by decide), if_pos (show 1 + 6 + 1 ≤ 9223372036854775807 by decide), if_pos (show 1 + 6 + 1 + x.f1.size ≤ 9223372036854775807 by omega)]
    refine fin _ (by simp only [ByteArray.size_append, e1, e3, e8]; omega) (fun h => by omega) (fun _ => ?_)
    rw [hhd, lit_append]
    rfl
  have hl : ∃ w : ByteArray, spec_l5Head.f x.f0 = some w ∧ w.size ≤ 5 ∧ (x.f0 = 4 → w = (⟨#[]⟩ : ByteArray)) ∧ headOf x.f0 x.f1 x.f2 x.f3 = w := by
    unfold headOf
    simp only [spec_l5Head.f, if_neg h3, if_neg h6, if_neg h8, if_neg h9]
    by_cases h5 : x.f0 = 5
    · exact ⟨_, by rw [if_pos h5], by decide, fun h => by omega, by rw [if_pos h5]⟩
    by_cases h7 : x.f0 = 7
    · exact ⟨_, by rw [if_neg h5, if_pos h7], by decide, fun h => by omega, by rw [if_neg h5, if_pos h7]⟩
    · exact ⟨_, by rw [if_neg h5, if_neg h7], by decide, fun _ => rfl, by rw [if_neg h5, if_neg h7]⟩
  obtain ⟨w, hw1, hw2, hw4, hw5⟩ := hl
  simp only [hw1, Option.bind_some, if_pos (show 1 + w.size ≤ 9223372036854775807 by omega), if_neg h3, if_neg h6, if_neg h8, if_neg h9]
  refine fin _ (by rw [ByteArray.size_append]; omega) (fun h => by rw [hw4 h, append_nil]) (fun _ => by rw [hw5])
def ShowI (x : S51) : Prop := siz x ≤ 1048576 → Ev (fun k => impl_ExpCoreShow.f k x.f0 x.f1 x.f2 x.f3 x.f4) (shw x)
theorem call_impl_loop (suf : List S51) (hP : ∀ y ∈ suf, ShowI y) : ∀ (pre : List S51) (o : List ByteArray), o.length + suf.length ≤ 1048576 → total (o ++ shws suf) ≤ 67108864 → (∀ y ∈ suf, siz y ≤ 1048576) → (pre ++ suf).length ≤ 1048576 →
    Ev (fun k => impl_ExpCoreShow.l0 k o (pre ++ suf) ((pre ++ suf).length : Int) (pre.length : Int)) (((⟨#[40]⟩ : ByteArray) ++ joined (o ++ shws suf)) ++ (⟨#[41]⟩ : ByteArray)) := by
  induction suf with
  | nil =>
    intro pre o ho ht hw hn
    refine Ev.shift ?_
    simp only [shws, List.append_nil] at ht ho ⊢
    have hj := joined_size o
    have e1 : (⟨#[40]⟩ : ByteArray).size = 1 := rfl
    have hlt : ¬ ((pre.length : Int) < (pre.length : Int)) := by omega
    simp only [impl_ExpCoreShow.l0, if_neg hlt, join_ok o (by omega) (by omega), Option.bind_some, ByteArray.size_append, e1, if_pos (show 1 + (joined o).size ≤ 9223372036854775807 by omega), if_pos (show 1 + (joined o).size + 1 ≤ 9223372036854775807 by omega)]
    exact Ev.now _
  | cons s suf ih =>
    intro pre o ho ht hw hn
    have hsv := hP s (by simp) (hw s (by simp))
    have hl := hn
    rw [List.length_append, List.length_cons] at hl
    have hnx := next_i pre suf s (by omega)
    simp only [List.length_cons] at ho
    refine Ev.shift ?_
    simp only [impl_ExpCoreShow.l0, if_pos (mid_lt pre suf s), if_pos (Int.natCast_nonneg pre.length), rd51, if_pos (show o.length < 8796093022208 by omega)]
    refine Ev.bind hsv ?_
    have hr : o ++ shws (s :: suf) = (o ++ [shw s]) ++ shws suf := by simp [shws]
    have := ih (fun y hy => hP y (List.mem_cons_of_mem _ hy)) (pre ++ [s]) (o ++ [shw s]) (by simp; omega) (by rw [← hr]; exact ht) (fun y hy => hw y (List.mem_cons_of_mem _ hy)) (by simpa using hn)
    rw [hnx, hr, mid_assoc pre suf s]
    exact this
theorem write_ok (a b : ByteArray) (h : a.size + b.size ≤ 67108864) : builder_Write.f a b = some (a ++ b) := by
  unfold builder_Write.f
  rw [if_pos (by omega)]
theorem part_impl_loop (suf : List S51) (hP : ∀ y ∈ suf, ShowI y) : ∀ (pre : List S51) (o : ByteArray), o.size + total (shws suf) ≤ 67108863 → (∀ y ∈ suf, siz y ≤ 1048576) → (pre ++ suf).length ≤ 1048576 →
    Ev (fun k => impl_ExpCoreShow.l1 k o (pre ++ suf) ((pre ++ suf).length : Int) (pre.length : Int)) ((shws suf).foldl glue o ++ (⟨#[41]⟩ : ByteArray)) := by
  induction suf with
  | nil =>
    intro pre o ho hw hn
    refine Ev.shift ?_
    simp only [shws, total] at ho
    simp only [shws, List.append_nil, List.foldl_nil]
    have hlt : ¬ ((pre.length : Int) < (pre.length : Int)) := by omega
    simp only [impl_ExpCoreShow.l1, if_neg hlt, builder_String.f, Option.bind_some, if_pos (show o.size + 1 ≤ 9223372036854775807 by omega)]
    exact Ev.now _
  | cons s suf ih =>
    intro pre o ho hw hn
    have hsv := hP s (by simp) (hw s (by simp))
    have hl := hn
    rw [List.length_append, List.length_cons] at hl
    have hnx := next_i pre suf s (by omega)
    have e1 : (⟨#[32]⟩ : ByteArray).size = 1 := rfl
    simp only [shws, total_cons] at ho
    refine Ev.shift ?_
    simp only [impl_ExpCoreShow.l1, if_pos (mid_lt pre suf s), if_pos (Int.natCast_nonneg pre.length), rd51]
    refine Ev.bind hsv ?_
    simp only [if_pos (show 1 + (shw s).size ≤ 9223372036854775807 by omega), write_ok o ((⟨#[32]⟩ : ByteArray) ++ shw s) (by rw [ByteArray.size_append]; omega), Option.bind_some, shws, List.foldl_cons]
    have hg : o ++ ((⟨#[32]⟩ : ByteArray) ++ shw s) = glue o (shw s) := by unfold glue; rw [ByteArray.append_assoc]
    have := ih (fun y hy => hP y (List.mem_cons_of_mem _ hy)) (pre ++ [s]) (glue o (shw s)) (by unfold glue; simp only [ByteArray.size_append, e1]; omega) (fun y hy => hw y (List.mem_cons_of_mem _ hy)) (by simpa using hn)
    rw [hnx, mid_assoc pre suf s, hg]
    exact this
theorem show_impl : ∀ x, ShowI x := by
  refine ind51 (fun x ih hw => ?_)
  have hk := shw_mk x
  have hwx := siz_mk x
  have ht := shws_total x.f4 (fun y _ => shw_size y)
  have hh := headOf_size x.f0 x.f1 x.f2 x.f3
  have e1 : (⟨#[40]⟩ : ByteArray).size = 1 := rfl
  refine Ev.shift ?_
  simp only [impl_ExpCoreShow.f]
  by_cases h1 : x.f0 = 1
  · rw [hk, if_pos (Or.inl h1)]
    simp only [if_pos h1, show (x.f0 == 1) = true from by simpa using h1]
    refine Ev.shift ?_
    simp only [impl_ExpCoreShow.j0, if_true]
    exact Ev.now _
  by_cases h2 : x.f0 = 2
  · rw [hk, if_pos (Or.inr h2)]
    simp only [if_neg h1, show (x.f0 == 2) = true from by simpa using h2]
    refine Ev.shift ?_
    simp only [impl_ExpCoreShow.j0, if_true]
    exact Ev.now _
  simp only [if_neg h1, show (x.f0 == 2) = false from by simpa using h2]
  rw [if_neg (by omega)] at hk
  refine Ev.shift ?_
  simp only [impl_ExpCoreShow.j0, Bool.false_eq_true, if_false]
  have hst : strs x.f3 ≤ 1048576 := by omega
  by_cases h4 : x.f0 = 4
  · simp only [if_neg (show ¬ x.f0 = 3 by omega), if_pos h4]
    rw [hk, if_pos h4]
    have hj := shws_length x.f4
    exact call_impl_loop x.f4 ih [] [] (by simp; omega) (by simp; omega) (fun y hy => by have := sizs_mem hy; omega) (by simp; omega)
  rw [if_neg h4] at hk
  have fin : ∀ o : ByteArray, o = headOf x.f0 x.f1 x.f2 x.f3 → Ev (fun k => impl_ExpCoreShow.j2 k o x.f0 x.f1 x.f2 x.f3 x.f4) (shw x) := by
    rintro o rfl
    refine Ev.shift ?_
    simp only [impl_ExpCoreShow.j2, if_pos (show 1 + (headOf x.f0 x.f1 x.f2 x.f3).size ≤ 9223372036854775807 by omega), write_ok (⟨#[]⟩ : ByteArray) ((⟨#[40]⟩ : ByteArray) ++ headOf x.f0 x.f1 x.f2 x.f3) (by rw [ByteArray.size_append, show (⟨#[]⟩ : ByteArray).size = 0 from rfl]; omega), Option.bind_some, nil_append]
    rw [hk]
    exact part_impl_loop x.f4 ih [] _ (by rw [ByteArray.size_append]; omega) (fun y hy => by have := sizs_mem hy; omega) (by simp; omega)
  simp only [if_neg h4]
  by_cases h3 : x.f0 = 3
  · have hp := params_size x.f2 x.f3
    simp only [if_pos h3]
    refine Ev.bind (names_impl x.f0 x.f1 x.f2 x.f3 x.f4 hst) ?_
    rw [show (x.f0 == 3) = true from by simpa using h3, Bool.true_and]
    simp only [if_pos (show 7 + (params x.f2 x.f3).size ≤ 9223372036854775807 by omega)]
    exact fin _ (by unfold headOf; rw [if_pos h3])
  simp only [if_neg h3]
  by_cases h5 : x.f0 = 5
  · simp only [if_pos h5]
    exact fin _ (by unfold headOf; rw [if_neg h3, if_pos h5])
  simp only [if_neg h5]
  by_cases h6 : x.f0 = 6
  · simp only [if_pos h6, if_pos (show 5 + x.f1.size ≤ 9223372036854775807 by omega)]
    exact fin _ (by unfold headOf; rw [if_neg h3, if_neg h5, if_pos h6])
  simp only [if_neg h6]
  by_cases h7 : x.f0 = 7
  · simp only [if_pos h7]
    exact fin _ (by unfold headOf; rw [if_neg h3, if_neg h5, if_neg h6, if_pos h7])
  simp only [if_neg h7]
  by_cases h8 : x.f0 = 8
  · have hp := params_size false x.f3
    simp only [if_pos h8]
    refine Ev.bind (names_impl x.f0 x.f1 x.f2 x.f3 x.f4 hst) ?_
    rw [show (x.f0 == 3) = false from by simpa using h3, Bool.false_and]
    simp only [if_pos (show 4 + (params false x.f3).size ≤ 9223372036854775807 by omega)]
    exact fin _ (by unfold headOf; rw [if_neg h3, if_neg h5, if_neg h6, if_neg h7, if_pos h8])
  simp only [if_neg h8]
  by_cases h9 : x.f0 = 9
  · simp only [if_pos h9, if_pos (show 7 + x.f1.size ≤ 9223372036854775807 by omega)]
    exact fin _ (by unfold headOf; rw [if_neg h3, if_neg h5, if_neg h6, if_neg h7, if_neg h8, if_pos h9])
  simp only [if_neg h9]
  exact fin _ (by unfold headOf; rw [if_neg h3, if_neg h5, if_neg h6, if_neg h7, if_neg h8, if_neg h9])

theorem FnExactExpCoreShow : laws_FnExactExpCoreShow.Pure := by
  intro x hx
  refine Ev.rounds ?_
  obtain ⟨r, hr, h⟩ := sizes_ok x hx 1048576 (by omega) (by omega)
  simp only [laws_FnExactExpCoreShow.f]
  refine Ev.bind hr ?_
  by_cases hneg : r < 0
  · simp only [if_pos hneg]
    exact Ev.now _
  have hbig : big x ≤ 1048576 := by omega
  have hsiz : siz (conv x) ≤ 1048576 := by rw [siz_conv]; exact hbig
  have hwid : wid (conv x) ≤ 1048576 := by have := wid_conv x; omega
  have hc := conv_ok x hbig
  have hm := conv_mk x
  have hss := show_spec (conv x) hsiz
  have hsi := show_impl (conv x) hsiz
  have he := eq_ok (conv x) hwid
  simp only [hm] at hss hsi he
  simp only [if_neg hneg]
  refine Ev.bind hc ?_
  refine Ev.bind hss ?_
  refine Ev.bind hc ?_
  refine Ev.bind hsi ?_
  simp only [if_true]
  refine Ev.bind hc ?_
  refine Ev.bind he ?_
  simp only [if_true]
  exact Ev.now _
end Go.Proofs.Ytmdhanegafclmaa.Pure
