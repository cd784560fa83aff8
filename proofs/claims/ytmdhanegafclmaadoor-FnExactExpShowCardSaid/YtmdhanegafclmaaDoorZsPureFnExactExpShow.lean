/- PureFnExactExpShow of the seat's texts, cut down by prune.py to what the theorem comes to. -/
import Derived.Test.YtmdhanegafclmaaDoorZsFokFnExactExpShow
namespace Go.Proofs.YtmdhanegafclmaaDoor.Pure
open Go.RowKit Go.Proofs.YtmdhanegafclmaaDoor.PFnExactExpShow Go.Proofs.YtmdhanegafclmaaDoorW.PrintWords Go.Proofs.YtmdhanegafclmaaDoorW.PrintLast Go.Proofs.YtmdhanegafclmaaDoorW.Pk
set_option linter.unusedVariables false
set_option linter.unusedSimpArgs false
def glue (o p : ByteArray) : ByteArray := (o ++ (⟨#[32]⟩ : ByteArray)) ++ p
theorem glue_left (a o p : ByteArray) : glue (a ++ o) p = a ++ glue o p := by
 unfold glue
 simp only [ByteArray.append_assoc]
theorem glues_left (a : ByteArray) (l : List ByteArray) : ∀ o, l.foldl glue (a ++ o) = a ++ l.foldl glue o := by
 induction l with
 | nil => intro o; rfl
 | cons x l ih => intro o; simp only [List.foldl_cons, glue_left]; exact ih _
def joined : List ByteArray → ByteArray
 | [] => ⟨#[]⟩
 | x :: l => l.foldl glue x
theorem joinTail_foldl (l : List ByteArray) : ∀ x : ByteArray, (l.foldl glue x).data.toList = x.data.toList ++ Lib.joinTail [32] (l.map (·.data.toList)) := by
 induction l with
 | nil => intro x; simp [Lib.joinTail]
 | cons y l ih =>
  intro x
  simp only [List.foldl_cons, ih, glue, ByteArray.data_append, Array.toList_append, List.map_cons, Lib.joinTail, List.flatten_cons, List.append_assoc]
theorem join_joined (l : List ByteArray) : Lib.join (l.map (·.data.toList)) [32] = (joined l).data.toList := by
 cases l with
 | nil => rfl
 | cons x l => rw [List.map_cons, Lib.join_cons]; exact (joinTail_foldl l x).symm
theorem data_len (s : ByteArray) : s.data.toList.length = s.size := by rw [Array.length_toList]; rfl
theorem join_ok (l : List ByteArray) (h1 : l.length ≤ 140737488355328) (h2 : (joined l).size ≤ 140737488355328) : strings_Join.f l (⟨#[32]⟩ : ByteArray) = some (joined l) := by
 unfold strings_Join.f
 rw [if_pos h1, show (⟨#[32]⟩ : ByteArray).data.toList = [32] from rfl, join_joined, if_pos (by rw [data_len]; exact h2)]
def dotted (dots : Bool) (n : Nat) (s : ByteArray) : ByteArray := if dots = true ∧ n = 0 then (⟨#[46, 32]⟩ : ByteArray) ++ s else s
mutual
def shw : S35 → ByteArray
 | ⟨a, t, _, _, ks⟩ => if a = 1 ∨ a = 2 then t else ((⟨#[40]⟩ : ByteArray) ++ joined (shws (a == 4) ks)) ++ (⟨#[41]⟩ : ByteArray)
def shws (dots : Bool) : List S35 → List ByteArray
 | [] => []
 | x :: l => dotted dots l.length (shw x) :: shws dots l
end
theorem shw_mk (x : S35) : shw x = if x.f0 = 1 ∨ x.f0 = 2 then x.f1 else ((⟨#[40]⟩ : ByteArray) ++ joined (shws (x.f0 == 4) x.f4)) ++ (⟨#[41]⟩ : ByteArray) := by cases x; rfl
theorem glues_size (l : List ByteArray) : ∀ x : ByteArray, (l.foldl glue x).size = x.size + (l.map (fun y => y.size + 1)).sum := by
 induction l with
 | nil => intro x; simp
 | cons y l ih =>
  intro x
  simp only [List.foldl_cons, ih, glue, ByteArray.size_append, List.map_cons, List.sum_cons]
  have : (⟨#[32]⟩ : ByteArray).size = 1 := rfl
  omega
def total (l : List ByteArray) : Nat := (l.map (fun y => y.size + 1)).sum
theorem total_cons (x : ByteArray) (l : List ByteArray) : total (x :: l) = x.size + 1 + total l := by simp [total]
theorem joined_size (l : List ByteArray) : (joined l).size ≤ total l := by
 cases l with
 | nil => exact Nat.le_refl _
 | cons x l => rw [total_cons]; unfold joined; rw [glues_size]; unfold total; omega
theorem dotted_size (d : Bool) (n : Nat) (s : ByteArray) : (dotted d n s).size ≤ s.size + 2 := by
 unfold dotted
 split
 ·rw [ByteArray.size_append]
  have : (⟨#[46, 32]⟩ : ByteArray).size = 2 := rfl
  omega
 ·omega
theorem shws_total (d : Bool) (l : List S35) (h : ∀ x ∈ l, (shw x).size ≤ 2 + 5 * wid x) : total (shws d l) ≤ 5 * (l.length + wids l) := by
 induction l with
 | nil => simp [shws, total]
 | cons x l ih =>
  rw [shws, total_cons]
  have h1 := h x (by simp)
  have h2 := ih (fun y hy => h y (List.mem_cons_of_mem _ hy))
  have h3 := dotted_size d l.length (shw x)
  simp only [wids, List.length_cons]
  omega
theorem shw_size : ∀ x, (shw x).size ≤ 2 + 5 * wid x := by
 refine ind35 (fun x ih => ?_)
 rw [shw_mk, wid_mk]
 split
 ·omega
 ·have h1 := shws_total (x.f0 == 4) x.f4 ih
  have h2 := joined_size (shws (x.f0 == 4) x.f4)
  rw [ByteArray.size_append, ByteArray.size_append]
  have e1 : (⟨#[40]⟩ : ByteArray).size = 1 := rfl
  have e2 : (⟨#[41]⟩ : ByteArray).size = 1 := rfl
  omega
def cont : Bool → ByteArray → List ByteArray → ByteArray
 | true, o, [] => o
 | true, o, x :: l => l.foldl glue (o ++ x)
 | false, o, l => l.foldl glue o
theorem cont_nil (b : Bool) (o : ByteArray) : cont b o [] = o := by cases b <;> rfl
theorem cont_joined (o : ByteArray) (l : List ByteArray) : cont true o l = o ++ joined l := by
 cases l with
 | nil =>
  refine toList_inj ?_
  rw [toList_data, toList_data, ByteArray.data_append]
  simp [cont, joined]
 | cons x l => exact glues_left o l x
theorem cont_tail (pre : List S35) (s : S35) (o : ByteArray) (l : List ByteArray) : cont (pre ++ [s]).isEmpty o l = l.foldl glue o := by
 cases pre <;> rfl
def ShowS (x : S35) : Prop := wid x ≤ 1048576 → Ev (fun k => spec_l1Show.f k x.f0 x.f1 x.f2 x.f3 x.f4) (shw x)
theorem show_spec_loop (a : Int) (t : ByteArray) (sc : List Int) (d : Int) (suf : List S35) (hP : ∀ y ∈ suf, ShowS y) : ∀ (pre : List S35) (o : ByteArray), o.size + total (shws (a == 4) suf) ≤ 67108864 → (∀ y ∈ suf, wid y ≤ 1048576) → (pre ++ suf).length ≤ 1048576 →
  Ev (fun k => spec_l1Show.l0 k o (pre.length : Int) a t sc d (pre ++ suf)) (cont pre.isEmpty o (shws (a == 4) suf) ++ (⟨#[41]⟩ : ByteArray)) := by
 induction suf with
 | nil =>
  intro pre o ho hw hn
  refine Ev.shift ?_
  simp only [shws, total] at ho
  simp only [spec_l1Show.l0, if_neg (mid_not_lt pre), shws, cont_nil, if_pos (show o.size + 1 ≤ 9223372036854775807 by omega)]
  exact Ev.now _
 | cons s suf ih =>
  intro pre o ho hw hn
  have hsv := hP s (by simp) (hw s (by simp))
  have hws := hw s (by simp)
  have hsz := shw_size s
  have hl := hn
  rw [List.length_append, List.length_cons] at hl
  have hnx := next_i pre suf s (by omega)
  have hnn : wrap64 ((pre.length : Int) + 1) = (pre.length : Int) + 1 := wrap64_eq (by omega) (by omega)
  have e1 : (⟨#[32]⟩ : ByteArray).size = 1 := rfl
  have e2 : (⟨#[46, 32]⟩ : ByteArray).size = 2 := rfl
  simp only [shws, total_cons] at ho
  have hds := dotted_size (a == 4) suf.length (shw s)
  have h0 := Int.natCast_nonneg pre.length
  have hd : dotted (a == 4) suf.length (shw s) = if a = 4 then (if wrap64 ((pre.length : Int) + 1) = ((pre ++ s :: suf).length : Int) then (⟨#[46, 32]⟩ : ByteArray) ++ shw s else shw s) else shw s := by
   unfold dotted
   by_cases h4 : a = 4
   ·rw [if_pos h4, hnn]
    by_cases hz : suf.length = 0
    ·rw [if_pos ⟨by simpa using h4, hz⟩, if_pos (by rw [List.length_append, List.length_cons]; omega)]
    ·rw [if_neg (fun h => hz h.2), if_neg (by rw [List.length_append, List.length_cons]; omega)]
   ·rw [if_neg h4, if_neg (fun h => h4 (by simpa using h.1))]
  have key : ∀ o', o'.size + total (shws (a == 4) suf) ≤ 67108864 → Ev (fun k => spec_l1Show.l0 k o' (wrap64 ((pre.length : Int) + 1)) a t sc d (pre ++ s :: suf)) ((shws (a == 4) suf).foldl glue o' ++ (⟨#[41]⟩ : ByteArray)) := by
   intro o' ho'
   have := ih (fun y hy => hP y (List.mem_cons_of_mem _ hy)) (pre ++ [s]) o' ho' (fun y hy => hw y (List.mem_cons_of_mem _ hy)) (by simpa using hn)
   rw [hnx]
   rw [mid_assoc pre suf s]
   rw [cont_tail] at this
   exact this
  refine Ev.shift ?_
  by_cases hz : pre.length = 0
  ·obtain rfl : pre = [] := List.length_eq_zero_iff.mp hz
   simp only [shws, List.isEmpty_nil, cont]
   simp only [spec_l1Show.l0, if_pos (mid_lt [] suf s), if_neg (show ¬ ((([] : List S35).length : Int) > 0) by simp), if_pos h0, rd35]
   rw [hd]
   by_cases h4 : a = 4
   ·by_cases hle : wrap64 ((([] : List S35).length : Int) + 1) = (([] ++ s :: suf : List S35).length : Int)
    ·simp only [if_pos h4, if_pos hle, if_pos (show o.size + 2 ≤ 9223372036854775807 by omega)]
     refine Ev.bind hsv ?_
     rw [hd, if_pos h4, if_pos hle, ByteArray.size_append] at ho
     simp only [ByteArray.size_append, e2, if_pos (show o.size + 2 + (shw s).size ≤ 9223372036854775807 by omega)]
     rw [← ByteArray.append_assoc]
     exact key _ (by simp only [ByteArray.size_append, e1, e2]; omega)
    ·simp only [if_pos h4, if_neg hle]
     refine Ev.bind hsv ?_
     rw [hd, if_pos h4, if_neg hle] at ho
     simp only [if_pos (show o.size + (shw s).size ≤ 9223372036854775807 by omega)]
     exact key _ (by simp only [ByteArray.size_append, e1, e2]; omega)
   ·simp only [if_neg h4]
    refine Ev.bind hsv ?_
    rw [hd, if_neg h4] at ho
    simp only [if_pos (show o.size + (shw s).size ≤ 9223372036854775807 by omega)]
    exact key _ (by simp only [ByteArray.size_append, e1, e2]; omega)
  ·have hb : pre.isEmpty = false := by
    cases pre with
    | nil => exact absurd rfl hz
    | cons p0 pre' => rfl
   have hgt : (pre.length : Int) > 0 := by omega
   simp only [shws, hb, cont, List.foldl_cons]
   simp only [spec_l1Show.l0, if_pos (mid_lt pre suf s), if_pos hgt, if_pos h0, rd35, if_pos (show o.size + 1 ≤ 9223372036854775807 by omega)]
   rw [hd]
   by_cases h4 : a = 4
   ·by_cases hle : wrap64 ((pre.length : Int) + 1) = ((pre ++ s :: suf : List S35).length : Int)
    ·simp only [if_pos h4, if_pos hle, ByteArray.size_append, e1, if_pos (show o.size + 1 + 2 ≤ 9223372036854775807 by omega)]
     refine Ev.bind hsv ?_
     rw [hd, if_pos h4, if_pos hle, ByteArray.size_append] at ho
     simp only [e2, if_pos (show o.size + 1 + 2 + (shw s).size ≤ 9223372036854775807 by omega)]
     unfold glue
     rw [← ByteArray.append_assoc]
     exact key _ (by simp only [ByteArray.size_append, e1, e2]; omega)
    ·simp only [if_pos h4, if_neg hle]
     refine Ev.bind hsv ?_
     rw [hd, if_pos h4, if_neg hle] at ho
     simp only [ByteArray.size_append, e1, if_pos (show o.size + 1 + (shw s).size ≤ 9223372036854775807 by omega)]
     exact key _ (by simp only [ByteArray.size_append, e1]; omega)
   ·simp only [if_neg h4]
    refine Ev.bind hsv ?_
    rw [hd, if_neg h4] at ho
    simp only [ByteArray.size_append, e1, if_pos (show o.size + 1 + (shw s).size ≤ 9223372036854775807 by omega)]
    exact key _ (by simp only [ByteArray.size_append, e1]; omega)
theorem show_spec : ∀ x, ShowS x := by
 refine ind35 (fun x ih hw => ?_)
 have hk : shw x = _ := shw_mk x
 have hwx := wid_mk x
 refine Ev.shift ?_
 simp only [spec_l1Show.f]
 by_cases h1 : x.f0 = 1
 ·rw [hk]
  simp only [if_pos h1, if_pos (Or.inl h1)]
  exact Ev.now _
 by_cases h2 : x.f0 = 2
 ·rw [hk]
  simp only [if_neg h1, if_pos h2, if_pos (Or.inr h2)]
  exact Ev.now _
 simp only [if_neg h1, if_neg h2]
 rw [hk, if_neg (by omega)]
 have ht := shws_total (x.f0 == 4) x.f4 (fun y _ => shw_size y)
 have e1 : (⟨#[40]⟩ : ByteArray).size = 1 := rfl
 have := show_spec_loop x.f0 x.f1 x.f2 x.f3 x.f4 ih [] (⟨#[40]⟩ : ByteArray) (by omega) (fun y hy => by have := wids_mem hy; omega) (by simp; omega)
 rw [List.isEmpty_nil, cont_joined] at this
 exact this
def ShowI (x : S35) : Prop := wid x ≤ 1048576 → Ev (fun k => impl_expShow.f k x.f0 x.f1 x.f2 x.f3 x.f4) (shw x)
theorem show_impl_loop (a : Int) (t : ByteArray) (sc : List Int) (d : Int) (ks : List S35) (suf : List S35) (hP : ∀ y ∈ suf, ShowI y) : ∀ (pre : List S35) (o : List ByteArray), ks = pre ++ suf → o.length + suf.length ≤ 1048576 → total (o ++ shws (a == 4) suf) ≤ 67108864 → (∀ y ∈ suf, wid y ≤ 1048576) → ks.length ≤ 1048576 →
  Ev (fun k => impl_expShow.l0 k o (pre ++ suf) ((pre ++ suf).length : Int) (pre.length : Int) a t sc d ks) (((⟨#[40]⟩ : ByteArray) ++ joined (o ++ shws (a == 4) suf)) ++ (⟨#[41]⟩ : ByteArray)) := by
 induction suf with
 | nil =>
  intro pre o hks ho ht hw hn
  refine Ev.shift ?_
  simp only [shws, List.append_nil] at ht ho ⊢
  have hj := joined_size o
  have e1 : (⟨#[40]⟩ : ByteArray).size = 1 := rfl
  have hlt : ¬ ((pre.length : Int) < (pre.length : Int)) := by omega
  simp only [impl_expShow.l0, if_neg hlt, join_ok o (by omega) (by omega), Option.bind_some, ByteArray.size_append, e1, if_pos (show 1 + (joined o).size ≤ 9223372036854775807 by omega), if_pos (show 1 + (joined o).size + 1 ≤ 9223372036854775807 by omega)]
  exact Ev.now _
 | cons s suf ih =>
  intro pre o hks ho ht hw hn
  have hsv := hP s (by simp) (hw s (by simp))
  have hws := hw s (by simp)
  have hsz := shw_size s
  have hl : (pre ++ s :: suf).length ≤ 1048576 := hks ▸ hn
  rw [List.length_append, List.length_cons] at hl
  have hnx := next_i pre suf s (by simp; omega)
  simp only [shws, List.length_cons] at ht ho
  have hd : dotted (a == 4) suf.length (shw s) = if a = 4 then (if (pre.length : Int) = wrap64 ((ks.length : Int) - 1) then (⟨#[46, 32]⟩ : ByteArray) ++ shw s else shw s) else shw s := by
   unfold dotted
   by_cases h4 : a = 4
   ·rw [if_pos h4, hks, List.length_append, List.length_cons, wrap64_eq (by omega) (by omega)]
    by_cases hz : suf.length = 0
    ·rw [if_pos ⟨by simpa using h4, hz⟩, if_pos (by omega)]
    ·rw [if_neg (fun h => hz h.2), if_neg (by omega)]
   ·rw [if_neg h4, if_neg (fun h => h4 (by simpa using h.1))]
  have key : ∀ p, p = dotted (a == 4) suf.length (shw s) → Ev (fun k => impl_expShow.l0 k (o ++ [p]) (pre ++ s :: suf) ((pre ++ s :: suf).length : Int) (wrap64 ((pre.length : Int) + 1)) a t sc d ks) (((⟨#[40]⟩ : ByteArray) ++ joined (o ++ shws (a == 4) (s :: suf))) ++ (⟨#[41]⟩ : ByteArray)) := by
   rintro p rfl
   have hr : o ++ shws (a == 4) (s :: suf) = (o ++ [dotted (a == 4) suf.length (shw s)]) ++ shws (a == 4) suf := by simp [shws]
   have := ih (fun y hy => hP y (List.mem_cons_of_mem _ hy)) (pre ++ [s]) (o ++ [dotted (a == 4) suf.length (shw s)]) (by rw [hks]; simp) (by simp; omega) (by rw [← hr]; exact ht) (fun y hy => hw y (List.mem_cons_of_mem _ hy)) hn
   rw [hnx, hr, mid_assoc pre suf s]
   exact this
  refine Ev.shift ?_
  simp only [impl_expShow.l0, if_pos (mid_lt pre suf s), if_pos (Int.natCast_nonneg pre.length), rd35, if_pos (show o.length < 8796093022208 by omega)]
  refine Ev.bind hsv ?_
  by_cases h4 : a = 4
  ·by_cases hle : (pre.length : Int) = wrap64 ((ks.length : Int) - 1)
   ·simp only [if_pos h4, if_pos hle, if_pos (show 2 + (shw s).size ≤ 9223372036854775807 by omega)]
    exact key _ (by rw [hd, if_pos h4, if_pos hle])
   ·simp only [if_pos h4, if_neg hle]
    exact key _ (by rw [hd, if_pos h4, if_neg hle])
  ·simp only [if_neg h4]
   exact key _ (by rw [hd, if_neg h4])
theorem show_impl : ∀ x, ShowI x := by
 refine ind35 (fun x ih hw => ?_)
 have hk : shw x = _ := shw_mk x
 have hwx := wid_mk x
 refine Ev.shift ?_
 simp only [impl_expShow.f]
 by_cases h1 : x.f0 = 1
 ·rw [hk]
  simp only [if_pos h1, if_pos (Or.inl h1)]
  refine Ev.shift ?_
  simp only [impl_expShow.j0, if_true]
  exact Ev.now _
 by_cases h2 : x.f0 = 2
 ·rw [hk]
  simp only [if_neg h1, show (x.f0 == 2) = true from by simpa using h2, if_pos (Or.inr h2)]
  refine Ev.shift ?_
  simp only [impl_expShow.j0, if_true]
  exact Ev.now _
 simp only [if_neg h1, show (x.f0 == 2) = false from by simpa using h2]
 rw [hk, if_neg (by omega)]
 have ht := shws_total (x.f0 == 4) x.f4 (fun y _ => shw_size y)
 refine Ev.shift ?_
 simp only [impl_expShow.j0, Bool.false_eq_true, if_false]
 exact show_impl_loop x.f0 x.f1 x.f2 x.f3 x.f4 x.f4 ih [] [] rfl (by simp; omega) (by simp; omega) (fun y hy => by have := wids_mem hy; omega) (by omega)
theorem FnExactExpShow : laws_FnExactExpShow.Pure := by
 intro x hx
 refine Ev.rounds ?_
 obtain ⟨r, hr, h⟩ := sizes_ok x hx 1048576 (by omega) (by omega)
 simp only [laws_FnExactExpShow.f]
 refine Ev.bind hr ?_
 by_cases hneg : r < 0
 ·simp only [if_pos hneg]
  exact Ev.now _
 have hbig : big x ≤ 1048576 := by omega
 have hwid : wid (conv x) ≤ 1048576 := by rw [wid_conv]; exact hbig
 have hc := conv_ok x hbig
 have hm := conv_mk x
 have hs := spec_form_ok (conv x) hwid
 have hi := impl_form_ok (conv x) hwid
 have hss := show_spec (conv x) hwid
 have hsi := show_impl (conv x) hwid
 have he := eq_ok (conv x) hwid
 simp only [hm] at hs hi hss hsi he
 simp only [if_neg hneg]
 refine Ev.bind hc ?_
 have hspec : Ev (fun k => spec_ExpShow.f k x.f0 x.f1 x.f2 x.f3 (convs x.f4)) (if okb (conv x) = true then shw (conv x) else (⟨#[]⟩ : ByteArray)) := by
  simp only [spec_ExpShow.f, hm]
  refine Ev.bind hs ?_
  by_cases ho : okb ⟨x.f0, x.f1, x.f2, x.f3, convs x.f4⟩ = true
  ·simp only [if_pos ho]
   refine Ev.bind hss ?_
   exact Ev.now _
  ·simp only [if_neg ho]
   exact Ev.now _
 have himpl : Ev (fun k => impl_ExpShow.f k x.f0 x.f1 x.f2 x.f3 (convs x.f4)) (if okb (conv x) = true then shw (conv x) else (⟨#[]⟩ : ByteArray)) := by
  simp only [impl_ExpShow.f, hm]
  refine Ev.bind hi ?_
  by_cases ho : okb ⟨x.f0, x.f1, x.f2, x.f3, convs x.f4⟩ = true
  ·simp only [if_pos ho]
   refine Ev.bind hsi ?_
   exact Ev.now _
  ·simp only [if_neg ho]
   exact Ev.now _
 refine Ev.bind hspec ?_
 refine Ev.bind hc ?_
 refine Ev.bind himpl ?_
 simp only [if_true]
 refine Ev.bind hc ?_
 refine Ev.bind he ?_
 simp only [if_true]
 exact Ev.now _
end Go.Proofs.YtmdhanegafclmaaDoor.Pure
