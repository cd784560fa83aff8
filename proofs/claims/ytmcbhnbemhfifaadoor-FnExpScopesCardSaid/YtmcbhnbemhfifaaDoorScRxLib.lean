/- MADE BY PROGRAM (gen.py) -/
import Derived.Test.YtmcbhnbemhfifaaDoorScRxAS
import Derived.Test.YtmcbhnbemhfifaaDoorRxR
import Derived.Test.YtmcbhnbemhfifaaDoorScRxLibP
import Derived.Test.YtmcbhnbemhfifaaDoorShelf
namespace Go.Proofs.YtmcbhnbemhfifaaDoor.RX
open Go Go.RowKit
set_option autoImplicit false
def p2 (a b : Ty) : Pat := ⟨[(0, .one (.val a)), (1, .one (.val b))], []⟩
def p1 (a : Ty) : Pat := ⟨[(0, .one (.val a))], []⟩
theorem one_res {d0 : DV sg} {v : Value} {Z : Nat → Nat → Prop} {w : World} {pl : Nat → Value} {nx t : Nat} {d : DV sg} (h : DVOK Z w pl nx d0 v) (hg : get [(0, d0)] t = some d) : DVOK Z w pl nx d (compV 1 v t) := by
  rw [get_cons] at hg
  split at hg
  · injection hg with hg
    subst hg
    exact h
  · cases hg
def LTrim.ct : Ct sg := ⟨true, p2 .str .str, p1 .str, [.str, .str], [.str], fun h => LTrim h.1 h.2⟩
theorem LTrim.holds : LTrim.ct.Holds Tryd.prog 99 := by
  refine holds_of_calls (fn := Tryd.f99) (body := bodyOf Tryd.f99) (by kernel_rfl) (by kernel_rfl) (by kernel_rfl) rfl rfl rfl (by kernel_rfl) (fun _ => by kernel_rfl) ?_
  intro Z w args h r hF hargs hZ ⟨pl, hv⟩
  have e : args = #[.string h.1, .string h.2] := args2 hargs (str_val (hv 0 _ rfl)) (str_val (hv 1 _ rfl))
  subst e
  have hF : LTrim h.1 h.2 = some r := hF
  unfold LTrim at hF
  split at hF
  · rename_i h1
    split at hF
    · rename_i h2
      split at hF
      · rename_i h3
        injection hF with hF
        subst hF
        exact (Any.strings_Trim_laid Tryd.lays160 (by kernel_rfl) h.1 h.2 w h2 h3 (ascii_of_all h1)).mono fun e w' ⟨he, bel⟩ => ⟨_, he, fun pl t d hg => one_res (d0 := .sv (.one (.val .str ⟨(Go.Lib.trimS h.1.data.toList h.2.data.toList).toArray⟩))) (show LfOK _ _ _ _ _ _ from val_str _) hg, bel⟩
      · cases hF
    · cases hF
  · cases hF
def LIndexByte.ct : Ct sg := ⟨true, p2 .str (.int .u8), p1 (.int .i64), [.str, .int .u8], [.int .i64], fun h => some (LIndexByte h.1 h.2)⟩
theorem LIndexByte.holds : LIndexByte.ct.Holds Tryd.prog 97 := by
  refine holds_of_calls (fn := Tryd.f97) (body := bodyOf Tryd.f97) (by kernel_rfl) (by kernel_rfl) (by kernel_rfl) rfl rfl rfl (by kernel_rfl) (fun _ => by kernel_rfl) ?_
  intro Z w args h r hF hargs hZ ⟨pl, hv⟩
  have e : args = #[.string h.1, .int .u8 h.2] := args2 hargs (str_val (hv 0 _ rfl)) (int_val (hv 1 _ rfl))
  subst e
  injection hF with hF
  subst hF
  refine (Tryd.strings_IndexByte h.1 h.2 w).mono fun e w' ⟨he, hw⟩ => ⟨_, he, fun pl t d hg => one_res (d0 := .sv (.one (.val (.int .i64) (LIndexByte h.1 h.2)))) (show LfOK _ _ _ _ _ _ from val_int .i64 _) hg, ?_⟩
  subst hw
  exact Below.refl _ _
def LJoin.ct : Ct sg := ⟨true, p2 (.sl 9 .str) .str, p1 .str, [.sl 9 .str, .str], [.str], fun h => LJoin h.1 h.2⟩
theorem slice_of {Z : Nat → Nat → Prop} {w : World} {e : TypeId} {xs : List ByteArray} {v : Value} (h : RepC sg Z w (.sl e .str) xs [v]) : ∃ A c b o, v = .slice A xs.length c ∧ xs.length ≤ c ∧ (xs.length = 0 ∨ A = some ⟨b, o, none⟩) ∧ ∀ (j : Nat) y, xs[j]? = some y → Z b (o + j) ∧ w.cell? ⟨b, o + j, none⟩ = some (.string y) := by
  generalize hq : [v] = q at h
  cases h with
  | sl _ _ _ A c b o cs hc hA hl hz hr =>
    injection hq with hq _
    refine ⟨A, c, b, o, hq, hc, hA, fun j y hy => ?_⟩
    obtain ⟨hj, rfl⟩ := List.getElem?_eq_some_iff.1 hy
    have h1 := hr j hj
    have h2 : cs j = [.string xs[j]] := by
      generalize hcs : cs j = l at h1
      revert h1
      show RepC sg Z w .str (xs[j] : ByteArray) l → _
      intro h1
      cases h1
      rfl
    have := hz j 0 (.string xs[j]) hj (by rw [h2]; rfl)
    simpa [Sig.csz] using this
theorem join_calls (xs : List ByteArray) (sep : ByteArray) (w : World) (A : Option Addr) (c b o : Nat) (hc : xs.length ≤ c) (hA : xs.length = 0 ∨ A = some ⟨b, o, none⟩) (hcell : ∀ (j : Nat) y, xs[j]? = some y → b < w.heap.size ∧ w.cell? ⟨b, o + j, none⟩ = some (.string y))
    (h1 : xs.length ≤ 140737488355328) (h2 : (Go.Lib.join (xs.map (·.data.toList)) sep.data.toList).length ≤ 140737488355328) :
    Calls Tryd.prog 89 #[.slice A xs.length c, .string sep] w fun e w' => e = .returned (.string ⟨(Go.Lib.join (xs.map (·.data.toList)) sep.data.toList).toArray⟩) ∧ Below w.heap.size w w' := by
  cases xs with
  | nil => exact (Tryd.strings_Join_none A c sep w).mono fun e w' ⟨he, hw⟩ => ⟨he, hw ▸ Below.refl _ _⟩
  | cons y ys =>
    have hA := hA.resolve_left (by simp)
    subst hA
    exact Tryd.strings_Join b o c (y :: ys) sep w (fun j y hy => (hcell j y hy).2) (hcell 0 y rfl).1 h1 hc h2
theorem LJoin.holds : LJoin.ct.Holds Tryd.prog 89 := by
  refine holds_of_calls (fn := Tryd.f89) (body := bodyOf Tryd.f89) (by kernel_rfl) (by kernel_rfl) (by kernel_rfl) rfl rfl rfl (by kernel_rfl) (fun _ => by kernel_rfl) ?_
  intro Z w args h r hF hargs hZ ⟨pl, hv⟩
  have h0 : RepC sg Z w (.sl 9 .str) h.1 [args.getD 0 undef] := (hv 0 _ rfl).1
  obtain ⟨A, c, b, o, e0, hc, hA, hcell⟩ := slice_of h0
  have e : args = #[.slice A (show List ByteArray from h.1).length c, .string h.2] := args2 hargs e0 (str_val (hv 1 _ rfl))
  subst e
  have hF : LJoin h.1 h.2 = some r := hF
  unfold LJoin at hF
  split at hF
  · rename_i h1
    split at hF
    · rename_i h2
      injection hF with hF
      subst hF
      exact (join_calls h.1 h.2 w A c b o hc hA (fun j y hy => ⟨hZ _ _ (hcell j y hy).1, (hcell j y hy).2⟩) h1 h2).mono fun e w' ⟨he, bel⟩ => ⟨_, he, fun pl t d hg => one_res (d0 := .sv (.one (.val .str _))) (show LfOK _ _ _ _ _ _ from val_str _) hg, bel⟩
    · cases hF
  · cases hF

end Go.Proofs.YtmcbhnbemhfifaaDoor.RX
