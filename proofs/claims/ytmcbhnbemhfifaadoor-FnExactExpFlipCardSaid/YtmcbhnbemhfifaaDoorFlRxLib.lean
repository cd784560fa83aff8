/- MADE BY PROGRAM (gen.py) -/
import Derived.Test.YtmcbhnbemhfifaaDoorFlRxAS
import Derived.Test.YtmcbhnbemhfifaaDoorRxR
import Derived.Test.YtmcbhnbemhfifaaDoorFlRxLibP
import Derived.Test.YtmcbhnbemhfifaaDoorShelf
namespace Go.Proofs.YtmcbhnbemhfifaaDoor.RX
open Go Go.RowKit
set_option autoImplicit false
def p2 (a b : Ty) : Pat := ⟨[(0, .one (.val a)), (1, .one (.val b))], []⟩
def p1 (a : Ty) : Pat := ⟨[(0, .one (.val a))], []⟩
theorem one_res {d0 : DV sg} {v : Value} {Z : Nat → Nat → Prop} {w : World} {pl : Nat → Value} {nx t : Nat} {d : DV sg} (h : DVOK Z w pl nx d0 v) (hg : get [(0, d0)] t = some d) : DVOK Z w pl nx d (compV 1 v t) := by
  rw [get_cons] at hg
  split at hg
  · injection hg with hg
    subst hg
    exact h
  · cases hg
def LTrim.ct : Ct sg := ⟨true, p2 .str .str, p1 .str, [.str, .str], [.str], fun h => LTrim h.1 h.2⟩
theorem LTrim.holds : LTrim.ct.Holds Tryd.prog 99 := by
  refine holds_of_calls (fn := Tryd.f99) (body := bodyOf Tryd.f99) (by kernel_rfl) (by kernel_rfl) (by kernel_rfl) rfl rfl rfl (by kernel_rfl) (fun _ => by kernel_rfl) ?_
  intro Z w args h r hF hargs hZ ⟨pl, hv⟩
  have e : args = #[.string h.1, .string h.2] := args2 hargs (str_val (hv 0 _ rfl)) (str_val (hv 1 _ rfl))
  subst e
  have hF : LTrim h.1 h.2 = some r := hF
  unfold LTrim at hF
  split at hF
  · rename_i h1
    split at hF
    · rename_i h2
      split at hF
      · rename_i h3
        injection hF with hF
        subst hF
        exact (Any.strings_Trim_laid Tryd.lays160 (by kernel_rfl) h.1 h.2 w h2 h3 (ascii_of_all h1)).mono fun e w' ⟨he, bel⟩ => ⟨_, he, fun pl t d hg => one_res (d0 := .sv (.one (.val .str ⟨(Go.Lib.trimS h.1.data.toList h.2.data.toList).toArray⟩))) (show LfOK _ _ _ _ _ _ from val_str _) hg, bel⟩
      · cases hF
    · cases hF
  · cases hF
def LIndexByte.ct : Ct sg := ⟨true, p2 .str (.int .u8), p1 (.int .i64), [.str, .int .u8], [.int .i64], fun h => some (LIndexByte h.1 h.2)⟩
theorem LIndexByte.holds : LIndexByte.ct.Holds Tryd.prog 97 := by
  refine holds_of_calls (fn := Tryd.f97) (body := bodyOf Tryd.f97) (by kernel_rfl) (by kernel_rfl) (by kernel_rfl) rfl rfl rfl (by kernel_rfl) (fun _ => by kernel_rfl) ?_
  intro Z w args h r hF hargs hZ ⟨pl, hv⟩
  have e : args = #[.string h.1, .int .u8 h.2] := args2 hargs (str_val (hv 0 _ rfl)) (int_val (hv 1 _ rfl))
  subst e
  injection hF with hF
  subst hF
  refine (Tryd.strings_IndexByte h.1 h.2 w).mono fun e w' ⟨he, hw⟩ => ⟨_, he, fun pl t d hg => one_res (d0 := .sv (.one (.val (.int .i64) (LIndexByte h.1 h.2)))) (show LfOK _ _ _ _ _ _ from val_int .i64 _) hg, ?_⟩
  subst hw
  exact Below.refl _ _

end Go.Proofs.YtmcbhnbemhfifaaDoor.RX
