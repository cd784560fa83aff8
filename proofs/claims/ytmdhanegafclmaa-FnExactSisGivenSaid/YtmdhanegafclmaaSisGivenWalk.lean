/- The two texts of given macros, the program's and the reference's, are one and the same string: each function hands back its constant, and the two constants are equal by the kernel's own reckoning. No condition. -/
import Derived.Test.YtmdhanegafclmaaRows
import Derived.WalkKit
import Derived.ProofKit
import Derived.OpenShut
import Derived.Below
namespace Go.Proofs.Ytmdhanegafclmaa.sisGiven
open Go.ChangeShapes Go.WideShapes Go.ChangeAt Go.RowKit

/-- The constant that a function of two assignments hands back. -/
def constOf (f : Func) : ByteArray :=
  match f.body with
  | some (.seq _ (.seq (.region _ ops _) _)) =>
    match ops[0]? with
    | some o => (match o.op with | .assign (.const (.string s)) => s | _ => ByteArray.empty)
    | _ => ByteArray.empty
  | _ => ByteArray.empty

noncomputable def mine : ByteArray := constOf Try.f10
theorem same : constOf Try.f11 = mine := by kernel_rfl

theorem calls10 (w : World) : Calls Try.prog 10 #[] w fun e w' => e = .returned (.string mine) ∧ w' = w := by
  go_enter Try.func10, Try.ntmps10
  go_wp2
  go_ret
  exact ⟨by kernel_rfl, rfl⟩
theorem calls11 (w : World) : Calls Try.prog 11 #[] w fun e w' => e = .returned (.string mine) ∧ w' = w := by
  rw [← same]
  go_enter Try.func11, Try.ntmps11
  go_wp2
  go_ret
  exact ⟨by kernel_rfl, rfl⟩
theorem walk (w : World) : Calls Try.prog 4 #[] w fun e w' => e = .returned (.bool true) ∧ w' = w := by
  go_enter Try.func4, Try.ntmps4
  generalize hm : mine = m
  have h10 := calls10 w
  have h11 := calls11 w
  rw [hm] at h10 h11
  clear hm
  go_wp2_with (first
    | (go_at_call 10; refine h10.mono ?_; rintro e w' ⟨rfl, rfl⟩)
    | (go_at_call 11; refine h11.mono ?_; rintro e w' ⟨rfl, rfl⟩))
  all_goals go_ret
  all_goals simp_all
end Go.Proofs.Ytmdhanegafclmaa.sisGiven
