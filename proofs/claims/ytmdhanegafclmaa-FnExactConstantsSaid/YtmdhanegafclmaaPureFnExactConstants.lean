/- The program's constants are those that the reference's document names: the law's function, which compares each with its number, returns true. No condition. -/
import Derived.Test.YtmdhanegafclmaaPFnExactConstantsx1
namespace Go.Proofs.Ytmdhanegafclmaa.Pure
open Go.RowKit Go.Proofs.Ytmdhanegafclmaa.PFnExactConstants Go.Proofs.YtmdhanegafclmaaW.PrintWords Go.Proofs.YtmdhanegafclmaaW.PrintLast

/-- YOURS: laws_FnExactConstants.f  = some true
What it reaches (each with k first where it has rounds; `.mono`: more rounds tell the same; `.l0`, ..: its loops, with `.mono_l`): laws_FnExactConstants.f -/
theorem FnExactConstants : laws_FnExactConstants.Pure := by
  rfl

end Go.Proofs.Ytmdhanegafclmaa.Pure
