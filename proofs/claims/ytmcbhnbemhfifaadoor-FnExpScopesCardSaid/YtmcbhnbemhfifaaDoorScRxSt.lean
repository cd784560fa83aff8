/- MADE BY PROGRAM (gen.py) -/
import Derived.Test.YtmcbhnbemhfifaaDoorRxK
namespace Go.Proofs.YtmcbhnbemhfifaaDoor.RX
open Go Go.RowKit
set_option autoImplicit false
structure TExpForm where
  vSort : Int
  vText : ByteArray
  vScopes : (List Int)
  vFrom : Int
  vKids : (List TExpForm)
def zTExpForm : TExpForm := ⟨(0 : Int), ByteArray.empty, [], (0 : Int), []⟩
theorem mTExpForm (x : TExpForm) : TExpForm.mk x.vSort x.vText x.vScopes x.vFrom x.vKids = x := by cases x; rfl
def eTExpForm (x : TExpForm) : TExpForm := ⟨x.vSort, x.vText, x.vScopes, x.vFrom, x.vKids⟩
theorem eTExpForm_eq (x : TExpForm) : eTExpForm x = x := by cases x; rfl
structure Tspec_l1Rd where
  vb : (List Int)
  vp : Int
def zTspec_l1Rd : Tspec_l1Rd := ⟨[], (0 : Int)⟩
theorem mTspec_l1Rd (x : Tspec_l1Rd) : Tspec_l1Rd.mk x.vb x.vp = x := by cases x; rfl
end Go.Proofs.YtmcbhnbemhfifaaDoor.RX
