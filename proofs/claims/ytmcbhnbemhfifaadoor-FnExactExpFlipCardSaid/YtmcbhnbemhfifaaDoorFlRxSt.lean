/- MADE BY PROGRAM (gen.py) -/
import Derived.Test.YtmcbhnbemhfifaaDoorRxK
namespace Go.Proofs.YtmcbhnbemhfifaaDoor.RX
open Go Go.RowKit
set_option autoImplicit false
structure TExpForm where
  vSort : Int
  vText : ByteArray
  vScopes : (List Int)
  vFrom : Int
  vKids : (List TExpForm)
def zTExpForm : TExpForm := ⟨(0 : Int), ByteArray.empty, [], (0 : Int), []⟩
theorem mTExpForm (x : TExpForm) : TExpForm.mk x.vSort x.vText x.vScopes x.vFrom x.vKids = x := by cases x; rfl
def eTExpForm (x : TExpForm) : TExpForm := ⟨x.vSort, x.vText, x.vScopes, x.vFrom, x.vKids⟩
theorem eTExpForm_eq (x : TExpForm) : eTExpForm x = x := by cases x; rfl
structure Tlaws_ExpForm where
  vSort : Int
  vText : ByteArray
  vScopes : (List Int)
  vFrom : Int
  vKids : (List Tlaws_ExpForm)
def zTlaws_ExpForm : Tlaws_ExpForm := ⟨(0 : Int), ByteArray.empty, [], (0 : Int), []⟩
theorem mTlaws_ExpForm (x : Tlaws_ExpForm) : Tlaws_ExpForm.mk x.vSort x.vText x.vScopes x.vFrom x.vKids = x := by cases x; rfl
def eTlaws_ExpForm (x : Tlaws_ExpForm) : Tlaws_ExpForm := ⟨x.vSort, x.vText, x.vScopes, x.vFrom, x.vKids⟩
theorem eTlaws_ExpForm_eq (x : Tlaws_ExpForm) : eTlaws_ExpForm x = x := by cases x; rfl
end Go.Proofs.YtmcbhnbemhfifaaDoor.RX
